/- Printed by gen.py: what functions of the program compute, in plain Lean, and that they do. -/
import Derived.Test.YtjpabbkcbohmmaaE15
import Derived.Test.YtjpabbkcbohmmaaProg
import Derived.Test.YtjpabbkcbohmmaaF
set_option linter.unusedVariables false
set_option maxRecDepth 100000
set_option maxHeartbeats 4000000
namespace Go.Proofs.YtjpabbkcbohmmaaGAlarmOnce
open Go Go.Proofs.YtjpabbkcbohmmaaE
def tiL : List (Nat × TI) := [
  (3, ⟨1, 8, false, .int .i64, [.c (.sc (.int .i64 (0 : Int)))], some (.int .i64)⟩),
  (4, ⟨1, 1, false, .bool, [.c (.sc (.bool false))], some .bool⟩),
  (5, ⟨1, 1, false, .int .u8, [.c (.sc (.int .u8 (0 : Int)))], some (.int .u8)⟩),
  (22, ⟨1, 24, false, (.slice 5), [.c (.sc (.slice none 0 0))], some (.sl (.int .u8))⟩),
  (24, ⟨1, 24, false, (.slice 35), [.c (.sc (.slice none 0 0))], some (.sl (.pair (.int .i64) (.int .i64)))⟩),
  (25, ⟨1, 24, false, (.slice 3), [.c (.sc (.slice none 0 0))], some (.sl (.int .i64))⟩),
  (27, ⟨1, 16, false, .iface, [.c (.err none)], none⟩),
  (33, ⟨1, 8, false, .int .u64, [.c (.sc (.int .u64 (0 : Int)))], some (.int .u64)⟩),
  (35, ⟨2, 16, true, (.struct [(0, 3), (1, 3)]), [.c (.sc (.int .i64 (0 : Int))), .c (.sc (.int .i64 (0 : Int)))], some (.pair (.int .i64) (.int .i64))⟩),
  (41, ⟨1, 8, false, .int .i64, [.c (.sc (.int .i64 (0 : Int)))], some (.int .i64)⟩)]
def tabs : List (Nat × IntKind × List Int) := []
noncomputable def cfg : Cfg := ⟨Try.prog, 41, [] ++ tabs.flatMap tabG, tiL, [], tabs⟩
theorem cfg_ok : COk cfg := by
  refine ⟨fun p hp => ?_, by kernel_rfl, fun p hp => ?_, fun t ht => ?_, fun x hx y hy => List.mem_append_right _ (List.mem_flatMap.2 ⟨x, hx, hy⟩)⟩
  · simp only [cfg, tiL, List.mem_cons, List.not_mem_nil, or_false] at hp
    rcases hp with rfl | rfl | rfl | rfl | rfl | rfl | rfl | rfl | rfl | rfl <;> exact ⟨by kernel_rfl, by kernel_rfl, by kernel_rfl, by kernel_rfl, by kernel_rfl, by kernel_rfl⟩
  · simp only [cfg, tiL, List.mem_cons, List.not_mem_nil, or_false] at hp
    rcases hp with rfl | rfl | rfl | rfl | rfl | rfl | rfl | rfl | rfl | rfl <;> intro fs hfs bl hbl
    · cases hfs
    · cases hfs
    · cases hfs
    · cases hfs
    · cases hfs
    · cases hfs
    · cases hfs
    · cases hfs
    · cases hfs
      have e : fieldsZ cfg.L 0 [(0, 3), (1, 3)] = some [[.c (.sc (.int .i64 (0 : Int)))], [.c (.sc (.int .i64 (0 : Int)))]] := by kernel_rfl
      rw [e] at hbl
      cases hbl
      exact (by kernel_rfl : encPs (List.flatten [[.c (.sc (.int .i64 (0 : Int)))], [.c (.sc (.int .i64 (0 : Int)))]]) = encPs [.c (.sc (.int .i64 (0 : Int))), .c (.sc (.int .i64 (0 : Int)))])
    · cases hfs
  · cases ht
def fin : Scr → List Adj
  | .adj l _ => l
  | _ => []
abbrev z2 {a0 a1 a2 : Type} (x : a0 × a1 × a2) : a2 := x.2.2
/-! slices.Insert[[]halter/alarm.Alarm,halter/alarm.Alarm], by hand -/
def alarm_Insert.f (a0 : Nat) (a1 : Int) (a2 : List (Int × Int)) (a3 : List (Int × Int)) : Option (List (Int × Int)) := match a2 with
  | [x] => if 0 ≤ a1 ∧ a1.toNat ≤ a0 ∧ a0 ≤ List.length a3 ∧ (a0 + 1) * 16 ≤ 140737488355328 then some (List.take a1.toNat (List.take a0 a3) ++ (x :: List.drop a1.toNat (List.take a0 a3))) else none
  | _ => none
def alarm_Insert.R (t : List (Int × Int)) : Tm := .v (.one (.os 0 0 0 2 (List.length t) none))
def alarm_Insert.B (a0 : Nat) (a1 : Int) (a2 : List (Int × Int)) (a3 : List (Int × Int)) (t : List (Int × Int)) : List Box := [.gro false (.pair (.int .i64) (.int .i64)) t 35]
theorem alarm_Insert.fun_ {a0 : Nat} {a1 : Int} {a2 a3 t : List (Int × Int)} (h : alarm_Insert.f a0 a1 a2 a3 = some t) : Fun cfg 17 [.one (.os 0 0 0 2 a0 none), .one (.sc (.int .i64 a1)), .one (.fs (.pair (.int .i64) (.int .i64)) a2 false)] [.gro false (.pair (.int .i64) (.int .i64)) a3 35] (alarm_Insert.R t) (alarm_Insert.B a0 a1 a2 a3 t) := by
  unfold alarm_Insert.f at h
  split at h
  · rename_i x
    split at h
    · rename_i hc
      obtain ⟨h0, h1, h2, h3⟩ := hc
      cases h
      obtain ⟨k, rfl⟩ := Int.eq_ofNat_of_zero_le h0
      exact YtjpabbkcbohmmaaF.ins_fun2 (C := cfg) rfl cfg_ok (L := a3) (x := x) (i := k) (k := a0) h2 h1 h3 rfl (fun l => by kernel_rfl)
    · cases h
  · cases h
def alarm_InsertT.f (a1 : Int) (a2 : List (Int × Int)) (a3 : List (Int × Int)) : Option (List (Int × Int)) := match a2 with
  | [x] => if 0 ≤ a1 ∧ a1.toNat ≤ (List.length a3) ∧ (List.length a3) ≤ List.length a3 ∧ ((List.length a3) + 1) * 16 ≤ 140737488355328 then some (List.take a1.toNat (List.take (List.length a3) a3) ++ (x :: List.drop a1.toNat (List.take (List.length a3) a3))) else none
  | _ => none
def alarm_InsertT.R (t : List (Int × Int)) : Tm := .v (.one (.os 0 0 0 2 (List.length t) none))
def alarm_InsertT.B (a1 : Int) (a2 : List (Int × Int)) (a3 : List (Int × Int)) (t : List (Int × Int)) : List Box := [.gro false (.pair (.int .i64) (.int .i64)) t 35]
theorem alarm_InsertT.fun_ {a1 : Int} {a2 a3 t : List (Int × Int)} (h : alarm_InsertT.f a1 a2 a3 = some t) : Fun cfg 17 [.one (.os 0 0 0 2 (List.length a3) none), .one (.sc (.int .i64 a1)), .one (.fs (.pair (.int .i64) (.int .i64)) a2 false)] [.gro false (.pair (.int .i64) (.int .i64)) a3 35] (alarm_InsertT.R t) (alarm_InsertT.B a1 a2 a3 t) := by
  unfold alarm_InsertT.f at h
  split at h
  · rename_i x
    split at h
    · rename_i hc
      obtain ⟨h0, h1, h2, h3⟩ := hc
      cases h
      obtain ⟨k, rfl⟩ := Int.eq_ofNat_of_zero_le h0
      exact YtjpabbkcbohmmaaF.ins_fun2 (C := cfg) rfl cfg_ok (L := a3) (x := x) (i := k) (k := (List.length a3)) h2 h1 h3 rfl (fun l => by kernel_rfl)
    · cases h
  · cases h
/-! halter/pids.Check -/
def pids_Check.f (a0 : Int) : Option (Option Int) :=
  if a0 < (1 : Int) then
    some (some (22 : Int))
  else
    if a0 > (99 : Int) then
      some (some (22 : Int))
    else
      some none
def pids_Check.R (r : (Option Int)) : Tm := .v (.one (.err r))
theorem pids_Check.fun_ {a0 : Int} {r : (Option Int)} (h : pids_Check.f a0 = some r) : Fun cfg 11 [.one (.sc (.int .i64 a0))] [] (pids_Check.R r) [] := by
  unfold pids_Check.f at h
  refine fun_of_run cfg_ok (f := 11) (fn := Try.f11) Try.func11 rfl (by kernel_rfl) (rs := [.tmp 2]) rfl (nt := 10) rfl (l := fin) (k := (.br (oT 3 (aE 3 .nil)) (oF 2 (.br (aE 3 .nil) (aE 4 .nil))))) (to_goal (q := (True) ∧ (((decide (a0 < (1 : Int))) = false → ((decide (a0 < (1 : Int))) = false ∧ (True) ∧ ((decide (a0 < (1 : Int))) = false ∧ (((decide (a0 > (99 : Int))) = true → (True ∧ (True ∧ ((True) ∧ (True) ∧ (.v (.one (.err (some (22 : Int)))) : Tm) = pids_Check.R r ∧ ([] : List Box) = [])))) ∧ ((decide (a0 > (99 : Int))) = false → (True ∧ (True ∧ (True ∧ ((True) ∧ (True) ∧ (.v (.one (.err none)) : Tm) = pids_Check.R r ∧ ([] : List Box) = []))))))))) ∧ ((decide (a0 < (1 : Int))) = true → ((decide (a0 < (1 : Int))) = true ∧ ((decide (a0 < (1 : Int))) = true ∧ (true = true ∧ (True ∧ (True ∧ ((True) ∧ (True) ∧ (.v (.one (.err (some (22 : Int)))) : Tm) = pids_Check.R r ∧ ([] : List Box) = []))))))))) (by kernel_rfl) ?_)
  refine ⟨trivial, ?_⟩
  refine ⟨fun b1 => ?_, fun b1 => ?_⟩
  · rw [if_neg (of_decide_eq_false b1)] at h
    refine ⟨b1, ?_⟩
    refine ⟨trivial, ?_⟩
    refine ⟨b1, ?_⟩
    refine ⟨fun b2 => ?_, fun b2 => ?_⟩
    · rw [if_pos (of_decide_eq_true b2)] at h
      refine ⟨trivial, trivial, ?_⟩
      obtain rfl := Option.some.inj h
      exact ⟨trivial, trivial, rfl, rfl⟩
    · rw [if_neg (of_decide_eq_false b2)] at h
      refine ⟨trivial, trivial, trivial, ?_⟩
      obtain rfl := Option.some.inj h
      exact ⟨trivial, trivial, rfl, rfl⟩
  · rw [if_pos (of_decide_eq_true b1)] at h
    refine ⟨b1, ?_⟩
    refine ⟨b1, ?_⟩
    refine ⟨rfl, trivial, trivial, ?_⟩
    obtain rfl := Option.some.inj h
    exact ⟨trivial, trivial, rfl, rfl⟩
/-! halter/alarm.Check -/
def alarm_Check.l0 (a0 : (List (Int × Int))) : Nat → Int → Option ((Unit) ⊕ (Unit))
  | 0, _ => none
  | n + 1, x1 =>
    if x1 < (((List.length a0) : Nat) : Int) then
      if 0 ≤ x1 ∧ x1 < (((List.length a0) : Nat) : Int) then
        (pids_Check.f (List.getD a0 (Int.toNat x1) ((0 : Int), (0 : Int))).1).bind fun t13 =>
        if ¬ (t13 = none) then
          some (.inr ())
        else
          if (List.getD a0 (Int.toNat x1) ((0 : Int), (0 : Int))).2 < (1 : Int) then
            some (.inr ())
          else
            if (List.getD a0 (Int.toNat x1) ((0 : Int), (0 : Int))).2 > (1099511627776 : Int) then
              some (.inr ())
            else
              if x1 > (0 : Int) then
                if 0 ≤ (IntKind.wrap .i64 (x1 - (1 : Int))) ∧ (IntKind.wrap .i64 (x1 - (1 : Int))) < (((List.length a0) : Nat) : Int) then
                  if (List.getD a0 (Int.toNat (IntKind.wrap .i64 (x1 - (1 : Int)))) ((0 : Int), (0 : Int))).1 ≥ (List.getD a0 (Int.toNat x1) ((0 : Int), (0 : Int))).1 then
                    some (.inr ())
                  else
                    alarm_Check.l0 a0 n (IntKind.wrap .i64 (x1 + (1 : Int)))
                else none
              else
                alarm_Check.l0 a0 n (IntKind.wrap .i64 (x1 + (1 : Int)))
      else none
    else
      some (.inl ())
def alarm_Check.l0_S (a0 : (List (Int × Int))) (x1 : Int) : St := ⟨[.v (.one (.fs (.pair (.int .i64) (.int .i64)) a0 false)), .any, .any, .any, .any, .v (.one (.fs (.pair (.int .i64) (.int .i64)) a0 false)), .v (.one (.sc (.int .i64 (((List.length a0) : Nat) : Int)))), .v (.one (.sc (.int .i64 x1))), .any, .any, .any, .any, .any, .any, .any, .any, .any, .any, .any, .any, .any, .any, .any, .any, .any, .any, .any, .any, .any, .any, .any, .any, .any, .any, .any, .any, .any, .any, .any, .any, .any, .any, .any], [], 0⟩
def alarm_Check.l0_Q (a0 : (List (Int × Int))) : (Unit) ⊕ (Unit) → Exit → St → Prop
  | .inl t => fun e s => e = (.exit 0) ∧ s = ⟨[.any, .any, .any, .any, .any, .any, .any, .any, .any, .any, .any, .any, .any, .any, .any, .any, .any, .any, .any, .any, .any, .any, .any, .any, .any, .any, .any, .any, .any, .any, .any, .any, .any, .any, .any, .any, .any, .any, .any, .any, .any, .any, .any], [], 0⟩
  | .inr t => fun e s => e = .ret ∧ s = ⟨[.any, .any, .v (.one (.err (some (22 : Int)))), .any, .any, .any, .any, .any, .any, .any, .any, .any, .any, .any, .any, .any, .any, .any, .any, .any, .any, .any, .any, .any, .any, .any, .any, .any, .any, .any, .any, .any, .any, .any, .any, .any, .any, .any, .any, .any, .any, .any, .any], [], 0⟩
theorem alarm_Check.l0_ok (a0 : (List (Int × Int))) : ∀ (n : Nat) (x1 : Int) (r : (Unit) ⊕ (Unit)), alarm_Check.l0 a0 n x1 = some r → TripN cfg (cpath (Try.f9.body.getD .skip) [1, 0, 1, 0, 0]) n (alarm_Check.l0_S a0 x1) (alarm_Check.l0_Q a0 r) := by
  intro n
  induction n with
  | zero => intro x1 r h; cases h
  | succ n ih =>
    intro x1 r h
    rw [alarm_Check.l0] at h
    refine TripN.of_run cfg_ok (k := (.br (.ex ((Option Int)) (fun t13 => (.emb (!(Option.isNone t13)) (.dr [(0, dN), (1, dN), (2, ⟨none, .callP true [] (pids_Check.R t13), false⟩), (3, dN), (4, dN), (5, dT), (6, dT), (7, dT), (8, d1), (9, dN), (10, dT), (11, dT), (12, dT), (13, d1), (14, dN), (15, dT), (16, dT), (17, dT), (18, dT), (19, dT), (20, dT), (21, dT), (22, dT), (24, dT), (23, dT), (25, dT), (26, dT), (27, dT), (28, d1)] (.one true (.adj [] (.adj [.keep [2], .drop 0] .nil)))) (.emb (decide ((List.getD a0 (Int.toNat x1) ((0 : Int), (0 : Int))).2 < (1 : Int))) (.dr [(0, dN), (1, dN), (2, ⟨none, .callP true [] (pids_Check.R t13), false⟩), (3, dN), (4, dN), (5, dF), (6, dF), (7, dF), (8, d0), (9, dN), (10, dT), (11, dT), (12, dT), (13, d1), (14, dN), (15, dT), (16, dT), (17, dT), (18, dT), (19, dT), (20, dT), (21, dT), (22, dT), (24, dT), (23, dT), (25, dT), (26, dT), (27, dT), (28, d1)] (.one true (.adj [] (.adj [.keep [2], .drop 0] .nil)))) (.emb (decide ((List.getD a0 (Int.toNat x1) ((0 : Int), (0 : Int))).2 > (1099511627776 : Int))) (.dr [(0, dN), (1, dN), (2, ⟨none, .callP true [] (pids_Check.R t13), false⟩), (3, dN), (4, dN), (5, dF), (6, dF), (7, dF), (8, d0), (9, dN), (10, dF), (11, dF), (12, dF), (13, d0), (14, dN), (15, dT), (16, dT), (17, dT), (18, dT), (19, dT), (20, dT), (21, dT), (22, dT), (24, dT), (23, dT), (25, dT), (26, dT), (27, dT), (28, d1)] (.one true (.adj [] (.adj [.keep [2], .drop 0] .nil)))) (.emb (decide (x1 > (0 : Int))) (.dr [(0, dN), (1, dN), (2, ⟨none, .callP true [] (pids_Check.R t13), false⟩), (3, dN), (4, dN), (5, dF), (6, dF), (7, dF), (8, d0), (9, dN), (10, dF), (11, dF), (12, dF), (13, d0), (14, dN), (15, dF), (16, dF), (17, dF), (18, dT), (19, dT), (20, dT), (21, dT), (22, dT), (24, dT), (23, dT), (25, dT), (26, dT), (27, ⟨(some false), .b true, false⟩), (28, d0)] (.br (.adj [] (.adj [.keep [2], .drop 0] .nil)) (aE 2 (.adj [.keep [0, 5, 6, 7], .drop 0] .nil)))) (.dr [(0, dN), (1, dN), (2, ⟨none, .callP true [] (pids_Check.R t13), false⟩), (3, dN), (4, dN), (5, dF), (6, dF), (7, dF), (8, d0), (9, dN), (10, dF), (11, dF), (12, dF), (13, d0), (14, dN), (15, dF), (16, dF), (17, dF), (18, dF), (19, dF), (20, dF), (21, dF), (22, dF), (24, dF), (23, dF), (25, dF), (26, dF), (27, ⟨(some false), .b false, false⟩), (28, d0)] (.one false (aE 2 (.adj [.keep [0, 5, 6, 7], .drop 0] .nil)))))))))) (.adj [.keep [], .drop 0] .nil))) (to_goal (q := (True) ∧ (((decide (x1 < (((List.length a0) : Nat) : Int))) = true → (0 ≤ x1 ∧ x1 < (((List.length a0) : Nat) : Int)) ∧ (True) ∧ (True) ∧ (∃ t13 : (Option Int), (((!(Option.isNone t13)) = true → (True) ∧ (Fun cfg 11 [.one (.sc (.int .i64 (List.getD a0 (Int.toNat x1) ((0 : Int), (0 : Int))).1))] [] (pids_Check.R t13) [] ∧ True) ∧ (True) ∧ ((!(Option.isNone t13)) = true) ∧ ((!(Option.isNone t13)) = true) ∧ ((!(Option.isNone t13)) = true) ∧ ((!(Option.isNone t13)) = true) ∧ (true = true) ∧ (true = true) ∧ (true = true) ∧ (true = true) ∧ (true = true) ∧ (true = true) ∧ (true = true) ∧ (True) ∧ (True) ∧ (True) ∧ (True) ∧ (True) ∧ (True) ∧ (True) ∧ (True) ∧ (True) ∧ (true = true) ∧ (true = true) ∧ (true = true ∧ (True ∧ (((True) ∧ (True) ∧ True) ∧ alarm_Check.l0_Q a0 r .ret ⟨[.any, .any, .v (.one (.err (some (22 : Int)))), .any, .any, .any, .any, .any, .any, .any, .any, .any, .any, .any, .any, .any, .any, .any, .any, .any, .any, .any, .any, .any, .any, .any, .any, .any, .any, .any, .any, .any, .any, .any, .any, .any, .any, .any, .any, .any, .any, .any, .any], [], 0⟩)))) ∧ ((!(Option.isNone t13)) = false → (((decide ((List.getD a0 (Int.toNat x1) ((0 : Int), (0 : Int))).2 < (1 : Int))) = true → (True) ∧ (Fun cfg 11 [.one (.sc (.int .i64 (List.getD a0 (Int.toNat x1) ((0 : Int), (0 : Int))).1))] [] (pids_Check.R t13) [] ∧ True) ∧ (True) ∧ ((!(Option.isNone t13)) = false ∧ True) ∧ ((!(Option.isNone t13)) = false ∧ True) ∧ ((!(Option.isNone t13)) = false ∧ True) ∧ ((!(Option.isNone t13)) = false) ∧ ((decide ((List.getD a0 (Int.toNat x1) ((0 : Int), (0 : Int))).2 < (1 : Int))) = true) ∧ ((decide ((List.getD a0 (Int.toNat x1) ((0 : Int), (0 : Int))).2 < (1 : Int))) = true) ∧ ((decide ((List.getD a0 (Int.toNat x1) ((0 : Int), (0 : Int))).2 < (1 : Int))) = true) ∧ ((decide ((List.getD a0 (Int.toNat x1) ((0 : Int), (0 : Int))).2 < (1 : Int))) = true) ∧ (true = true) ∧ (true = true) ∧ (true = true) ∧ (True) ∧ (True) ∧ (True) ∧ (True) ∧ (True) ∧ (True) ∧ (True) ∧ (True) ∧ (True) ∧ (true = true) ∧ (true = true) ∧ (true = true ∧ (True ∧ (((True) ∧ (True) ∧ True) ∧ alarm_Check.l0_Q a0 r .ret ⟨[.any, .any, .v (.one (.err (some (22 : Int)))), .any, .any, .any, .any, .any, .any, .any, .any, .any, .any, .any, .any, .any, .any, .any, .any, .any, .any, .any, .any, .any, .any, .any, .any, .any, .any, .any, .any, .any, .any, .any, .any, .any, .any, .any, .any, .any, .any, .any, .any], [], 0⟩)))) ∧ ((decide ((List.getD a0 (Int.toNat x1) ((0 : Int), (0 : Int))).2 < (1 : Int))) = false → (((decide ((List.getD a0 (Int.toNat x1) ((0 : Int), (0 : Int))).2 > (1099511627776 : Int))) = true → (True) ∧ (Fun cfg 11 [.one (.sc (.int .i64 (List.getD a0 (Int.toNat x1) ((0 : Int), (0 : Int))).1))] [] (pids_Check.R t13) [] ∧ True) ∧ (True) ∧ ((!(Option.isNone t13)) = false ∧ True) ∧ ((!(Option.isNone t13)) = false ∧ True) ∧ ((!(Option.isNone t13)) = false ∧ True) ∧ ((!(Option.isNone t13)) = false) ∧ ((decide ((List.getD a0 (Int.toNat x1) ((0 : Int), (0 : Int))).2 < (1 : Int))) = false ∧ True) ∧ ((decide ((List.getD a0 (Int.toNat x1) ((0 : Int), (0 : Int))).2 < (1 : Int))) = false ∧ True) ∧ ((decide ((List.getD a0 (Int.toNat x1) ((0 : Int), (0 : Int))).2 < (1 : Int))) = false ∧ True) ∧ ((decide ((List.getD a0 (Int.toNat x1) ((0 : Int), (0 : Int))).2 < (1 : Int))) = false) ∧ ((decide ((List.getD a0 (Int.toNat x1) ((0 : Int), (0 : Int))).2 > (1099511627776 : Int))) = true) ∧ ((decide ((List.getD a0 (Int.toNat x1) ((0 : Int), (0 : Int))).2 > (1099511627776 : Int))) = true) ∧ ((decide ((List.getD a0 (Int.toNat x1) ((0 : Int), (0 : Int))).2 > (1099511627776 : Int))) = true) ∧ (True) ∧ (True) ∧ (True) ∧ (True) ∧ (True) ∧ (True) ∧ (True) ∧ (True) ∧ (True) ∧ ((decide ((List.getD a0 (Int.toNat x1) ((0 : Int), (0 : Int))).2 > (1099511627776 : Int))) = true) ∧ ((decide ((List.getD a0 (Int.toNat x1) ((0 : Int), (0 : Int))).2 > (1099511627776 : Int))) = true) ∧ (true = true ∧ (True ∧ (((True) ∧ (True) ∧ True) ∧ alarm_Check.l0_Q a0 r .ret ⟨[.any, .any, .v (.one (.err (some (22 : Int)))), .any, .any, .any, .any, .any, .any, .any, .any, .any, .any, .any, .any, .any, .any, .any, .any, .any, .any, .any, .any, .any, .any, .any, .any, .any, .any, .any, .any, .any, .any, .any, .any, .any, .any, .any, .any, .any, .any, .any, .any], [], 0⟩)))) ∧ ((decide ((List.getD a0 (Int.toNat x1) ((0 : Int), (0 : Int))).2 > (1099511627776 : Int))) = false → (((decide (x1 > (0 : Int))) = true → (True) ∧ (Fun cfg 11 [.one (.sc (.int .i64 (List.getD a0 (Int.toNat x1) ((0 : Int), (0 : Int))).1))] [] (pids_Check.R t13) [] ∧ True) ∧ (True) ∧ ((!(Option.isNone t13)) = false ∧ True) ∧ ((!(Option.isNone t13)) = false ∧ True) ∧ ((!(Option.isNone t13)) = false ∧ True) ∧ ((!(Option.isNone t13)) = false) ∧ ((decide ((List.getD a0 (Int.toNat x1) ((0 : Int), (0 : Int))).2 < (1 : Int))) = false ∧ True) ∧ ((decide ((List.getD a0 (Int.toNat x1) ((0 : Int), (0 : Int))).2 < (1 : Int))) = false ∧ True) ∧ ((decide ((List.getD a0 (Int.toNat x1) ((0 : Int), (0 : Int))).2 < (1 : Int))) = false ∧ True) ∧ ((decide ((List.getD a0 (Int.toNat x1) ((0 : Int), (0 : Int))).2 < (1 : Int))) = false) ∧ ((decide ((List.getD a0 (Int.toNat x1) ((0 : Int), (0 : Int))).2 > (1099511627776 : Int))) = false ∧ True) ∧ ((decide ((List.getD a0 (Int.toNat x1) ((0 : Int), (0 : Int))).2 > (1099511627776 : Int))) = false ∧ True) ∧ ((decide ((List.getD a0 (Int.toNat x1) ((0 : Int), (0 : Int))).2 > (1099511627776 : Int))) = false ∧ True) ∧ ((decide (x1 > (0 : Int))) = true ∧ True) ∧ ((decide (x1 > (0 : Int))) = true ∧ True) ∧ ((decide (x1 > (0 : Int))) = true ∧ True) ∧ ((decide (x1 > (0 : Int))) = true ∧ 0 ≤ (IntKind.wrap .i64 (x1 - (1 : Int))) ∧ (IntKind.wrap .i64 (x1 - (1 : Int))) < (((List.length a0) : Nat) : Int)) ∧ ((decide (x1 > (0 : Int))) = true ∧ True) ∧ ((decide (x1 > (0 : Int))) = true ∧ True) ∧ ((decide (x1 > (0 : Int))) = true ∧ True) ∧ ((decide (x1 > (0 : Int))) = true ∧ True) ∧ ((decide (x1 > (0 : Int))) = true ∧ True) ∧ ((decide ((List.getD a0 (Int.toNat x1) ((0 : Int), (0 : Int))).2 > (1099511627776 : Int))) = false ∧ (decide (x1 > (0 : Int))) = true) ∧ ((decide ((List.getD a0 (Int.toNat x1) ((0 : Int), (0 : Int))).2 > (1099511627776 : Int))) = false) ∧ (((decide ((List.getD a0 (Int.toNat (IntKind.wrap .i64 (x1 - (1 : Int)))) ((0 : Int), (0 : Int))).1 ≥ (List.getD a0 (Int.toNat x1) ((0 : Int), (0 : Int))).1)) = true → (True ∧ (((True) ∧ (True) ∧ True) ∧ alarm_Check.l0_Q a0 r .ret ⟨[.any, .any, .v (.one (.err (some (22 : Int)))), .any, .any, .any, .any, .any, .any, .any, .any, .any, .any, .any, .any, .any, .any, .any, .any, .any, .any, .any, .any, .any, .any, .any, .any, .any, .any, .any, .any, .any, .any, .any, .any, .any, .any, .any, .any, .any, .any, .any, .any], [], 0⟩))) ∧ ((decide ((List.getD a0 (Int.toNat (IntKind.wrap .i64 (x1 - (1 : Int)))) ((0 : Int), (0 : Int))).1 ≥ (List.getD a0 (Int.toNat x1) ((0 : Int), (0 : Int))).1)) = false → (True ∧ (True ∧ (True) ∧ (((True) ∧ (True) ∧ True) ∧ TripN cfg (cpath (Try.f9.body.getD .skip) [1, 0, 1, 0, 0]) n (alarm_Check.l0_S a0 (IntKind.wrap .i64 (x1 + (1 : Int)))) (alarm_Check.l0_Q a0 r))))))) ∧ ((decide (x1 > (0 : Int))) = false → (True) ∧ (Fun cfg 11 [.one (.sc (.int .i64 (List.getD a0 (Int.toNat x1) ((0 : Int), (0 : Int))).1))] [] (pids_Check.R t13) [] ∧ True) ∧ (True) ∧ ((!(Option.isNone t13)) = false ∧ True) ∧ ((!(Option.isNone t13)) = false ∧ True) ∧ ((!(Option.isNone t13)) = false ∧ True) ∧ ((!(Option.isNone t13)) = false) ∧ ((decide ((List.getD a0 (Int.toNat x1) ((0 : Int), (0 : Int))).2 < (1 : Int))) = false ∧ True) ∧ ((decide ((List.getD a0 (Int.toNat x1) ((0 : Int), (0 : Int))).2 < (1 : Int))) = false ∧ True) ∧ ((decide ((List.getD a0 (Int.toNat x1) ((0 : Int), (0 : Int))).2 < (1 : Int))) = false ∧ True) ∧ ((decide ((List.getD a0 (Int.toNat x1) ((0 : Int), (0 : Int))).2 < (1 : Int))) = false) ∧ ((decide ((List.getD a0 (Int.toNat x1) ((0 : Int), (0 : Int))).2 > (1099511627776 : Int))) = false ∧ True) ∧ ((decide ((List.getD a0 (Int.toNat x1) ((0 : Int), (0 : Int))).2 > (1099511627776 : Int))) = false ∧ True) ∧ ((decide ((List.getD a0 (Int.toNat x1) ((0 : Int), (0 : Int))).2 > (1099511627776 : Int))) = false ∧ True) ∧ ((decide (x1 > (0 : Int))) = false) ∧ ((decide (x1 > (0 : Int))) = false) ∧ ((decide (x1 > (0 : Int))) = false) ∧ ((decide (x1 > (0 : Int))) = false) ∧ ((decide (x1 > (0 : Int))) = false) ∧ ((decide (x1 > (0 : Int))) = false) ∧ ((decide (x1 > (0 : Int))) = false) ∧ ((decide (x1 > (0 : Int))) = false) ∧ ((decide (x1 > (0 : Int))) = false) ∧ ((decide ((List.getD a0 (Int.toNat x1) ((0 : Int), (0 : Int))).2 > (1099511627776 : Int))) = false ∧ (decide (x1 > (0 : Int))) = false) ∧ ((decide ((List.getD a0 (Int.toNat x1) ((0 : Int), (0 : Int))).2 > (1099511627776 : Int))) = false) ∧ (false = false ∧ (True ∧ (True ∧ (True) ∧ (((True) ∧ (True) ∧ True) ∧ TripN cfg (cpath (Try.f9.body.getD .skip) [1, 0, 1, 0, 0]) n (alarm_Check.l0_S a0 (IntKind.wrap .i64 (x1 + (1 : Int)))) (alarm_Check.l0_Q a0 r))))))))))))))) ∧ ((decide (x1 < (((List.length a0) : Nat) : Int))) = false → (((True) ∧ (True) ∧ True) ∧ alarm_Check.l0_Q a0 r (.exit 0) ⟨[.any, .any, .any, .any, .any, .any, .any, .any, .any, .any, .any, .any, .any, .any, .any, .any, .any, .any, .any, .any, .any, .any, .any, .any, .any, .any, .any, .any, .any, .any, .any, .any, .any, .any, .any, .any, .any, .any, .any, .any, .any, .any, .any], [], 0⟩)))) (by kernel_rfl) ?_)
    refine ⟨trivial, ?_⟩
    refine ⟨fun b12 => ?_, fun b12 => ?_⟩
    · rw [if_pos (of_decide_eq_true b12)] at h
      obtain ⟨g20, h⟩ := of_guard h
      refine ⟨g20, ?_⟩
      refine ⟨trivial, trivial, ?_⟩
      obtain ⟨t13, ht13, h⟩ := of_bind h
      refine ⟨t13, ?_⟩
      refine ⟨fun b14 => ?_, fun b14 => ?_⟩
      · rw [if_pos (none_f (not_t b14))] at h
        refine ⟨trivial, ⟨pids_Check.fun_ ht13, trivial⟩, trivial, b14, b14, b14, b14, rfl, rfl, rfl, rfl, rfl, rfl, rfl, trivial, trivial, trivial, trivial, trivial, trivial, trivial, trivial, trivial, rfl, rfl, ?_⟩
        refine ⟨rfl, trivial, ?_⟩
        obtain rfl := Option.some.inj h
        exact ⟨⟨trivial, trivial, trivial⟩, rfl, rfl⟩
      · rw [if_neg (not_not_intro (none_t (not_f b14)))] at h
        refine ⟨fun b15 => ?_, fun b15 => ?_⟩
        · rw [if_pos (of_decide_eq_true b15)] at h
          refine ⟨trivial, ⟨pids_Check.fun_ ht13, trivial⟩, trivial, ⟨b14, trivial⟩, ⟨b14, trivial⟩, ⟨b14, trivial⟩, b14, b15, b15, b15, b15, rfl, rfl, rfl, trivial, trivial, trivial, trivial, trivial, trivial, trivial, trivial, trivial, rfl, rfl, ?_⟩
          refine ⟨rfl, trivial, ?_⟩
          obtain rfl := Option.some.inj h
          exact ⟨⟨trivial, trivial, trivial⟩, rfl, rfl⟩
        · rw [if_neg (of_decide_eq_false b15)] at h
          refine ⟨fun b16 => ?_, fun b16 => ?_⟩
          · rw [if_pos (of_decide_eq_true b16)] at h
            refine ⟨trivial, ⟨pids_Check.fun_ ht13, trivial⟩, trivial, ⟨b14, trivial⟩, ⟨b14, trivial⟩, ⟨b14, trivial⟩, b14, ⟨b15, trivial⟩, ⟨b15, trivial⟩, ⟨b15, trivial⟩, b15, b16, b16, b16, trivial, trivial, trivial, trivial, trivial, trivial, trivial, trivial, trivial, b16, b16, ?_⟩
            refine ⟨rfl, trivial, ?_⟩
            obtain rfl := Option.some.inj h
            exact ⟨⟨trivial, trivial, trivial⟩, rfl, rfl⟩
          · rw [if_neg (of_decide_eq_false b16)] at h
            refine ⟨fun b17 => ?_, fun b17 => ?_⟩
            · rw [if_pos (of_decide_eq_true b17)] at h
              obtain ⟨g18, h⟩ := of_guard h
              refine ⟨trivial, ⟨pids_Check.fun_ ht13, trivial⟩, trivial, ⟨b14, trivial⟩, ⟨b14, trivial⟩, ⟨b14, trivial⟩, b14, ⟨b15, trivial⟩, ⟨b15, trivial⟩, ⟨b15, trivial⟩, b15, ⟨b16, trivial⟩, ⟨b16, trivial⟩, ⟨b16, trivial⟩, ⟨b17, trivial⟩, ⟨b17, trivial⟩, ⟨b17, trivial⟩, ⟨b17, g18⟩, ⟨b17, trivial⟩, ⟨b17, trivial⟩, ⟨b17, trivial⟩, ⟨b17, trivial⟩, ⟨b17, trivial⟩, ⟨b16, b17⟩, b16, ?_⟩
              refine ⟨fun b19 => ?_, fun b19 => ?_⟩
              · rw [if_pos (of_decide_eq_true b19)] at h
                refine ⟨trivial, ?_⟩
                obtain rfl := Option.some.inj h
                exact ⟨⟨trivial, trivial, trivial⟩, rfl, rfl⟩
              · rw [if_neg (of_decide_eq_false b19)] at h
                refine ⟨trivial, trivial, trivial, ?_⟩
                exact ⟨⟨trivial, trivial, trivial⟩, ih (IntKind.wrap .i64 (x1 + (1 : Int))) r h⟩
            · rw [if_neg (of_decide_eq_false b17)] at h
              refine ⟨trivial, ⟨pids_Check.fun_ ht13, trivial⟩, trivial, ⟨b14, trivial⟩, ⟨b14, trivial⟩, ⟨b14, trivial⟩, b14, ⟨b15, trivial⟩, ⟨b15, trivial⟩, ⟨b15, trivial⟩, b15, ⟨b16, trivial⟩, ⟨b16, trivial⟩, ⟨b16, trivial⟩, b17, b17, b17, b17, b17, b17, b17, b17, b17, ⟨b16, b17⟩, b16, ?_⟩
              refine ⟨rfl, trivial, trivial, trivial, ?_⟩
              exact ⟨⟨trivial, trivial, trivial⟩, ih (IntKind.wrap .i64 (x1 + (1 : Int))) r h⟩
    · rw [if_neg (of_decide_eq_false b12)] at h
      obtain rfl := Option.some.inj h
      exact ⟨⟨trivial, trivial, trivial⟩, rfl, rfl⟩
def alarm_Check.f (a0 : (List (Int × Int))) : Option (Option Int) :=
  (alarm_Check.l0 a0 FUEL (0 : Int)).bind fun t11 =>
  match t11 with
  | .inl t21 =>
    some none
  | .inr t22 =>
    some (some (22 : Int))
def alarm_Check.R (r : (Option Int)) : Tm := .v (.one (.err r))
theorem alarm_Check.fun_ {a0 : (List (Int × Int))} {r : (Option Int)} (h : alarm_Check.f a0 = some r) : Fun cfg 9 [.one (.fs (.pair (.int .i64) (.int .i64)) a0 false)] [] (alarm_Check.R r) [] := by
  unfold alarm_Check.f at h
  refine fun_of_run cfg_ok (f := 9) (fn := Try.f9) Try.func9 rfl (by kernel_rfl) (rs := [.tmp 2]) rfl (nt := 43) rfl (l := fin) (k := (aE 3 (.adj [.keep [0, 5, 6, 7]] (.alt (.sub (Unit) (fun _ => (.exit 0)) (fun t21 => ⟨[.any, .any, .any, .any, .any, .any, .any, .any, .any, .any, .any, .any, .any, .any, .any, .any, .any, .any, .any, .any, .any, .any, .any, .any, .any, .any, .any, .any, .any, .any, .any, .any, .any, .any, .any, .any, .any, .any, .any, .any, .any, .any, .any], [], 0⟩) (fun t21 => (aE 3 .nil))) (.sub (Unit) (fun _ => .ret) (fun t22 => ⟨[.any, .any, .v (.one (.err (some (22 : Int)))), .any, .any, .any, .any, .any, .any, .any, .any, .any, .any, .any, .any, .any, .any, .any, .any, .any, .any, .any, .any, .any, .any, .any, .any, .any, .any, .any, .any, .any, .any, .any, .any, .any, .any, .any, .any, .any, .any, .any, .any], [], 0⟩) (fun t22 => (.adj [] .nil))))))) (to_goal (q := (True ∧ (True ∧ (True) ∧ (True ∧ (((True) ∧ True) ∧ ((∃ t21 : Unit, Trip cfg (.loop (cpath (Try.f9.body.getD .skip) [1, 0, 1, 0, 0])) ⟨[.v (.one (.fs (.pair (.int .i64) (.int .i64)) a0 false)), .any, .any, .any, .any, .v (.one (.fs (.pair (.int .i64) (.int .i64)) a0 false)), .v (.one (.sc (.int .i64 (((List.length a0) : Nat) : Int)))), .v (.one (.sc (.int .i64 (0 : Int)))), .any, .any, .any, .any, .any, .any, .any, .any, .any, .any, .any, .any, .any, .any, .any, .any, .any, .any, .any, .any, .any, .any, .any, .any, .any, .any, .any, .any, .any, .any, .any, .any, .any, .any, .any], [], 0⟩ (fun e s => e = (.exit 0) ∧ s = ⟨[.any, .any, .any, .any, .any, .any, .any, .any, .any, .any, .any, .any, .any, .any, .any, .any, .any, .any, .any, .any, .any, .any, .any, .any, .any, .any, .any, .any, .any, .any, .any, .any, .any, .any, .any, .any, .any, .any, .any, .any, .any, .any, .any], [], 0⟩) ∧ (True ∧ (True ∧ ((True) ∧ (True) ∧ (.v (.one (.err none)) : Tm) = alarm_Check.R r ∧ ([] : List Box) = [])))) ∨ (∃ t22 : Unit, Trip cfg (.loop (cpath (Try.f9.body.getD .skip) [1, 0, 1, 0, 0])) ⟨[.v (.one (.fs (.pair (.int .i64) (.int .i64)) a0 false)), .any, .any, .any, .any, .v (.one (.fs (.pair (.int .i64) (.int .i64)) a0 false)), .v (.one (.sc (.int .i64 (((List.length a0) : Nat) : Int)))), .v (.one (.sc (.int .i64 (0 : Int)))), .any, .any, .any, .any, .any, .any, .any, .any, .any, .any, .any, .any, .any, .any, .any, .any, .any, .any, .any, .any, .any, .any, .any, .any, .any, .any, .any, .any, .any, .any, .any, .any, .any, .any, .any], [], 0⟩ (fun e s => e = .ret ∧ s = ⟨[.any, .any, .v (.one (.err (some (22 : Int)))), .any, .any, .any, .any, .any, .any, .any, .any, .any, .any, .any, .any, .any, .any, .any, .any, .any, .any, .any, .any, .any, .any, .any, .any, .any, .any, .any, .any, .any, .any, .any, .any, .any, .any, .any, .any, .any, .any, .any, .any], [], 0⟩) ∧ ((True) ∧ (True) ∧ (.v (.one (.err (some (22 : Int)))) : Tm) = alarm_Check.R r ∧ ([] : List Box) = [])))))))) (by kernel_rfl) ?_)
  refine ⟨trivial, trivial, trivial, trivial, ?_⟩
  obtain ⟨t11, ht11, h⟩ := of_bind h
  refine ⟨⟨trivial, trivial⟩, ?_⟩
  rcases t11 with t21 | t22
  · dsimp only at h
    left
    refine ⟨t21, Trip.loop FUEL (alarm_Check.l0_ok a0 FUEL (0 : Int) (.inl t21) ht11), ?_⟩
    refine ⟨trivial, trivial, ?_⟩
    obtain rfl := Option.some.inj h
    exact ⟨trivial, trivial, rfl, rfl⟩
  · dsimp only at h
    right
    refine ⟨t22, Trip.loop FUEL (alarm_Check.l0_ok a0 FUEL (0 : Int) (.inr t22) ht11), ?_⟩
    obtain rfl := Option.some.inj h
    exact ⟨trivial, trivial, rfl, rfl⟩
/-! halter/alarm.timed -/
def alarm_timed.f (a0 : Int) : Option Bool :=
  if a0 ≥ (0 : Int) then
    some (decide (a0 ≤ (549755813888 : Int)))
  else
    some false
def alarm_timed.R (r : Bool) : Tm := .v (.one (.sc (.bool r)))
theorem alarm_timed.fun_ {a0 : Int} {r : Bool} (h : alarm_timed.f a0 = some r) : Fun cfg 10 [.one (.sc (.int .i64 a0))] [] (alarm_timed.R r) [] := by
  unfold alarm_timed.f at h
  refine fun_of_run cfg_ok (f := 10) (fn := Try.f10) Try.func10 rfl (by kernel_rfl) (rs := [.tmp 2]) rfl (nt := 9) rfl (l := fin) (k := (.br (oT 2 (aE 2 .nil)) (oF 2 (aE 2 .nil)))) (to_goal (q := (True) ∧ (((decide (a0 ≥ (0 : Int))) = true → ((decide (a0 ≥ (0 : Int))) = true ∧ (True) ∧ ((decide (a0 ≥ (0 : Int))) = true ∧ (True ∧ ((True) ∧ (True) ∧ (.v (.one (.sc (.bool (decide (a0 ≤ (549755813888 : Int)))))) : Tm) = alarm_timed.R r ∧ ([] : List Box) = []))))) ∧ ((decide (a0 ≥ (0 : Int))) = false → ((decide (a0 ≥ (0 : Int))) = false ∧ ((decide (a0 ≥ (0 : Int))) = false ∧ (True ∧ ((True) ∧ (True) ∧ (.v (.one (.sc (.bool false))) : Tm) = alarm_timed.R r ∧ ([] : List Box) = []))))))) (by kernel_rfl) ?_)
  refine ⟨trivial, ?_⟩
  refine ⟨fun b1 => ?_, fun b1 => ?_⟩
  · rw [if_pos (of_decide_eq_true b1)] at h
    refine ⟨b1, ?_⟩
    refine ⟨trivial, ?_⟩
    refine ⟨b1, ?_⟩
    refine ⟨trivial, ?_⟩
    obtain rfl := Option.some.inj h
    exact ⟨trivial, trivial, rfl, rfl⟩
  · rw [if_neg (of_decide_eq_false b1)] at h
    refine ⟨b1, ?_⟩
    refine ⟨b1, ?_⟩
    refine ⟨trivial, ?_⟩
    obtain rfl := Option.some.inj h
    exact ⟨trivial, trivial, rfl, rfl⟩
/-! slices.Clone[[]halter/alarm.Alarm,halter/alarm.Alarm] -/
def slices_Clone_alarm_Alarm_alarm_Alarm.f (a0 : (List (Int × Int))) : Option (List (Int × Int)) :=
  if (List.length a0) = 0 then same (
    some ([] : List (Int × Int))
    ) (
    if True ∧ 0 = 0 ∧ 0 = 0 ∧ ((0 + (List.length a0)) * 16 ≤ 140737488355328 ∧ 0 + (List.length a0) ≤ 9223372036854775807) then
      some (([] : List (Int × Int)) ++ a0)
    else none
    )
  else
    if True ∧ 0 = 0 ∧ 0 = 0 ∧ ((0 + (List.length a0)) * 16 ≤ 140737488355328 ∧ 0 + (List.length a0) ≤ 9223372036854775807) then
      some (([] : List (Int × Int)) ++ a0)
    else none
def slices_Clone_alarm_Alarm_alarm_Alarm.R (r : (List (Int × Int))) : Tm := .v (.one (.os 0 0 0 2 (List.length r) none))
def slices_Clone_alarm_Alarm_alarm_Alarm.B (a0 : (List (Int × Int))) (r : (List (Int × Int))) : List Box := [.gro false (.pair (.int .i64) (.int .i64)) r 35]
theorem slices_Clone_alarm_Alarm_alarm_Alarm.fun_ {a0 : (List (Int × Int))} {r : (List (Int × Int))} (h : slices_Clone_alarm_Alarm_alarm_Alarm.f a0 = some r) : Fun cfg 13 [.one (.fs (.pair (.int .i64) (.int .i64)) a0 false)] [] (slices_Clone_alarm_Alarm_alarm_Alarm.R r) (slices_Clone_alarm_Alarm_alarm_Alarm.B a0 r) := by
  unfold slices_Clone_alarm_Alarm_alarm_Alarm.f at h
  refine fun_of_run cfg_ok (f := 13) (fn := Try.f13) Try.func13 rfl (by kernel_rfl) (rs := [.tmp 2]) rfl (nt := 8) rfl (l := fin) (k := (.nq (.one true (aE 2 (.adj [.nilGro 0 (.pair (.int .i64) (.int .i64)) 35] .nil))) (.one false (.d .no (.d (.b false) (aE 2 .nil)))))) (to_goal (q := (((List.length a0) = 0 → (true = true ∧ (True ∧ (True ∧ ((True) ∧ ((True) ∧ True) ∧ (.v (.one (.os 0 0 0 2 0 none)) : Tm) = slices_Clone_alarm_Alarm_alarm_Alarm.R r ∧ ([.gro false (.pair (.int .i64) (.int .i64)) ([] : List (Int × Int)) 35] : List Box) = slices_Clone_alarm_Alarm_alarm_Alarm.B a0 r))))) ∧ (false = false ∧ (True ∧ 0 = 0 ∧ 0 = 0 ∧ ((0 + (List.length a0)) * 16 ≤ 140737488355328 ∧ 0 + (List.length a0) ≤ 9223372036854775807)) ∧ (True ∧ ((True) ∧ (True) ∧ (.v (.one (.os 0 0 0 2 (List.length (([] : List (Int × Int)) ++ a0)) none)) : Tm) = slices_Clone_alarm_Alarm_alarm_Alarm.R r ∧ ([.gro false (.pair (.int .i64) (.int .i64)) (([] : List (Int × Int)) ++ a0) 35] : List Box) = slices_Clone_alarm_Alarm_alarm_Alarm.B a0 r))))) (by kernel_rfl) ?_)
  refine ⟨fun g1 => ?_, ?_⟩
  · replace h := same_a g1 h
    refine ⟨rfl, trivial, trivial, ?_⟩
    obtain rfl := Option.some.inj h
    exact ⟨trivial, ⟨trivial, trivial⟩, rfl, rfl⟩
  · replace h := same_b h
    refine ⟨rfl, ?_⟩
    obtain ⟨g2, h⟩ := of_guard h
    refine ⟨g2, ?_⟩
    refine ⟨trivial, ?_⟩
    obtain rfl := Option.some.inj h
    exact ⟨trivial, trivial, rfl, rfl⟩
/-! halter/alarm.Set$1 -/
def alarm_Set_1.f (a0 : Int) (a1 : Int) (a2 : Int) (a3 : Int) (a4 : Int) : Option (Bool × Int) :=
  if a0 = a2 then
    some ((a0 == a2), (if (IntKind.wrap .i64 (a1 - a3)) > (0 : Int) then (IntKind.wrap .i64 (a1 - a3)) else (0 : Int)))
  else
    some ((a0 == a2), a4)
def alarm_Set_1.R (r : Bool × Int) : Tm := .v (.one (.sc (.bool r.1)))
def alarm_Set_1.B (a0 : Int) (a1 : Int) (a2 : Int) (a3 : Int) (a4 : Int) (r : Bool × Int) : List Box := [.ex false [.c (.sc (.int .i64 a2))] 3, .ex false [.c (.sc (.int .i64 a3))] 3, .ex false [.c (.sc (.int .i64 r.2))] 3]
theorem alarm_Set_1.fun_ {a0 : Int} {a1 : Int} {a2 : Int} {a3 : Int} {a4 : Int} {r : Bool × Int} (h : alarm_Set_1.f a0 a1 a2 a3 a4 = some r) : Fun cfg 14 [.agg [.c (.sc (.int .i64 a0)), .c (.sc (.int .i64 a1))], .one (.ptr 0 ⟨0, 0, 0, 0⟩), .one (.ptr 1 ⟨0, 0, 0, 0⟩), .one (.ptr 2 ⟨0, 0, 0, 0⟩)] [.ex false [.c (.sc (.int .i64 a2))] 3, .ex false [.c (.sc (.int .i64 a3))] 3, .ex false [.c (.sc (.int .i64 a4))] 3] (alarm_Set_1.R r) (alarm_Set_1.B a0 a1 a2 a3 a4 r) := by
  unfold alarm_Set_1.f at h
  refine fun_of_run cfg_ok (f := 14) (fn := Try.f14) Try.func14 rfl (by kernel_rfl) (rs := [.tmp 5]) rfl (nt := 19) rfl (l := fin) (k := (.br (aE 3 (.adj [.drop 3] .nil)) (aE 3 (.adj [.drop 3] .nil)))) (to_goal (q := (True) ∧ (True) ∧ (True) ∧ (((a0 == a2) = true → (True ∧ (True) ∧ (True) ∧ (True) ∧ (True) ∧ (True) ∧ (True ∧ (True) ∧ (True) ∧ (True) ∧ (True ∧ ((True) ∧ ((True) ∧ True) ∧ (.v (.one (.sc (.bool (a0 == a2)))) : Tm) = alarm_Set_1.R r ∧ ([.ex false [.c (.sc (.int .i64 a2))] 3, .ex false [.c (.sc (.int .i64 a3))] 3, .ex false [.c (.sc (.int .i64 (if (IntKind.wrap .i64 (a1 - a3)) > (0 : Int) then (IntKind.wrap .i64 (a1 - a3)) else (0 : Int))))] 3] : List Box) = alarm_Set_1.B a0 a1 a2 a3 a4 r))))) ∧ ((a0 == a2) = false → (True ∧ (True ∧ (True) ∧ (True) ∧ (True) ∧ (True ∧ ((True) ∧ ((True) ∧ True) ∧ (.v (.one (.sc (.bool (a0 == a2)))) : Tm) = alarm_Set_1.R r ∧ ([.ex false [.c (.sc (.int .i64 a2))] 3, .ex false [.c (.sc (.int .i64 a3))] 3, .ex false [.c (.sc (.int .i64 a4))] 3] : List Box) = alarm_Set_1.B a0 a1 a2 a3 a4 r))))))) (by kernel_rfl) ?_)
  refine ⟨trivial, trivial, trivial, ?_⟩
  refine ⟨fun b1 => ?_, fun b1 => ?_⟩
  · rw [if_pos (beq_t b1)] at h
    refine ⟨trivial, trivial, trivial, trivial, trivial, trivial, trivial, trivial, trivial, trivial, trivial, ?_⟩
    obtain rfl := Option.some.inj h
    exact ⟨trivial, ⟨trivial, trivial⟩, rfl, rfl⟩
  · rw [if_neg (beq_f b1)] at h
    refine ⟨trivial, trivial, trivial, trivial, trivial, trivial, ?_⟩
    obtain rfl := Option.some.inj h
    exact ⟨trivial, ⟨trivial, trivial⟩, rfl, rfl⟩
/-! slices.IndexFunc[[]halter/alarm.Alarm,halter/alarm.Alarm] -/
def slices_IndexFunc_alarm_Alarm_alarm_Alarm.l0 (a0 : (List (Int × Int))) (a1 : Int) (a2 : Int) : Nat → Int → Int → Option ((Int) ⊕ (Int × Int))
  | 0, _, _ => none
  | n + 1, x6, x7 =>
    if x7 < (((List.length a0) : Nat) : Int) then
      if 0 ≤ x7 ∧ x7 < (((List.length a0) : Nat) : Int) then
        (alarm_Set_1.f (List.getD a0 (Int.toNat x7) ((0 : Int), (0 : Int))).1 (List.getD a0 (Int.toNat x7) ((0 : Int), (0 : Int))).2 a1 a2 x6).bind fun t17 =>
        if t17.1 = true then
          some (.inr (t17.2, x7))
        else
          slices_IndexFunc_alarm_Alarm_alarm_Alarm.l0 a0 a1 a2 n t17.2 (IntKind.wrap .i64 (x7 + (1 : Int)))
      else none
    else
      some (.inl x6)
def slices_IndexFunc_alarm_Alarm_alarm_Alarm.l0_S (a0 : (List (Int × Int))) (a1 : Int) (a2 : Int) (x6 : Int) (x7 : Int) : St := ⟨[.v (.one (.fs (.pair (.int .i64) (.int .i64)) a0 false)), .v (.clo 14 [(false, 1), (false, 1), (false, 1)] [.c (.ptr 0 ⟨0, 0, 0, 0⟩), .c (.ptr 1 ⟨0, 0, 0, 0⟩), .c (.ptr 2 ⟨0, 0, 0, 0⟩)]), .any, .any, .any, .any, .any, .v (.one (.sc (.int .i64 (((List.length a0) : Nat) : Int)))), .v (.one (.sc (.int .i64 x7))), .any, .any, .any, .any, .any, .any, .any, .any, .any, .any], [.ex false [.c (.sc (.int .i64 a1))] 3, .ex false [.c (.sc (.int .i64 a2))] 3, .ex false [.c (.sc (.int .i64 x6))] 3], 3⟩
def slices_IndexFunc_alarm_Alarm_alarm_Alarm.l0_Q (a0 : (List (Int × Int))) (a1 : Int) (a2 : Int) : (Int) ⊕ (Int × Int) → Exit → St → Prop
  | .inl t => fun e s => e = (.exit 0) ∧ s = ⟨[.any, .any, .any, .any, .any, .any, .any, .any, .any, .any, .any, .any, .any, .any, .any, .any, .any, .any, .any], [.ex false [.c (.sc (.int .i64 a1))] 3, .ex false [.c (.sc (.int .i64 a2))] 3, .ex false [.c (.sc (.int .i64 t))] 3], 3⟩
  | .inr t => fun e s => e = .ret ∧ s = ⟨[.any, .any, .any, .any, .v (.one (.sc (.int .i64 t.2))), .any, .any, .any, .any, .any, .any, .any, .any, .any, .any, .any, .any, .any, .any], [.ex false [.c (.sc (.int .i64 a1))] 3, .ex false [.c (.sc (.int .i64 a2))] 3, .ex false [.c (.sc (.int .i64 t.1))] 3], 3⟩
theorem slices_IndexFunc_alarm_Alarm_alarm_Alarm.l0_ok (a0 : (List (Int × Int))) (a1 : Int) (a2 : Int) : ∀ (n : Nat) (x6 : Int) (x7 : Int) (r : (Int) ⊕ (Int × Int)), slices_IndexFunc_alarm_Alarm_alarm_Alarm.l0 a0 a1 a2 n x6 x7 = some r → TripN cfg (cpath (Try.f18.body.getD .skip) [1, 0, 1, 0, 0]) n (slices_IndexFunc_alarm_Alarm_alarm_Alarm.l0_S a0 a1 a2 x6 x7) (slices_IndexFunc_alarm_Alarm_alarm_Alarm.l0_Q a0 a1 a2 r) := by
  intro n
  induction n with
  | zero => intro x6 x7 r h; cases h
  | succ n ih =>
    intro x6 x7 r h
    rw [slices_IndexFunc_alarm_Alarm_alarm_Alarm.l0] at h
    refine TripN.of_run cfg_ok (k := (.br (.callR true [] [0, 1, 2] (Bool × Int) (fun t17 => (alarm_Set_1.R t17)) (fun t17 => (alarm_Set_1.B (List.getD a0 (Int.toNat x7) ((0 : Int), (0 : Int))).1 (List.getD a0 (Int.toNat x7) ((0 : Int), (0 : Int))).2 a1 a2 x6 t17)) (fun t17 => (.br (.adj [] (.adj [.keep [4], .drop 3] .nil)) (aE 2 (.adj [.keep [0, 1, 7, 8], .drop 3] .nil))))) (.adj [.keep [], .drop 3] .nil))) (to_goal (q := (True) ∧ (((decide (x7 < (((List.length a0) : Nat) : Int))) = true → (0 ≤ x7 ∧ x7 < (((List.length a0) : Nat) : Int)) ∧ (True) ∧ (∃ t17 : Bool × Int, (Fun cfg 14 [.agg [.c (.sc (.int .i64 (List.getD a0 (Int.toNat x7) ((0 : Int), (0 : Int))).1)), .c (.sc (.int .i64 (List.getD a0 (Int.toNat x7) ((0 : Int), (0 : Int))).2))], .one (.ptr 0 ⟨0, 0, 0, 0⟩), .one (.ptr 1 ⟨0, 0, 0, 0⟩), .one (.ptr 2 ⟨0, 0, 0, 0⟩)] [.ex false [.c (.sc (.int .i64 a1))] 3, .ex false [.c (.sc (.int .i64 a2))] 3, .ex false [.c (.sc (.int .i64 x6))] 3] (alarm_Set_1.R t17) (alarm_Set_1.B (List.getD a0 (Int.toNat x7) ((0 : Int), (0 : Int))).1 (List.getD a0 (Int.toNat x7) ((0 : Int), (0 : Int))).2 a1 a2 x6 t17) ∧ True) ∧ ((t17.1 = true → (True ∧ (((True) ∧ (True) ∧ True) ∧ slices_IndexFunc_alarm_Alarm_alarm_Alarm.l0_Q a0 a1 a2 r .ret ⟨[.any, .any, .any, .any, .v (.one (.sc (.int .i64 x7))), .any, .any, .any, .any, .any, .any, .any, .any, .any, .any, .any, .any, .any, .any], [.ex false [.c (.sc (.int .i64 a1))] 3, .ex false [.c (.sc (.int .i64 a2))] 3, .ex false [.c (.sc (.int .i64 t17.2))] 3], 3⟩))) ∧ (t17.1 = false → (True ∧ (True ∧ (True) ∧ (((True) ∧ (True) ∧ True) ∧ TripN cfg (cpath (Try.f18.body.getD .skip) [1, 0, 1, 0, 0]) n (slices_IndexFunc_alarm_Alarm_alarm_Alarm.l0_S a0 a1 a2 t17.2 (IntKind.wrap .i64 (x7 + (1 : Int)))) (slices_IndexFunc_alarm_Alarm_alarm_Alarm.l0_Q a0 a1 a2 r)))))))) ∧ ((decide (x7 < (((List.length a0) : Nat) : Int))) = false → (((True) ∧ (True) ∧ True) ∧ slices_IndexFunc_alarm_Alarm_alarm_Alarm.l0_Q a0 a1 a2 r (.exit 0) ⟨[.any, .any, .any, .any, .any, .any, .any, .any, .any, .any, .any, .any, .any, .any, .any, .any, .any, .any, .any], [.ex false [.c (.sc (.int .i64 a1))] 3, .ex false [.c (.sc (.int .i64 a2))] 3, .ex false [.c (.sc (.int .i64 x6))] 3], 3⟩)))) (by kernel_rfl) ?_)
    refine ⟨trivial, ?_⟩
    refine ⟨fun b16 => ?_, fun b16 => ?_⟩
    · rw [if_pos (of_decide_eq_true b16)] at h
      obtain ⟨g19, h⟩ := of_guard h
      refine ⟨g19, ?_⟩
      refine ⟨trivial, ?_⟩
      obtain ⟨t17, ht17, h⟩ := of_bind h
      refine ⟨t17, ⟨alarm_Set_1.fun_ ht17, trivial⟩, ?_⟩
      refine ⟨fun b18 => ?_, fun b18 => ?_⟩
      · rw [if_pos b18] at h
        refine ⟨trivial, ?_⟩
        obtain rfl := Option.some.inj h
        exact ⟨⟨trivial, trivial, trivial⟩, rfl, rfl⟩
      · rw [if_neg (ff b18)] at h
        refine ⟨trivial, trivial, trivial, ?_⟩
        exact ⟨⟨trivial, trivial, trivial⟩, ih t17.2 (IntKind.wrap .i64 (x7 + (1 : Int))) r h⟩
    · rw [if_neg (of_decide_eq_false b16)] at h
      obtain rfl := Option.some.inj h
      exact ⟨⟨trivial, trivial, trivial⟩, rfl, rfl⟩
def slices_IndexFunc_alarm_Alarm_alarm_Alarm.f (a0 : (List (Int × Int))) (a1 : Int) (a2 : Int) (a3 : Int) : Option (Int × Int) :=
  (slices_IndexFunc_alarm_Alarm_alarm_Alarm.l0 a0 a1 a2 FUEL a3 (0 : Int)).bind fun t15 =>
  match t15 with
  | .inl t23 =>
    some ((-1 : Int), t23)
  | .inr t25 =>
    some (t25.2, t25.1)
def slices_IndexFunc_alarm_Alarm_alarm_Alarm.R (r : Int × Int) : Tm := .v (.one (.sc (.int .i64 r.1)))
def slices_IndexFunc_alarm_Alarm_alarm_Alarm.B (a0 : (List (Int × Int))) (a1 : Int) (a2 : Int) (a3 : Int) (r : Int × Int) : List Box := [.ex false [.c (.sc (.int .i64 a1))] 3, .ex false [.c (.sc (.int .i64 a2))] 3, .ex false [.c (.sc (.int .i64 r.2))] 3]
theorem slices_IndexFunc_alarm_Alarm_alarm_Alarm.fun_ {a0 : (List (Int × Int))} {a1 : Int} {a2 : Int} {a3 : Int} {r : Int × Int} (h : slices_IndexFunc_alarm_Alarm_alarm_Alarm.f a0 a1 a2 a3 = some r) : Fun cfg 18 [.one (.fs (.pair (.int .i64) (.int .i64)) a0 false), .clo 14 [(false, 1), (false, 1), (false, 1)] [.c (.ptr 0 ⟨0, 0, 0, 0⟩), .c (.ptr 1 ⟨0, 0, 0, 0⟩), .c (.ptr 2 ⟨0, 0, 0, 0⟩)]] [.ex false [.c (.sc (.int .i64 a1))] 3, .ex false [.c (.sc (.int .i64 a2))] 3, .ex false [.c (.sc (.int .i64 a3))] 3] (slices_IndexFunc_alarm_Alarm_alarm_Alarm.R r) (slices_IndexFunc_alarm_Alarm_alarm_Alarm.B a0 a1 a2 a3 r) := by
  unfold slices_IndexFunc_alarm_Alarm_alarm_Alarm.f at h
  refine fun_of_run cfg_ok (f := 18) (fn := Try.f18) Try.func18 rfl (by kernel_rfl) (rs := [.tmp 4]) rfl (nt := 19) rfl (l := fin) (k := (aE 3 (.adj [.keep [0, 1, 7, 8]] (.alt (.sub (Int) (fun _ => (.exit 0)) (fun t23 => ⟨[.any, .any, .any, .any, .any, .any, .any, .any, .any, .any, .any, .any, .any, .any, .any, .any, .any, .any, .any], [.ex false [.c (.sc (.int .i64 a1))] 3, .ex false [.c (.sc (.int .i64 a2))] 3, .ex false [.c (.sc (.int .i64 t23))] 3], 3⟩) (fun t23 => (aE 3 .nil))) (.sub (Int × Int) (fun _ => .ret) (fun t25 => ⟨[.any, .any, .any, .any, .v (.one (.sc (.int .i64 t25.2))), .any, .any, .any, .any, .any, .any, .any, .any, .any, .any, .any, .any, .any, .any], [.ex false [.c (.sc (.int .i64 a1))] 3, .ex false [.c (.sc (.int .i64 a2))] 3, .ex false [.c (.sc (.int .i64 t25.1))] 3], 3⟩) (fun t25 => (.adj [] .nil))))))) (to_goal (q := (True ∧ (True ∧ (True) ∧ (True ∧ (((True) ∧ True) ∧ ((∃ t23 : Int, Trip cfg (.loop (cpath (Try.f18.body.getD .skip) [1, 0, 1, 0, 0])) ⟨[.v (.one (.fs (.pair (.int .i64) (.int .i64)) a0 false)), .v (.clo 14 [(false, 1), (false, 1), (false, 1)] [.c (.ptr 0 ⟨0, 0, 0, 0⟩), .c (.ptr 1 ⟨0, 0, 0, 0⟩), .c (.ptr 2 ⟨0, 0, 0, 0⟩)]), .any, .any, .any, .any, .any, .v (.one (.sc (.int .i64 (((List.length a0) : Nat) : Int)))), .v (.one (.sc (.int .i64 (0 : Int)))), .any, .any, .any, .any, .any, .any, .any, .any, .any, .any], [.ex false [.c (.sc (.int .i64 a1))] 3, .ex false [.c (.sc (.int .i64 a2))] 3, .ex false [.c (.sc (.int .i64 a3))] 3], 3⟩ (fun e s => e = (.exit 0) ∧ s = ⟨[.any, .any, .any, .any, .any, .any, .any, .any, .any, .any, .any, .any, .any, .any, .any, .any, .any, .any, .any], [.ex false [.c (.sc (.int .i64 a1))] 3, .ex false [.c (.sc (.int .i64 a2))] 3, .ex false [.c (.sc (.int .i64 t23))] 3], 3⟩) ∧ (True ∧ (True ∧ ((True) ∧ (True) ∧ (.v (.one (.sc (.int .i64 (-1 : Int)))) : Tm) = slices_IndexFunc_alarm_Alarm_alarm_Alarm.R r ∧ ([.ex false [.c (.sc (.int .i64 a1))] 3, .ex false [.c (.sc (.int .i64 a2))] 3, .ex false [.c (.sc (.int .i64 t23))] 3] : List Box) = slices_IndexFunc_alarm_Alarm_alarm_Alarm.B a0 a1 a2 a3 r)))) ∨ (∃ t25 : Int × Int, Trip cfg (.loop (cpath (Try.f18.body.getD .skip) [1, 0, 1, 0, 0])) ⟨[.v (.one (.fs (.pair (.int .i64) (.int .i64)) a0 false)), .v (.clo 14 [(false, 1), (false, 1), (false, 1)] [.c (.ptr 0 ⟨0, 0, 0, 0⟩), .c (.ptr 1 ⟨0, 0, 0, 0⟩), .c (.ptr 2 ⟨0, 0, 0, 0⟩)]), .any, .any, .any, .any, .any, .v (.one (.sc (.int .i64 (((List.length a0) : Nat) : Int)))), .v (.one (.sc (.int .i64 (0 : Int)))), .any, .any, .any, .any, .any, .any, .any, .any, .any, .any], [.ex false [.c (.sc (.int .i64 a1))] 3, .ex false [.c (.sc (.int .i64 a2))] 3, .ex false [.c (.sc (.int .i64 a3))] 3], 3⟩ (fun e s => e = .ret ∧ s = ⟨[.any, .any, .any, .any, .v (.one (.sc (.int .i64 t25.2))), .any, .any, .any, .any, .any, .any, .any, .any, .any, .any, .any, .any, .any, .any], [.ex false [.c (.sc (.int .i64 a1))] 3, .ex false [.c (.sc (.int .i64 a2))] 3, .ex false [.c (.sc (.int .i64 t25.1))] 3], 3⟩) ∧ ((True) ∧ (True) ∧ (.v (.one (.sc (.int .i64 t25.2))) : Tm) = slices_IndexFunc_alarm_Alarm_alarm_Alarm.R r ∧ ([.ex false [.c (.sc (.int .i64 a1))] 3, .ex false [.c (.sc (.int .i64 a2))] 3, .ex false [.c (.sc (.int .i64 t25.1))] 3] : List Box) = slices_IndexFunc_alarm_Alarm_alarm_Alarm.B a0 a1 a2 a3 r)))))))) (by kernel_rfl) ?_)
  refine ⟨trivial, trivial, trivial, trivial, ?_⟩
  obtain ⟨t15, ht15, h⟩ := of_bind h
  refine ⟨⟨trivial, trivial⟩, ?_⟩
  rcases t15 with t23 | t25
  · dsimp only at h
    left
    refine ⟨t23, Trip.loop FUEL (slices_IndexFunc_alarm_Alarm_alarm_Alarm.l0_ok a0 a1 a2 FUEL a3 (0 : Int) (.inl t23) ht15), ?_⟩
    refine ⟨trivial, trivial, ?_⟩
    obtain rfl := Option.some.inj h
    exact ⟨trivial, trivial, rfl, rfl⟩
  · dsimp only at h
    right
    refine ⟨t25, Trip.loop FUEL (slices_IndexFunc_alarm_Alarm_alarm_Alarm.l0_ok a0 a1 a2 FUEL a3 (0 : Int) (.inr t25) ht15), ?_⟩
    obtain rfl := Option.some.inj h
    exact ⟨trivial, trivial, rfl, rfl⟩
/-! slices.DeleteFunc[[]halter/alarm.Alarm,halter/alarm.Alarm] -/
def slices_DeleteFunc_alarm_Alarm_alarm_Alarm.l0 (a0 : (List (Int × Int))) (a1 : Int) (a2 : Int) : Nat → (List (Int × Int)) → Int → Int → Int → Option ((List (Int × Int)) × Int × Int)
  | 0, _, _, _, _ => none
  | n + 1, x12, x13, x14, x15 =>
    if x15 < (((List.length a0) : Nat) : Int) then
      if 0 ≤ x15 ∧ x15 < (((List.length a0) : Nat) : Int) then
        if (0 + (Int.toNat x15)) < (List.length x12) then
          (alarm_Set_1.f (List.getD x12 (0 + (Int.toNat x15)) ((0 : Int), (0 : Int))).1 (List.getD x12 (0 + (Int.toNat x15)) ((0 : Int), (0 : Int))).2 a1 a2 x13).bind fun t28 =>
          if ¬ (t28.1 = true) then
            if 0 ≤ x14 ∧ x14 < (((List.length a0) : Nat) : Int) then
              if (0 + (Int.toNat x14)) < (List.length x12) then
                slices_DeleteFunc_alarm_Alarm_alarm_Alarm.l0 a0 a1 a2 n (List.set x12 (0 + (Int.toNat x14)) ((List.getD x12 (0 + (Int.toNat x15)) ((0 : Int), (0 : Int))).1, (List.getD x12 (0 + (Int.toNat x15)) ((0 : Int), (0 : Int))).2)) t28.2 (IntKind.wrap .i64 (x14 + (1 : Int))) (IntKind.wrap .i64 (x15 + (1 : Int)))
              else none
            else none
          else
            slices_DeleteFunc_alarm_Alarm_alarm_Alarm.l0 a0 a1 a2 n x12 t28.2 x14 (IntKind.wrap .i64 (x15 + (1 : Int)))
        else none
      else none
    else
      some (x12, x13, x14)
def slices_DeleteFunc_alarm_Alarm_alarm_Alarm.l0_S (a0 : (List (Int × Int))) (a1 : Int) (a2 : Int) (x12 : List (Int × Int)) (x13 : Int) (x14 : Int) (x15 : Int) : St := ⟨[.v (.one (.os 0 0 0 2 (List.length a0) none)), .v (.clo 14 [(false, 1), (false, 1), (false, 1)] [.c (.ptr 1 ⟨0, 0, 0, 0⟩), .c (.ptr 2 ⟨0, 0, 0, 0⟩), .c (.ptr 3 ⟨0, 0, 0, 0⟩)]), .any, .any, .any, .v (.one (.sc (.int .i64 x14))), .v (.one (.sc (.int .i64 x15))), .any, .any, .any, .any, .any, .any, .any, .any, .any, .any, .any, .any, .any, .any, .any, .any, .any, .any, .any, .any, .any, .any, .any, .any, .any, .any, .any, .any, .any, .any, .any, .any, .any, .any, .any], [.gro false (.pair (.int .i64) (.int .i64)) x12 35, .ex false [.c (.sc (.int .i64 a1))] 3, .ex false [.c (.sc (.int .i64 a2))] 3, .ex false [.c (.sc (.int .i64 x13))] 3], 4⟩
def slices_DeleteFunc_alarm_Alarm_alarm_Alarm.l0_Q (a0 : (List (Int × Int))) (a1 : Int) (a2 : Int) (t : (List (Int × Int)) × Int × Int) : Exit → St → Prop := fun e s => e = (.exit 0) ∧ s = ⟨[.v (.one (.os 0 0 0 2 (List.length a0) none)), .any, .any, .any, .any, .v (.one (.sc (.int .i64 t.2.2))), .any, .any, .any, .any, .any, .any, .any, .any, .any, .any, .any, .any, .any, .any, .any, .any, .any, .any, .any, .any, .any, .any, .any, .any, .any, .any, .any, .any, .any, .any, .any, .any, .any, .any, .any, .any], [.gro false (.pair (.int .i64) (.int .i64)) t.1 35, .ex false [.c (.sc (.int .i64 a1))] 3, .ex false [.c (.sc (.int .i64 a2))] 3, .ex false [.c (.sc (.int .i64 t.2.1))] 3], 4⟩
theorem slices_DeleteFunc_alarm_Alarm_alarm_Alarm.l0_ok (a0 : (List (Int × Int))) (a1 : Int) (a2 : Int) : ∀ (n : Nat) (x12 : List (Int × Int)) (x13 : Int) (x14 : Int) (x15 : Int) (r : (List (Int × Int)) × Int × Int), slices_DeleteFunc_alarm_Alarm_alarm_Alarm.l0 a0 a1 a2 n x12 x13 x14 x15 = some r → TripN cfg (cpath (Try.f12.body.getD .skip) [1, 1, 1, 0, 1, 0, 0]) n (slices_DeleteFunc_alarm_Alarm_alarm_Alarm.l0_S a0 a1 a2 x12 x13 x14 x15) (slices_DeleteFunc_alarm_Alarm_alarm_Alarm.l0_Q a0 a1 a2 r) := by
  intro n
  induction n with
  | zero => intro x12 x13 x14 x15 r h; cases h
  | succ n ih =>
    intro x12 x13 x14 x15 r h
    rw [slices_DeleteFunc_alarm_Alarm_alarm_Alarm.l0] at h
    refine TripN.of_run cfg_ok (k := (.br (.callR true [] [1, 2, 3] (Bool × Int) (fun t28 => (alarm_Set_1.R t28)) (fun t28 => (alarm_Set_1.B (List.getD x12 (0 + (Int.toNat x15)) ((0 : Int), (0 : Int))).1 (List.getD x12 (0 + (Int.toNat x15)) ((0 : Int), (0 : Int))).2 a1 a2 x13 t28)) (fun t28 => (.br (aE 3 (.adj [.keep [0, 1, 5, 6], .drop 4] .nil)) (aE 2 (.adj [.keep [0, 1, 5, 6], .drop 4] .nil))))) (.adj [.keep [0, 5], .drop 4] .nil))) (to_goal (q := (True) ∧ (True) ∧ (((decide (x15 < (((List.length a0) : Nat) : Int))) = true → (0 ≤ x15 ∧ x15 < (((List.length a0) : Nat) : Int)) ∧ ((0 + (Int.toNat x15)) < (List.length x12)) ∧ (True) ∧ (True) ∧ (∃ t28 : Bool × Int, (Fun cfg 14 [.agg [.c (.sc (.int .i64 (List.getD x12 (0 + (Int.toNat x15)) ((0 : Int), (0 : Int))).1)), .c (.sc (.int .i64 (List.getD x12 (0 + (Int.toNat x15)) ((0 : Int), (0 : Int))).2))], .one (.ptr 0 ⟨0, 0, 0, 0⟩), .one (.ptr 1 ⟨0, 0, 0, 0⟩), .one (.ptr 2 ⟨0, 0, 0, 0⟩)] [.ex false [.c (.sc (.int .i64 a1))] 3, .ex false [.c (.sc (.int .i64 a2))] 3, .ex false [.c (.sc (.int .i64 x13))] 3] (alarm_Set_1.R t28) (alarm_Set_1.B (List.getD x12 (0 + (Int.toNat x15)) ((0 : Int), (0 : Int))).1 (List.getD x12 (0 + (Int.toNat x15)) ((0 : Int), (0 : Int))).2 a1 a2 x13 t28) ∧ True) ∧ (((!t28.1) = true → (True ∧ (True) ∧ (0 ≤ x14 ∧ x14 < (((List.length a0) : Nat) : Int)) ∧ ((0 + (Int.toNat x14)) < (List.length x12)) ∧ (True ∧ (True) ∧ (True ∧ (True) ∧ (((True) ∧ (True) ∧ True) ∧ TripN cfg (cpath (Try.f12.body.getD .skip) [1, 1, 1, 0, 1, 0, 0]) n (slices_DeleteFunc_alarm_Alarm_alarm_Alarm.l0_S a0 a1 a2 (List.set x12 (0 + (Int.toNat x14)) ((List.getD x12 (0 + (Int.toNat x15)) ((0 : Int), (0 : Int))).1, (List.getD x12 (0 + (Int.toNat x15)) ((0 : Int), (0 : Int))).2)) t28.2 (IntKind.wrap .i64 (x14 + (1 : Int))) (IntKind.wrap .i64 (x15 + (1 : Int)))) (slices_DeleteFunc_alarm_Alarm_alarm_Alarm.l0_Q a0 a1 a2 r)))))) ∧ ((!t28.1) = false → (True ∧ (True ∧ (True) ∧ (((True) ∧ (True) ∧ True) ∧ TripN cfg (cpath (Try.f12.body.getD .skip) [1, 1, 1, 0, 1, 0, 0]) n (slices_DeleteFunc_alarm_Alarm_alarm_Alarm.l0_S a0 a1 a2 x12 t28.2 x14 (IntKind.wrap .i64 (x15 + (1 : Int)))) (slices_DeleteFunc_alarm_Alarm_alarm_Alarm.l0_Q a0 a1 a2 r)))))))) ∧ ((decide (x15 < (((List.length a0) : Nat) : Int))) = false → (((True) ∧ (True) ∧ True) ∧ slices_DeleteFunc_alarm_Alarm_alarm_Alarm.l0_Q a0 a1 a2 r (.exit 0) ⟨[.v (.one (.os 0 0 0 2 (List.length a0) none)), .any, .any, .any, .any, .v (.one (.sc (.int .i64 x14))), .any, .any, .any, .any, .any, .any, .any, .any, .any, .any, .any, .any, .any, .any, .any, .any, .any, .any, .any, .any, .any, .any, .any, .any, .any, .any, .any, .any, .any, .any, .any, .any, .any, .any, .any, .any], [.gro false (.pair (.int .i64) (.int .i64)) x12 35, .ex false [.c (.sc (.int .i64 a1))] 3, .ex false [.c (.sc (.int .i64 a2))] 3, .ex false [.c (.sc (.int .i64 x13))] 3], 4⟩)))) (by kernel_rfl) ?_)
    refine ⟨trivial, trivial, ?_⟩
    refine ⟨fun b27 => ?_, fun b27 => ?_⟩
    · rw [if_pos (of_decide_eq_true b27)] at h
      obtain ⟨g33, h⟩ := of_guard h
      refine ⟨g33, ?_⟩
      obtain ⟨g32, h⟩ := of_guard h
      refine ⟨g32, ?_⟩
      refine ⟨trivial, trivial, ?_⟩
      obtain ⟨t28, ht28, h⟩ := of_bind h
      refine ⟨t28, ⟨alarm_Set_1.fun_ ht28, trivial⟩, ?_⟩
      refine ⟨fun b29 => ?_, fun b29 => ?_⟩
      · rw [if_pos (ff (not_t b29))] at h
        refine ⟨trivial, trivial, ?_⟩
        obtain ⟨g31, h⟩ := of_guard h
        refine ⟨g31, ?_⟩
        obtain ⟨g30, h⟩ := of_guard h
        refine ⟨g30, ?_⟩
        refine ⟨trivial, trivial, trivial, trivial, ?_⟩
        exact ⟨⟨trivial, trivial, trivial⟩, ih (List.set x12 (0 + (Int.toNat x14)) ((List.getD x12 (0 + (Int.toNat x15)) ((0 : Int), (0 : Int))).1, (List.getD x12 (0 + (Int.toNat x15)) ((0 : Int), (0 : Int))).2)) t28.2 (IntKind.wrap .i64 (x14 + (1 : Int))) (IntKind.wrap .i64 (x15 + (1 : Int))) r h⟩
      · rw [if_neg (not_not_intro (not_f b29))] at h
        refine ⟨trivial, trivial, trivial, ?_⟩
        exact ⟨⟨trivial, trivial, trivial⟩, ih x12 t28.2 x14 (IntKind.wrap .i64 (x15 + (1 : Int))) r h⟩
    · rw [if_neg (of_decide_eq_false b27)] at h
      obtain rfl := Option.some.inj h
      exact ⟨⟨trivial, trivial, trivial⟩, rfl, rfl⟩
def slices_DeleteFunc_alarm_Alarm_alarm_Alarm.f (a0 : (List (Int × Int))) (a1 : Int) (a2 : Int) (a3 : Int) : Option (((List (Int × Int)) × Int) ⊕ (Nat × (List (Int × Int)) × Int)) :=
  (slices_IndexFunc_alarm_Alarm_alarm_Alarm.f a0 a1 a2 a3).bind fun t1 =>
  if t1.1 = (-1 : Int) then
    some (.inl (a0, t1.2))
  else
    (slices_DeleteFunc_alarm_Alarm_alarm_Alarm.l0 a0 a1 a2 FUEL a0 t1.2 t1.1 (IntKind.wrap .i64 (t1.1 + (1 : Int)))).bind fun t26 =>
    if (True) ∧ ((0 ≤ t26.2.2 ∧ t26.2.2 ≤ (((List.length a0) : Nat) : Int))) then
      if 0 < ((List.length a0) - (Int.toNat t26.2.2)) ∧ (0 + (Int.toNat t26.2.2)) + ((List.length a0) - (Int.toNat t26.2.2)) ≤ (List.length t26.1) then
        if ((0 ≤ t26.2.2 ∧ t26.2.2 ≤ (((List.length a0) : Nat) : Int))) ∧ (True) then
          some (.inr ((Int.toNat t26.2.2), (List.take (0 + (Int.toNat t26.2.2)) t26.1 ++ ((List.take (Nat.min (List.length (List.replicate ((List.length a0) - (Int.toNat t26.2.2)) ((0 : Int), (0 : Int)))) ((List.length a0) - (Int.toNat t26.2.2))) (List.replicate ((List.length a0) - (Int.toNat t26.2.2)) ((0 : Int), (0 : Int)))) ++ (List.drop ((0 + (Int.toNat t26.2.2)) + Nat.min (List.length (List.replicate ((List.length a0) - (Int.toNat t26.2.2)) ((0 : Int), (0 : Int)))) ((List.length a0) - (Int.toNat t26.2.2))) t26.1))), t26.2.1))
        else none
      else none
    else none
def slices_DeleteFunc_alarm_Alarm_alarm_Alarm.R : ((List (Int × Int)) × Int) ⊕ (Nat × (List (Int × Int)) × Int) → Tm
  | .inl r => .v (.one (.os 0 0 0 2 (List.length r.1) none))
  | .inr r => .v (.one (.os 0 0 0 2 r.1 none))
def slices_DeleteFunc_alarm_Alarm_alarm_Alarm.B (a0 : (List (Int × Int))) (a1 : Int) (a2 : Int) (a3 : Int) : ((List (Int × Int)) × Int) ⊕ (Nat × (List (Int × Int)) × Int) → List Box
  | .inl r => [.gro false (.pair (.int .i64) (.int .i64)) r.1 35, .ex false [.c (.sc (.int .i64 a1))] 3, .ex false [.c (.sc (.int .i64 a2))] 3, .ex false [.c (.sc (.int .i64 r.2))] 3]
  | .inr r => [.gro false (.pair (.int .i64) (.int .i64)) r.2.1 35, .ex false [.c (.sc (.int .i64 a1))] 3, .ex false [.c (.sc (.int .i64 a2))] 3, .ex false [.c (.sc (.int .i64 r.2.2))] 3]
theorem slices_DeleteFunc_alarm_Alarm_alarm_Alarm.fun_ {a0 : (List (Int × Int))} {a1 : Int} {a2 : Int} {a3 : Int} {r : ((List (Int × Int)) × Int) ⊕ (Nat × (List (Int × Int)) × Int)} (h : slices_DeleteFunc_alarm_Alarm_alarm_Alarm.f a0 a1 a2 a3 = some r) : Fun cfg 12 [.one (.os 0 0 0 2 (List.length a0) none), .clo 14 [(false, 1), (false, 1), (false, 1)] [.c (.ptr 1 ⟨0, 0, 0, 0⟩), .c (.ptr 2 ⟨0, 0, 0, 0⟩), .c (.ptr 3 ⟨0, 0, 0, 0⟩)]] [.gro false (.pair (.int .i64) (.int .i64)) a0 35, .ex false [.c (.sc (.int .i64 a1))] 3, .ex false [.c (.sc (.int .i64 a2))] 3, .ex false [.c (.sc (.int .i64 a3))] 3] (slices_DeleteFunc_alarm_Alarm_alarm_Alarm.R r) (slices_DeleteFunc_alarm_Alarm_alarm_Alarm.B a0 a1 a2 a3 r) := by
  unfold slices_DeleteFunc_alarm_Alarm_alarm_Alarm.f at h
  refine fun_of_run cfg_ok (f := 12) (fn := Try.f12) Try.func12 rfl (by kernel_rfl) (rs := [.tmp 4]) rfl (nt := 42) rfl (l := fin) (k := (.callR true [] [1, 2, 3] (Int × Int) (fun t1 => (slices_IndexFunc_alarm_Alarm_alarm_Alarm.R t1)) (fun t1 => (slices_IndexFunc_alarm_Alarm_alarm_Alarm.B a0 a1 a2 a3 t1)) (fun t1 => (.br (aE 3 .nil) (aE 3 (.adj [.keep [0, 1, 5, 6]] (.sub ((List (Int × Int)) × Int × Int) (fun _ => (.exit 0)) (fun t26 => ⟨[.v (.one (.os 0 0 0 2 (List.length a0) none)), .any, .any, .any, .any, .v (.one (.sc (.int .i64 (z2 t26)))), .any, .any, .any, .any, .any, .any, .any, .any, .any, .any, .any, .any, .any, .any, .any, .any, .any, .any, .any, .any, .any, .any, .any, .any, .any, .any, .any, .any, .any, .any, .any, .any, .any, .any, .any, .any], [.gro false (.pair (.int .i64) (.int .i64)) t26.1 35, .ex false [.c (.sc (.int .i64 a1))] 3, .ex false [.c (.sc (.int .i64 a2))] 3, .ex false [.c (.sc (.int .i64 t26.2.1))] 3], 4⟩) (fun t26 => (aE 4 .nil))))))))) (to_goal (q := (∃ t1 : Int × Int, ((0 = 0 ∧ (List.length a0) = (List.length a0)) ∧ Fun cfg 18 [.one (.fs (.pair (.int .i64) (.int .i64)) a0 false), .clo 14 [(false, 1), (false, 1), (false, 1)] [.c (.ptr 0 ⟨0, 0, 0, 0⟩), .c (.ptr 1 ⟨0, 0, 0, 0⟩), .c (.ptr 2 ⟨0, 0, 0, 0⟩)]] [.ex false [.c (.sc (.int .i64 a1))] 3, .ex false [.c (.sc (.int .i64 a2))] 3, .ex false [.c (.sc (.int .i64 a3))] 3] (slices_IndexFunc_alarm_Alarm_alarm_Alarm.R t1) (slices_IndexFunc_alarm_Alarm_alarm_Alarm.B a0 a1 a2 a3 t1) ∧ True) ∧ (True) ∧ (((t1.1 == (-1 : Int)) = true → (True ∧ (True ∧ ((True) ∧ (True) ∧ (.v (.one (.os 0 0 0 2 (List.length a0) none)) : Tm) = slices_DeleteFunc_alarm_Alarm_alarm_Alarm.R r ∧ ([.gro false (.pair (.int .i64) (.int .i64)) a0 35, .ex false [.c (.sc (.int .i64 a1))] 3, .ex false [.c (.sc (.int .i64 a2))] 3, .ex false [.c (.sc (.int .i64 t1.2))] 3] : List Box) = slices_DeleteFunc_alarm_Alarm_alarm_Alarm.B a0 a1 a2 a3 r)))) ∧ ((t1.1 == (-1 : Int)) = false → (True ∧ (True ∧ (True) ∧ (True ∧ (((True) ∧ True) ∧ (∃ t26 : (List (Int × Int)) × Int × Int, Trip cfg (.loop (cpath (Try.f12.body.getD .skip) [1, 1, 1, 0, 1, 0, 0])) ⟨[.v (.one (.os 0 0 0 2 (List.length a0) none)), .v (.clo 14 [(false, 1), (false, 1), (false, 1)] [.c (.ptr 1 ⟨0, 0, 0, 0⟩), .c (.ptr 2 ⟨0, 0, 0, 0⟩), .c (.ptr 3 ⟨0, 0, 0, 0⟩)]), .any, .any, .any, .v (.one (.sc (.int .i64 t1.1))), .v (.one (.sc (.int .i64 (IntKind.wrap .i64 (t1.1 + (1 : Int)))))), .any, .any, .any, .any, .any, .any, .any, .any, .any, .any, .any, .any, .any, .any, .any, .any, .any, .any, .any, .any, .any, .any, .any, .any, .any, .any, .any, .any, .any, .any, .any, .any, .any, .any, .any], [.gro false (.pair (.int .i64) (.int .i64)) a0 35, .ex false [.c (.sc (.int .i64 a1))] 3, .ex false [.c (.sc (.int .i64 a2))] 3, .ex false [.c (.sc (.int .i64 t1.2))] 3], 4⟩ (fun e s => e = (.exit 0) ∧ s = ⟨[.v (.one (.os 0 0 0 2 (List.length a0) none)), .any, .any, .any, .any, .v (.one (.sc (.int .i64 (z2 t26)))), .any, .any, .any, .any, .any, .any, .any, .any, .any, .any, .any, .any, .any, .any, .any, .any, .any, .any, .any, .any, .any, .any, .any, .any, .any, .any, .any, .any, .any, .any, .any, .any, .any, .any, .any, .any], [.gro false (.pair (.int .i64) (.int .i64)) t26.1 35, .ex false [.c (.sc (.int .i64 a1))] 3, .ex false [.c (.sc (.int .i64 a2))] 3, .ex false [.c (.sc (.int .i64 t26.2.1))] 3], 4⟩) ∧ (True ∧ ((True) ∧ ((0 ≤ (z2 t26) ∧ (z2 t26) ≤ (((List.length a0) : Nat) : Int)))) ∧ (0 < ((List.length a0) - (Int.toNat (z2 t26))) ∧ (0 + (Int.toNat (z2 t26))) + ((List.length a0) - (Int.toNat (z2 t26))) ≤ (List.length t26.1)) ∧ (True ∧ (((0 ≤ (z2 t26) ∧ (z2 t26) ≤ (((List.length a0) : Nat) : Int))) ∧ (True)) ∧ (True ∧ ((True) ∧ (True) ∧ (.v (.one (.os 0 0 0 2 (Int.toNat (z2 t26)) none)) : Tm) = slices_DeleteFunc_alarm_Alarm_alarm_Alarm.R r ∧ ([.gro false (.pair (.int .i64) (.int .i64)) (List.take (0 + (Int.toNat (z2 t26))) t26.1 ++ ((List.take (Nat.min (List.length (List.replicate ((List.length a0) - (Int.toNat (z2 t26))) ((0 : Int), (0 : Int)))) ((List.length a0) - (Int.toNat (z2 t26)))) (List.replicate ((List.length a0) - (Int.toNat (z2 t26))) ((0 : Int), (0 : Int)))) ++ (List.drop ((0 + (Int.toNat (z2 t26))) + Nat.min (List.length (List.replicate ((List.length a0) - (Int.toNat (z2 t26))) ((0 : Int), (0 : Int)))) ((List.length a0) - (Int.toNat (z2 t26)))) t26.1))) 35, .ex false [.c (.sc (.int .i64 a1))] 3, .ex false [.c (.sc (.int .i64 a2))] 3, .ex false [.c (.sc (.int .i64 t26.2.1))] 3] : List Box) = slices_DeleteFunc_alarm_Alarm_alarm_Alarm.B a0 a1 a2 a3 r))))))))))))) (by kernel_rfl) ?_)
  obtain ⟨t1, ht1, h⟩ := of_bind h
  refine ⟨t1, ⟨⟨rfl, rfl⟩, slices_IndexFunc_alarm_Alarm_alarm_Alarm.fun_ ht1, trivial⟩, ?_⟩
  refine ⟨trivial, ?_⟩
  refine ⟨fun b2 => ?_, fun b2 => ?_⟩
  · rw [if_pos (beq_t b2)] at h
    refine ⟨trivial, trivial, ?_⟩
    obtain rfl := Option.some.inj h
    exact ⟨trivial, trivial, rfl, rfl⟩
  · rw [if_neg (beq_f b2)] at h
    refine ⟨trivial, trivial, trivial, trivial, ?_⟩
    obtain ⟨t26, ht26, h⟩ := of_bind h
    refine ⟨⟨trivial, trivial⟩, t26, Trip.loop FUEL (slices_DeleteFunc_alarm_Alarm_alarm_Alarm.l0_ok a0 a1 a2 FUEL a0 t1.2 t1.1 (IntKind.wrap .i64 (t1.1 + (1 : Int))) t26 ht26), ?_⟩
    refine ⟨trivial, ?_⟩
    obtain ⟨g42, h⟩ := of_guard h
    refine ⟨g42, ?_⟩
    obtain ⟨g41, h⟩ := of_guard h
    refine ⟨g41, ?_⟩
    refine ⟨trivial, ?_⟩
    obtain ⟨g40, h⟩ := of_guard h
    refine ⟨g40, ?_⟩
    refine ⟨trivial, ?_⟩
    obtain rfl := Option.some.inj h
    exact ⟨trivial, trivial, rfl, rfl⟩
/-! halter/alarm.Set$2 -/
def alarm_Set_2.f (a0 : Int) (a1 : Int) (a2 : Int) : Option Int :=
  some (IntKind.wrap .i64 (a0 - a2))
def alarm_Set_2.R (r : Int) : Tm := .v (.one (.sc (.int .i64 r)))
theorem alarm_Set_2.fun_ {a0 : Int} {a1 : Int} {a2 : Int} {r : Int} (h : alarm_Set_2.f a0 a1 a2 = some r) : Fun cfg 16 [.agg [.c (.sc (.int .i64 a0)), .c (.sc (.int .i64 a1))], .one (.sc (.int .i64 a2))] [] (alarm_Set_2.R r) [] := by
  unfold alarm_Set_2.f at h
  refine fun_of_run cfg_ok (f := 16) (fn := Try.f16) Try.func16 rfl (by kernel_rfl) (rs := [.tmp 4]) rfl (nt := 9) rfl (l := fin) (k := (aE 3 (.adj [.drop 0] .nil))) (to_goal (q := (True ∧ (True ∧ (True) ∧ (True) ∧ (True ∧ ((True) ∧ ((True) ∧ True) ∧ (.v (.one (.sc (.int .i64 (IntKind.wrap .i64 (a0 - a2))))) : Tm) = alarm_Set_2.R r ∧ ([] : List Box) = []))))) (by kernel_rfl) ?_)
  refine ⟨trivial, trivial, trivial, trivial, trivial, ?_⟩
  obtain rfl := Option.some.inj h
  exact ⟨trivial, ⟨trivial, trivial⟩, rfl, rfl⟩
/-! slices.BinarySearchFunc[[]halter/alarm.Alarm,halter/alarm.Alarm,int] -/
def slices_BinarySearchFunc_alarm_Alarm_alarm_Alarm_int.l0 (a0 : (List (Int × Int))) (a1 : Int) : Nat → Int → Int → Option Int
  | 0, _, _ => none
  | n + 1, x1, x2 =>
    if x1 < x2 then
      if 0 ≤ (IntKind.wrap .i64 ((shr .u64 (IntKind.wrap .u64 ((IntKind.wrap .i64 (x1 + x2)))) (1 : Int)))) ∧ (IntKind.wrap .i64 ((shr .u64 (IntKind.wrap .u64 ((IntKind.wrap .i64 (x1 + x2)))) (1 : Int)))) < (((List.length a0) : Nat) : Int) then
        (alarm_Set_2.f (List.getD a0 (Int.toNat (IntKind.wrap .i64 ((shr .u64 (IntKind.wrap .u64 ((IntKind.wrap .i64 (x1 + x2)))) (1 : Int))))) ((0 : Int), (0 : Int))).1 (List.getD a0 (Int.toNat (IntKind.wrap .i64 ((shr .u64 (IntKind.wrap .u64 ((IntKind.wrap .i64 (x1 + x2)))) (1 : Int))))) ((0 : Int), (0 : Int))).2 a1).bind fun t10 =>
        if t10 < (0 : Int) then
          slices_BinarySearchFunc_alarm_Alarm_alarm_Alarm_int.l0 a0 a1 n (IntKind.wrap .i64 ((IntKind.wrap .i64 ((shr .u64 (IntKind.wrap .u64 ((IntKind.wrap .i64 (x1 + x2)))) (1 : Int)))) + (1 : Int))) x2
        else
          slices_BinarySearchFunc_alarm_Alarm_alarm_Alarm_int.l0 a0 a1 n x1 (IntKind.wrap .i64 ((shr .u64 (IntKind.wrap .u64 ((IntKind.wrap .i64 (x1 + x2)))) (1 : Int))))
      else none
    else
      some x1
def slices_BinarySearchFunc_alarm_Alarm_alarm_Alarm_int.l0_S (a0 : (List (Int × Int))) (a1 : Int) (x1 : Int) (x2 : Int) : St := ⟨[.v (.one (.fs (.pair (.int .i64) (.int .i64)) a0 false)), .v (.one (.sc (.int .i64 a1))), .v (.one (.sc (.func (.func 16) #[] #[]))), .any, .any, .any, .any, .any, .v (.one (.sc (.int .i64 (((List.length a0) : Nat) : Int)))), .v (.one (.sc (.int .i64 x1))), .v (.one (.sc (.int .i64 x2))), .any, .any, .any, .any, .any, .any, .any, .any, .any, .any, .any, .any, .any, .any, .any, .any, .any, .any, .any, .any, .any, .any, .any, .any, .any, .any, .any, .any, .any, .any, .any, .any, .any, .any, .any, .any, .any, .any], [], 0⟩
def slices_BinarySearchFunc_alarm_Alarm_alarm_Alarm_int.l0_Q (a0 : (List (Int × Int))) (a1 : Int) (t : Int) : Exit → St → Prop := fun e s => e = (.exit 0) ∧ s = ⟨[.v (.one (.fs (.pair (.int .i64) (.int .i64)) a0 false)), .v (.one (.sc (.int .i64 a1))), .v (.one (.sc (.func (.func 16) #[] #[]))), .any, .any, .any, .any, .any, .v (.one (.sc (.int .i64 (((List.length a0) : Nat) : Int)))), .v (.one (.sc (.int .i64 t))), .any, .any, .any, .any, .any, .any, .any, .any, .any, .any, .any, .any, .any, .any, .any, .any, .any, .any, .any, .any, .any, .any, .any, .any, .any, .any, .any, .any, .any, .any, .any, .any, .any, .any, .any, .any, .any, .any, .any], [], 0⟩
theorem slices_BinarySearchFunc_alarm_Alarm_alarm_Alarm_int.l0_ok (a0 : (List (Int × Int))) (a1 : Int) : ∀ (n : Nat) (x1 : Int) (x2 : Int) (r : Int), slices_BinarySearchFunc_alarm_Alarm_alarm_Alarm_int.l0 a0 a1 n x1 x2 = some r → TripN cfg (cpath (Try.f15.body.getD .skip) [1, 1, 1, 0, 0, 0]) n (slices_BinarySearchFunc_alarm_Alarm_alarm_Alarm_int.l0_S a0 a1 x1 x2) (slices_BinarySearchFunc_alarm_Alarm_alarm_Alarm_int.l0_Q a0 a1 r) := by
  intro n
  induction n with
  | zero => intro x1 x2 r h; cases h
  | succ n ih =>
    intro x1 x2 r h
    rw [slices_BinarySearchFunc_alarm_Alarm_alarm_Alarm_int.l0] at h
    refine TripN.of_run cfg_ok (k := (.br (.call true [] (Int) alarm_Set_2.R (fun t10 => (.br (.adj [] (.adj [.keep [0, 1, 2, 8, 9, 10], .drop 0] .nil)) (.adj [] (.adj [.keep [0, 1, 2, 8, 9, 10], .drop 0] .nil))))) (.adj [.keep [0, 1, 2, 8, 9], .drop 0] .nil))) (to_goal (q := (True) ∧ (((decide (x1 < x2)) = true → (True) ∧ (True) ∧ (0 ≤ (1 : Int)) ∧ (True) ∧ (0 ≤ (IntKind.wrap .i64 ((shr .u64 (IntKind.wrap .u64 ((IntKind.wrap .i64 (x1 + x2)))) (1 : Int)))) ∧ (IntKind.wrap .i64 ((shr .u64 (IntKind.wrap .u64 ((IntKind.wrap .i64 (x1 + x2)))) (1 : Int)))) < (((List.length a0) : Nat) : Int)) ∧ (True) ∧ (∃ t10 : Int, (Fun cfg 16 [.agg [.c (.sc (.int .i64 (List.getD a0 (Int.toNat (IntKind.wrap .i64 ((shr .u64 (IntKind.wrap .u64 ((IntKind.wrap .i64 (x1 + x2)))) (1 : Int))))) ((0 : Int), (0 : Int))).1)), .c (.sc (.int .i64 (List.getD a0 (Int.toNat (IntKind.wrap .i64 ((shr .u64 (IntKind.wrap .u64 ((IntKind.wrap .i64 (x1 + x2)))) (1 : Int))))) ((0 : Int), (0 : Int))).2))], .one (.sc (.int .i64 a1))] [] (alarm_Set_2.R t10) [] ∧ True) ∧ (True) ∧ (((decide (t10 < (0 : Int))) = true → (True ∧ (True) ∧ (((True) ∧ (True) ∧ True) ∧ TripN cfg (cpath (Try.f15.body.getD .skip) [1, 1, 1, 0, 0, 0]) n (slices_BinarySearchFunc_alarm_Alarm_alarm_Alarm_int.l0_S a0 a1 (IntKind.wrap .i64 ((IntKind.wrap .i64 ((shr .u64 (IntKind.wrap .u64 ((IntKind.wrap .i64 (x1 + x2)))) (1 : Int)))) + (1 : Int))) x2) (slices_BinarySearchFunc_alarm_Alarm_alarm_Alarm_int.l0_Q a0 a1 r)))) ∧ ((decide (t10 < (0 : Int))) = false → (True ∧ (((True) ∧ (True) ∧ True) ∧ TripN cfg (cpath (Try.f15.body.getD .skip) [1, 1, 1, 0, 0, 0]) n (slices_BinarySearchFunc_alarm_Alarm_alarm_Alarm_int.l0_S a0 a1 x1 (IntKind.wrap .i64 ((shr .u64 (IntKind.wrap .u64 ((IntKind.wrap .i64 (x1 + x2)))) (1 : Int))))) (slices_BinarySearchFunc_alarm_Alarm_alarm_Alarm_int.l0_Q a0 a1 r))))))) ∧ ((decide (x1 < x2)) = false → (((True) ∧ (True) ∧ True) ∧ slices_BinarySearchFunc_alarm_Alarm_alarm_Alarm_int.l0_Q a0 a1 r (.exit 0) ⟨[.v (.one (.fs (.pair (.int .i64) (.int .i64)) a0 false)), .v (.one (.sc (.int .i64 a1))), .v (.one (.sc (.func (.func 16) #[] #[]))), .any, .any, .any, .any, .any, .v (.one (.sc (.int .i64 (((List.length a0) : Nat) : Int)))), .v (.one (.sc (.int .i64 x1))), .any, .any, .any, .any, .any, .any, .any, .any, .any, .any, .any, .any, .any, .any, .any, .any, .any, .any, .any, .any, .any, .any, .any, .any, .any, .any, .any, .any, .any, .any, .any, .any, .any, .any, .any, .any, .any, .any, .any], [], 0⟩)))) (by kernel_rfl) ?_)
    refine ⟨trivial, ?_⟩
    refine ⟨fun b9 => ?_, fun b9 => ?_⟩
    · rw [if_pos (of_decide_eq_true b9)] at h
      refine ⟨trivial, trivial, ?_⟩
      refine ⟨(by decide), ?_⟩
      refine ⟨trivial, ?_⟩
      obtain ⟨g12, h⟩ := of_guard h
      refine ⟨g12, ?_⟩
      refine ⟨trivial, ?_⟩
      obtain ⟨t10, ht10, h⟩ := of_bind h
      refine ⟨t10, ⟨alarm_Set_2.fun_ ht10, trivial⟩, ?_⟩
      refine ⟨trivial, ?_⟩
      refine ⟨fun b11 => ?_, fun b11 => ?_⟩
      · rw [if_pos (of_decide_eq_true b11)] at h
        refine ⟨trivial, trivial, ?_⟩
        exact ⟨⟨trivial, trivial, trivial⟩, ih (IntKind.wrap .i64 ((IntKind.wrap .i64 ((shr .u64 (IntKind.wrap .u64 ((IntKind.wrap .i64 (x1 + x2)))) (1 : Int)))) + (1 : Int))) x2 r h⟩
      · rw [if_neg (of_decide_eq_false b11)] at h
        refine ⟨trivial, ?_⟩
        exact ⟨⟨trivial, trivial, trivial⟩, ih x1 (IntKind.wrap .i64 ((shr .u64 (IntKind.wrap .u64 ((IntKind.wrap .i64 (x1 + x2)))) (1 : Int)))) r h⟩
    · rw [if_neg (of_decide_eq_false b9)] at h
      obtain rfl := Option.some.inj h
      exact ⟨⟨trivial, trivial, trivial⟩, rfl, rfl⟩
def slices_BinarySearchFunc_alarm_Alarm_alarm_Alarm_int.f (a0 : (List (Int × Int))) (a1 : Int) : Option (Int × Bool) :=
  (slices_BinarySearchFunc_alarm_Alarm_alarm_Alarm_int.l0 a0 a1 FUEL (0 : Int) (((List.length a0) : Nat) : Int)).bind fun t8 =>
  if t8 < (((List.length a0) : Nat) : Int) then
    if 0 ≤ t8 ∧ t8 < (((List.length a0) : Nat) : Int) then
      (alarm_Set_2.f (List.getD a0 (Int.toNat t8) ((0 : Int), (0 : Int))).1 (List.getD a0 (Int.toNat t8) ((0 : Int), (0 : Int))).2 a1).bind fun t16 =>
      some (t8, (t16 == (0 : Int)))
    else none
  else
    some (t8, false)
def slices_BinarySearchFunc_alarm_Alarm_alarm_Alarm_int.R (r : Int × Bool) : Tm := .tup [.one (.sc (.int .i64 r.1)), .one (.sc (.bool r.2))]
def slices_BinarySearchFunc_alarm_Alarm_alarm_Alarm_int.B (a0 : (List (Int × Int))) (a1 : Int) (r : Int × Bool) : List Box := []
theorem slices_BinarySearchFunc_alarm_Alarm_alarm_Alarm_int.fun_ {a0 : (List (Int × Int))} {a1 : Int} {r : Int × Bool} (h : slices_BinarySearchFunc_alarm_Alarm_alarm_Alarm_int.f a0 a1 = some r) : Fun cfg 15 [.one (.fs (.pair (.int .i64) (.int .i64)) a0 false), .one (.sc (.int .i64 a1)), .one (.sc (.func (.func 16) #[] #[]))] [] (slices_BinarySearchFunc_alarm_Alarm_alarm_Alarm_int.R r) (slices_BinarySearchFunc_alarm_Alarm_alarm_Alarm_int.B a0 a1 r) := by
  unfold slices_BinarySearchFunc_alarm_Alarm_alarm_Alarm_int.f at h
  refine fun_of_run cfg_ok (f := 15) (fn := Try.f15) Try.func15 rfl (by kernel_rfl) (rs := [.tmp 6, .tmp 7]) rfl (nt := 49) rfl (l := fin) (k := (aE 4 (.adj [.keep [0, 1, 2, 8, 9, 10]] (.sub (Int) (fun _ => (.exit 0)) (fun t8 => ⟨[.v (.one (.fs (.pair (.int .i64) (.int .i64)) a0 false)), .v (.one (.sc (.int .i64 a1))), .v (.one (.sc (.func (.func 16) #[] #[]))), .any, .any, .any, .any, .any, .v (.one (.sc (.int .i64 (((List.length a0) : Nat) : Int)))), .v (.one (.sc (.int .i64 t8))), .any, .any, .any, .any, .any, .any, .any, .any, .any, .any, .any, .any, .any, .any, .any, .any, .any, .any, .any, .any, .any, .any, .any, .any, .any, .any, .any, .any, .any, .any, .any, .any, .any, .any, .any, .any, .any, .any, .any], [], 0⟩) (fun t8 => (.br (oT 6 (.call true [] (Int) alarm_Set_2.R (fun t16 => (oT 2 (aE 2 .nil))))) (oF 8 (aE 2 .nil)))))))) (to_goal (q := (True ∧ (True ∧ (True) ∧ (True ∧ (True ∧ (((True) ∧ True) ∧ (∃ t8 : Int, Trip cfg (.loop (cpath (Try.f15.body.getD .skip) [1, 1, 1, 0, 0, 0])) ⟨[.v (.one (.fs (.pair (.int .i64) (.int .i64)) a0 false)), .v (.one (.sc (.int .i64 a1))), .v (.one (.sc (.func (.func 16) #[] #[]))), .any, .any, .any, .any, .any, .v (.one (.sc (.int .i64 (((List.length a0) : Nat) : Int)))), .v (.one (.sc (.int .i64 (0 : Int)))), .v (.one (.sc (.int .i64 (((List.length a0) : Nat) : Int)))), .any, .any, .any, .any, .any, .any, .any, .any, .any, .any, .any, .any, .any, .any, .any, .any, .any, .any, .any, .any, .any, .any, .any, .any, .any, .any, .any, .any, .any, .any, .any, .any, .any, .any, .any, .any, .any, .any], [], 0⟩ (fun e s => e = (.exit 0) ∧ s = ⟨[.v (.one (.fs (.pair (.int .i64) (.int .i64)) a0 false)), .v (.one (.sc (.int .i64 a1))), .v (.one (.sc (.func (.func 16) #[] #[]))), .any, .any, .any, .any, .any, .v (.one (.sc (.int .i64 (((List.length a0) : Nat) : Int)))), .v (.one (.sc (.int .i64 t8))), .any, .any, .any, .any, .any, .any, .any, .any, .any, .any, .any, .any, .any, .any, .any, .any, .any, .any, .any, .any, .any, .any, .any, .any, .any, .any, .any, .any, .any, .any, .any, .any, .any, .any, .any, .any, .any, .any, .any], [], 0⟩) ∧ (True) ∧ (((decide (t8 < (((List.length a0) : Nat) : Int))) = true → ((decide (t8 < (((List.length a0) : Nat) : Int))) = true ∧ ((decide (t8 < (((List.length a0) : Nat) : Int))) = true ∧ ((decide (t8 < (((List.length a0) : Nat) : Int))) = true ∧ (0 ≤ t8 ∧ t8 < (((List.length a0) : Nat) : Int)) ∧ ((decide (t8 < (((List.length a0) : Nat) : Int))) = true ∧ (True) ∧ ((decide (t8 < (((List.length a0) : Nat) : Int))) = true ∧ ((decide (t8 < (((List.length a0) : Nat) : Int))) = true ∧ (∃ t16 : Int, (Fun cfg 16 [.agg [.c (.sc (.int .i64 (List.getD a0 (Int.toNat t8) ((0 : Int), (0 : Int))).1)), .c (.sc (.int .i64 (List.getD a0 (Int.toNat t8) ((0 : Int), (0 : Int))).2))], .one (.sc (.int .i64 a1))] [] (alarm_Set_2.R t16) [] ∧ True) ∧ ((decide (t8 < (((List.length a0) : Nat) : Int))) = true ∧ (True) ∧ ((decide (t8 < (((List.length a0) : Nat) : Int))) = true ∧ (True ∧ ((True) ∧ (True) ∧ (.tup [.one (.sc (.int .i64 t8)), .one (.sc (.bool (t16 == (0 : Int))))] : Tm) = slices_BinarySearchFunc_alarm_Alarm_alarm_Alarm_int.R r ∧ ([] : List Box) = slices_BinarySearchFunc_alarm_Alarm_alarm_Alarm_int.B a0 a1 r)))))))))))) ∧ ((decide (t8 < (((List.length a0) : Nat) : Int))) = false → ((decide (t8 < (((List.length a0) : Nat) : Int))) = false ∧ ((decide (t8 < (((List.length a0) : Nat) : Int))) = false ∧ ((decide (t8 < (((List.length a0) : Nat) : Int))) = false ∧ ((decide (t8 < (((List.length a0) : Nat) : Int))) = false ∧ ((decide (t8 < (((List.length a0) : Nat) : Int))) = false ∧ ((decide (t8 < (((List.length a0) : Nat) : Int))) = false ∧ ((decide (t8 < (((List.length a0) : Nat) : Int))) = false ∧ ((decide (t8 < (((List.length a0) : Nat) : Int))) = false ∧ (True ∧ ((True) ∧ (True) ∧ (.tup [.one (.sc (.int .i64 t8)), .one (.sc (.bool false))] : Tm) = slices_BinarySearchFunc_alarm_Alarm_alarm_Alarm_int.R r ∧ ([] : List Box) = slices_BinarySearchFunc_alarm_Alarm_alarm_Alarm_int.B a0 a1 r))))))))))))))))))) (by kernel_rfl) ?_)
  refine ⟨trivial, trivial, trivial, trivial, trivial, ?_⟩
  obtain ⟨t8, ht8, h⟩ := of_bind h
  refine ⟨⟨trivial, trivial⟩, t8, Trip.loop FUEL (slices_BinarySearchFunc_alarm_Alarm_alarm_Alarm_int.l0_ok a0 a1 FUEL (0 : Int) (((List.length a0) : Nat) : Int) t8 ht8), ?_⟩
  refine ⟨trivial, ?_⟩
  refine ⟨fun b15 => ?_, fun b15 => ?_⟩
  · rw [if_pos (of_decide_eq_true b15)] at h
    refine ⟨b15, ?_⟩
    refine ⟨b15, ?_⟩
    refine ⟨b15, ?_⟩
    obtain ⟨g17, h⟩ := of_guard h
    refine ⟨g17, ?_⟩
    refine ⟨b15, ?_⟩
    refine ⟨trivial, ?_⟩
    refine ⟨b15, ?_⟩
    refine ⟨b15, ?_⟩
    obtain ⟨t16, ht16, h⟩ := of_bind h
    refine ⟨t16, ⟨alarm_Set_2.fun_ ht16, trivial⟩, ?_⟩
    refine ⟨b15, ?_⟩
    refine ⟨trivial, ?_⟩
    refine ⟨b15, ?_⟩
    refine ⟨trivial, ?_⟩
    obtain rfl := Option.some.inj h
    exact ⟨trivial, trivial, rfl, rfl⟩
  · rw [if_neg (of_decide_eq_false b15)] at h
    refine ⟨b15, ?_⟩
    refine ⟨b15, ?_⟩
    refine ⟨b15, ?_⟩
    refine ⟨b15, ?_⟩
    refine ⟨b15, ?_⟩
    refine ⟨b15, ?_⟩
    refine ⟨b15, ?_⟩
    refine ⟨b15, ?_⟩
    refine ⟨trivial, ?_⟩
    obtain rfl := Option.some.inj h
    exact ⟨trivial, trivial, rfl, rfl⟩
/-! halter/alarm.Set -/
def alarm_Set.f (a0 : (List (Int × Int))) (a1 : Int) (a2 : Int) (a3 : Int) : Option ((List (Int × Int)) × Int × (Option Int)) :=
  (alarm_Check.f a0).bind fun t1 =>
  if ¬ (t1 = none) then
    some (([] : List (Int × Int)), (0 : Int), (some (22 : Int)))
  else
    (alarm_timed.f a2).bind fun t3 =>
    if ¬ (t3 = true) then
      some (([] : List (Int × Int)), (0 : Int), (some (22 : Int)))
    else
      (pids_Check.f a1).bind fun t5 =>
      if ¬ (t5 = none) then
        some (([] : List (Int × Int)), (0 : Int), (some (22 : Int)))
      else
        if a3 < (0 : Int) then
          some (([] : List (Int × Int)), (0 : Int), (some (22 : Int)))
        else
          if a3 > (4294967296 : Int) then
            some (([] : List (Int × Int)), (0 : Int), (some (22 : Int)))
          else
            (slices_Clone_alarm_Alarm_alarm_Alarm.f a0).bind fun t9 =>
            (slices_DeleteFunc_alarm_Alarm_alarm_Alarm.f t9 a1 a2 (0 : Int)).bind fun t10 =>
            match t10 with
            | .inl t11 =>
              if a3 > (0 : Int) then
                (slices_BinarySearchFunc_alarm_Alarm_alarm_Alarm_int.f t11.1 a1).bind fun t13 =>
                (alarm_InsertT.f t13.1 (List.take 1 [(a1, (IntKind.wrap .i64 (a2 + a3)))]) t11.1).bind fun t14 =>
                some (t14, t11.2, none)
              else
                some (t11.1, t11.2, none)
            | .inr t15 =>
              if a3 > (0 : Int) then
                if 0 + t15.1 ≤ (List.length t15.2.1) then
                  (slices_BinarySearchFunc_alarm_Alarm_alarm_Alarm_int.f (List.take t15.1 t15.2.1) a1).bind fun t18 =>
                  (alarm_Insert.f t15.1 t18.1 (List.take 1 [(a1, (IntKind.wrap .i64 (a2 + a3)))]) t15.2.1).bind fun t19 =>
                  some (t19, t15.2.2, none)
                else none
              else
                if (0 + t15.1 ≤ (List.length t15.2.1)) ∧ True then
                  some ((List.take t15.1 t15.2.1), t15.2.2, none)
                else none
def alarm_Set.R (r : (List (Int × Int)) × Int × (Option Int)) : Tm := .tup [.one (.fs (.pair (.int .i64) (.int .i64)) r.1 false), .one (.sc (.int .i64 r.2.1)), .one (.err r.2.2)]
theorem alarm_Set.fun_ {a0 : (List (Int × Int))} {a1 : Int} {a2 : Int} {a3 : Int} {r : (List (Int × Int)) × Int × (Option Int)} (h : alarm_Set.f a0 a1 a2 a3 = some r) : Fun cfg 6 [.one (.fs (.pair (.int .i64) (.int .i64)) a0 false), .one (.sc (.int .i64 a1)), .one (.sc (.int .i64 a2)), .one (.sc (.int .i64 a3))] [] (alarm_Set.R r) [] := by
  unfold alarm_Set.f at h
  refine fun_of_run cfg_ok (f := 6) (fn := Try.f6) Try.func6 rfl (by kernel_rfl) (rs := [.tmp 8, .tmp 9, .tmp 10]) rfl (nt := 60) rfl (l := fin) (k := (.call true [] ((Option Int)) alarm_Check.R (fun t1 => (.br (oT 14 (aE 2 (.adj [.co 0 true [(.pair (.int .i64) (.int .i64))], .drop 0] .nil))) (.one false (.call true [] (Bool) alarm_timed.R (fun t3 => (oF 2 (.br (oT 10 (aE 2 (.adj [.co 0 true [(.pair (.int .i64) (.int .i64))], .drop 0] .nil))) (.one false (.call true [] ((Option Int)) pids_Check.R (fun t5 => (oF 2 (.br (oT 6 (aE 2 (.adj [.co 0 true [(.pair (.int .i64) (.int .i64))], .drop 0] .nil))) (oF 2 (.br (oT 3 (aE 2 (.adj [.co 0 true [(.pair (.int .i64) (.int .i64))], .drop 0] .nil))) (oF 2 (.br (aE 2 (.adj [.co 0 true [(.pair (.int .i64) (.int .i64))], .drop 0] .nil)) (.callR true [] [] ((List (Int × Int))) (fun t9 => (slices_Clone_alarm_Alarm_alarm_Alarm.R t9)) (fun t9 => (slices_Clone_alarm_Alarm_alarm_Alarm.B a0 t9)) (fun t9 => (.alt (.callR true [] [3, 0, 1, 2] ((List (Int × Int)) × Int) (fun t11 => (slices_DeleteFunc_alarm_Alarm_alarm_Alarm.R (.inl t11))) (fun t11 => (slices_DeleteFunc_alarm_Alarm_alarm_Alarm.B t9 a1 a2 (0 : Int) (.inl t11))) (fun t11 => (.br (.callR true [] [] (Int × Bool) (fun t13 => (slices_BinarySearchFunc_alarm_Alarm_alarm_Alarm_int.R t13)) (fun t13 => (slices_BinarySearchFunc_alarm_Alarm_alarm_Alarm_int.B t11.1 a1 t13)) (fun t13 => (.d .no (.callR false [] [3] ((List (Int × Int))) (fun t14 => (alarm_InsertT.R t14)) (fun t14 => (alarm_InsertT.B t13.1 (List.take 1 [(a1, (IntKind.wrap .i64 (a2 + a3)))]) t11.1 t14)) (fun t14 => (.dr [(0, dN), (2, dN), (1, dN), (3, dN), (4, dN)] (.adj [] (.adj [.co 0 true [], .drop 0] .nil)))))))) (.dr [(0, dN), (2, dN), (1, dN), (3, dN), (4, dN)] (.adj [] (.adj [.co 0 true [], .drop 0] .nil)))))) (.callR true [] [3, 0, 1, 2] (Nat × (List (Int × Int)) × Int) (fun t15 => (slices_DeleteFunc_alarm_Alarm_alarm_Alarm.R (.inr t15))) (fun t15 => (slices_DeleteFunc_alarm_Alarm_alarm_Alarm.B t9 a1 a2 (0 : Int) (.inr t15))) (fun t15 => (.br (.callR false [] [] (Int × Bool) (fun t18 => (slices_BinarySearchFunc_alarm_Alarm_alarm_Alarm_int.R t18)) (fun t18 => (slices_BinarySearchFunc_alarm_Alarm_alarm_Alarm_int.B (List.take t15.1 t15.2.1) a1 t18)) (fun t18 => (.d .no (.callR false [] [3] ((List (Int × Int))) (fun t19 => (alarm_Insert.R t19)) (fun t19 => (alarm_Insert.B t15.1 t18.1 (List.take 1 [(a1, (IntKind.wrap .i64 (a2 + a3)))]) t15.2.1 t19)) (fun t19 => (.dr [(0, dN), (2, dN), (1, dN), (3, dN), (4, dN)] (.adj [] (.adj [.co 0 true [], .drop 0] .nil)))))))) (.dr [(0, dN), (2, dN), (1, dN), (3, dN), (4, dN)] (.adj [] (.adj [.co 0 false [], .drop 0] .nil))))))))))))))))))))))))))) (to_goal (q := (∃ t1 : (Option Int), (Fun cfg 9 [.one (.fs (.pair (.int .i64) (.int .i64)) a0 false)] [] (alarm_Check.R t1) [] ∧ True) ∧ (True) ∧ (((!(Option.isNone t1)) = false → (True) ∧ ((!(Option.isNone t1)) = false ∧ (∃ t3 : Bool, (Fun cfg 10 [.one (.sc (.int .i64 a2))] [] (alarm_timed.R t3) [] ∧ True) ∧ ((!(Option.isNone t1)) = false ∧ ((!(Option.isNone t1)) = false ∧ (((!t3) = false → (True) ∧ ((!t3) = false ∧ (∃ t5 : (Option Int), (Fun cfg 11 [.one (.sc (.int .i64 a1))] [] (pids_Check.R t5) [] ∧ True) ∧ ((!t3) = false ∧ (True) ∧ ((!t3) = false ∧ (((!(Option.isNone t5)) = false → ((!(Option.isNone t5)) = false ∧ (True) ∧ ((!(Option.isNone t5)) = false ∧ (((decide (a3 < (0 : Int))) = false → ((decide (a3 < (0 : Int))) = false ∧ (True) ∧ ((decide (a3 < (0 : Int))) = false ∧ (((decide (a3 > (4294967296 : Int))) = true → (True ∧ (True ∧ ((True) ∧ ((True) ∧ (True) ∧ True) ∧ (.tup [.one (.fs (.pair (.int .i64) (.int .i64)) ([] : List (Int × Int)) false), .one (.sc (.int .i64 (0 : Int))), .one (.err (some (22 : Int)))] : Tm) = alarm_Set.R r ∧ ([] : List Box) = [])))) ∧ ((decide (a3 > (4294967296 : Int))) = false → (True) ∧ (∃ t9 : (List (Int × Int)), (Fun cfg 13 [.one (.fs (.pair (.int .i64) (.int .i64)) a0 false)] [] (slices_Clone_alarm_Alarm_alarm_Alarm.R t9) (slices_Clone_alarm_Alarm_alarm_Alarm.B a0 t9) ∧ True) ∧ (True) ∧ ((∃ t11 : (List (Int × Int)) × Int, (Fun cfg 12 [.one (.os 0 0 0 2 (List.length t9) none), .clo 14 [(false, 1), (false, 1), (false, 1)] [.c (.ptr 1 ⟨0, 0, 0, 0⟩), .c (.ptr 2 ⟨0, 0, 0, 0⟩), .c (.ptr 3 ⟨0, 0, 0, 0⟩)]] [.gro false (.pair (.int .i64) (.int .i64)) t9 35, .ex false [.c (.sc (.int .i64 a1))] 3, .ex false [.c (.sc (.int .i64 a2))] 3, .ex false [.c (.sc (.int .i64 (0 : Int)))] 3] (slices_DeleteFunc_alarm_Alarm_alarm_Alarm.R (.inl t11)) (slices_DeleteFunc_alarm_Alarm_alarm_Alarm.B t9 a1 a2 (0 : Int) (.inl t11)) ∧ True) ∧ (True) ∧ (((decide (a3 > (0 : Int))) = true → (True) ∧ (∃ t13 : Int × Bool, ((0 = 0 ∧ (List.length t11.1) = (List.length t11.1)) ∧ Fun cfg 15 [.one (.fs (.pair (.int .i64) (.int .i64)) t11.1 false), .one (.sc (.int .i64 a1)), .one (.sc (.func (.func 16) #[] #[]))] [] (slices_BinarySearchFunc_alarm_Alarm_alarm_Alarm_int.R t13) (slices_BinarySearchFunc_alarm_Alarm_alarm_Alarm_int.B t11.1 a1 t13) ∧ True) ∧ (True) ∧ (True) ∧ (True) ∧ (∃ t14 : (List (Int × Int)), ((0 + 1 ≤ 1) ∧ Fun cfg 17 [.one (.os 0 0 0 2 (List.length t11.1) none), .one (.sc (.int .i64 t13.1)), .one (.fs (.pair (.int .i64) (.int .i64)) (List.take 1 [(a1, (IntKind.wrap .i64 (a2 + a3)))]) false)] [.gro false (.pair (.int .i64) (.int .i64)) t11.1 35] (alarm_InsertT.R t14) (alarm_InsertT.B t13.1 (List.take 1 [(a1, (IntKind.wrap .i64 (a2 + a3)))]) t11.1 t14) ∧ True) ∧ (True) ∧ (True ∧ ((True) ∧ ((((0 = 0 ∧ (List.length t14) = (List.length t14))) ∧ True) ∧ (True) ∧ True) ∧ (.tup [.one (.fs (.pair (.int .i64) (.int .i64)) t14 false), .one (.sc (.int .i64 t11.2)), .one (.err none)] : Tm) = alarm_Set.R r ∧ ([] : List Box) = []))))) ∧ ((decide (a3 > (0 : Int))) = false → (True) ∧ (True ∧ ((True) ∧ ((((0 = 0 ∧ (List.length t11.1) = (List.length t11.1))) ∧ True) ∧ (True) ∧ True) ∧ (.tup [.one (.fs (.pair (.int .i64) (.int .i64)) t11.1 false), .one (.sc (.int .i64 t11.2)), .one (.err none)] : Tm) = alarm_Set.R r ∧ ([] : List Box) = []))))) ∨ (∃ t15 : Nat × (List (Int × Int)) × Int, (Fun cfg 12 [.one (.os 0 0 0 2 (List.length t9) none), .clo 14 [(false, 1), (false, 1), (false, 1)] [.c (.ptr 1 ⟨0, 0, 0, 0⟩), .c (.ptr 2 ⟨0, 0, 0, 0⟩), .c (.ptr 3 ⟨0, 0, 0, 0⟩)]] [.gro false (.pair (.int .i64) (.int .i64)) t9 35, .ex false [.c (.sc (.int .i64 a1))] 3, .ex false [.c (.sc (.int .i64 a2))] 3, .ex false [.c (.sc (.int .i64 (0 : Int)))] 3] (slices_DeleteFunc_alarm_Alarm_alarm_Alarm.R (.inr t15)) (slices_DeleteFunc_alarm_Alarm_alarm_Alarm.B t9 a1 a2 (0 : Int) (.inr t15)) ∧ True) ∧ (True) ∧ (((decide (a3 > (0 : Int))) = true → (True) ∧ (∃ t18 : Int × Bool, ((0 + t15.1 ≤ (List.length t15.2.1)) ∧ Fun cfg 15 [.one (.fs (.pair (.int .i64) (.int .i64)) (List.take t15.1 t15.2.1) false), .one (.sc (.int .i64 a1)), .one (.sc (.func (.func 16) #[] #[]))] [] (slices_BinarySearchFunc_alarm_Alarm_alarm_Alarm_int.R t18) (slices_BinarySearchFunc_alarm_Alarm_alarm_Alarm_int.B (List.take t15.1 t15.2.1) a1 t18) ∧ True) ∧ (True) ∧ (True) ∧ (True) ∧ (∃ t19 : (List (Int × Int)), ((0 + 1 ≤ 1) ∧ Fun cfg 17 [.one (.os 0 0 0 2 t15.1 none), .one (.sc (.int .i64 t18.1)), .one (.fs (.pair (.int .i64) (.int .i64)) (List.take 1 [(a1, (IntKind.wrap .i64 (a2 + a3)))]) false)] [.gro false (.pair (.int .i64) (.int .i64)) t15.2.1 35] (alarm_Insert.R t19) (alarm_Insert.B t15.1 t18.1 (List.take 1 [(a1, (IntKind.wrap .i64 (a2 + a3)))]) t15.2.1 t19) ∧ True) ∧ (True) ∧ (True ∧ ((True) ∧ ((((0 = 0 ∧ (List.length t19) = (List.length t19))) ∧ True) ∧ (True) ∧ True) ∧ (.tup [.one (.fs (.pair (.int .i64) (.int .i64)) t19 false), .one (.sc (.int .i64 (z2 t15))), .one (.err none)] : Tm) = alarm_Set.R r ∧ ([] : List Box) = []))))) ∧ ((decide (a3 > (0 : Int))) = false → (True) ∧ (True ∧ ((True) ∧ (((0 + t15.1 ≤ (List.length t15.2.1)) ∧ True) ∧ (True) ∧ True) ∧ (.tup [.one (.fs (.pair (.int .i64) (.int .i64)) (List.take t15.1 t15.2.1) false), .one (.sc (.int .i64 (z2 t15))), .one (.err none)] : Tm) = alarm_Set.R r ∧ ([] : List Box) = [])))))))))))) ∧ ((decide (a3 < (0 : Int))) = true → ((decide (a3 < (0 : Int))) = true ∧ ((decide (a3 < (0 : Int))) = true ∧ (true = true ∧ (True ∧ (True ∧ ((True) ∧ ((True) ∧ (True) ∧ True) ∧ (.tup [.one (.fs (.pair (.int .i64) (.int .i64)) ([] : List (Int × Int)) false), .one (.sc (.int .i64 (0 : Int))), .one (.err (some (22 : Int)))] : Tm) = alarm_Set.R r ∧ ([] : List Box) = []))))))))))) ∧ ((!(Option.isNone t5)) = true → ((!(Option.isNone t5)) = true ∧ ((!(Option.isNone t5)) = true ∧ (true = true ∧ (true = true ∧ (true = true ∧ (true = true ∧ (True ∧ (True ∧ ((True) ∧ ((True) ∧ (True) ∧ True) ∧ (.tup [.one (.fs (.pair (.int .i64) (.int .i64)) ([] : List (Int × Int)) false), .one (.sc (.int .i64 (0 : Int))), .one (.err (some (22 : Int)))] : Tm) = alarm_Set.R r ∧ ([] : List Box) = [])))))))))))))))) ∧ ((!t3) = true → ((!t3) = true ∧ ((!t3) = true ∧ ((!t3) = true ∧ (true = true ∧ (true = true ∧ (true = true ∧ (true = true ∧ (true = true ∧ (true = true ∧ (true = true ∧ (True ∧ (True ∧ ((True) ∧ ((True) ∧ (True) ∧ True) ∧ (.tup [.one (.fs (.pair (.int .i64) (.int .i64)) ([] : List (Int × Int)) false), .one (.sc (.int .i64 (0 : Int))), .one (.err (some (22 : Int)))] : Tm) = alarm_Set.R r ∧ ([] : List Box) = [])))))))))))))))))))) ∧ ((!(Option.isNone t1)) = true → ((!(Option.isNone t1)) = true ∧ ((!(Option.isNone t1)) = true ∧ ((!(Option.isNone t1)) = true ∧ (true = true ∧ (true = true ∧ (true = true ∧ (true = true ∧ (true = true ∧ (true = true ∧ (true = true ∧ (true = true ∧ (true = true ∧ (true = true ∧ (true = true ∧ (True ∧ (True ∧ ((True) ∧ ((True) ∧ (True) ∧ True) ∧ (.tup [.one (.fs (.pair (.int .i64) (.int .i64)) ([] : List (Int × Int)) false), .one (.sc (.int .i64 (0 : Int))), .one (.err (some (22 : Int)))] : Tm) = alarm_Set.R r ∧ ([] : List Box) = []))))))))))))))))))))) (by kernel_rfl) ?_)
  obtain ⟨t1, ht1, h⟩ := of_bind h
  refine ⟨t1, ⟨alarm_Check.fun_ ht1, trivial⟩, ?_⟩
  refine ⟨trivial, ?_⟩
  refine ⟨fun b2 => ?_, fun b2 => ?_⟩
  · rw [if_neg (not_not_intro (none_t (not_f b2)))] at h
    refine ⟨trivial, ?_⟩
    refine ⟨b2, ?_⟩
    obtain ⟨t3, ht3, h⟩ := of_bind h
    refine ⟨t3, ⟨alarm_timed.fun_ ht3, trivial⟩, ?_⟩
    refine ⟨b2, ?_⟩
    refine ⟨b2, ?_⟩
    refine ⟨fun b4 => ?_, fun b4 => ?_⟩
    · rw [if_neg (not_not_intro (not_f b4))] at h
      refine ⟨trivial, ?_⟩
      refine ⟨b4, ?_⟩
      obtain ⟨t5, ht5, h⟩ := of_bind h
      refine ⟨t5, ⟨pids_Check.fun_ ht5, trivial⟩, ?_⟩
      refine ⟨b4, ?_⟩
      refine ⟨trivial, ?_⟩
      refine ⟨b4, ?_⟩
      refine ⟨fun b6 => ?_, fun b6 => ?_⟩
      · rw [if_neg (not_not_intro (none_t (not_f b6)))] at h
        refine ⟨b6, ?_⟩
        refine ⟨trivial, ?_⟩
        refine ⟨b6, ?_⟩
        refine ⟨fun b7 => ?_, fun b7 => ?_⟩
        · rw [if_neg (of_decide_eq_false b7)] at h
          refine ⟨b7, ?_⟩
          refine ⟨trivial, ?_⟩
          refine ⟨b7, ?_⟩
          refine ⟨fun b8 => ?_, fun b8 => ?_⟩
          · rw [if_pos (of_decide_eq_true b8)] at h
            refine ⟨trivial, trivial, ?_⟩
            obtain rfl := Option.some.inj h
            exact ⟨trivial, ⟨trivial, trivial, trivial⟩, rfl, rfl⟩
          · rw [if_neg (of_decide_eq_false b8)] at h
            refine ⟨trivial, ?_⟩
            obtain ⟨t9, ht9, h⟩ := of_bind h
            refine ⟨t9, ⟨slices_Clone_alarm_Alarm_alarm_Alarm.fun_ ht9, trivial⟩, ?_⟩
            refine ⟨trivial, ?_⟩
            obtain ⟨t10, ht10, h⟩ := of_bind h
            rcases t10 with t11 | t15
            · dsimp only at h
              left
              refine ⟨t11, ⟨slices_DeleteFunc_alarm_Alarm_alarm_Alarm.fun_ ht10, trivial⟩, ?_⟩
              refine ⟨trivial, ?_⟩
              refine ⟨fun b12 => ?_, fun b12 => ?_⟩
              · rw [if_pos (of_decide_eq_true b12)] at h
                refine ⟨trivial, ?_⟩
                obtain ⟨t13, ht13, h⟩ := of_bind h
                refine ⟨t13, ⟨⟨rfl, rfl⟩, slices_BinarySearchFunc_alarm_Alarm_alarm_Alarm_int.fun_ ht13, trivial⟩, ?_⟩
                refine ⟨trivial, trivial, trivial, ?_⟩
                obtain ⟨t14, ht14, h⟩ := of_bind h
                refine ⟨t14, ⟨(by decide), alarm_InsertT.fun_ ht14, trivial⟩, ?_⟩
                refine ⟨trivial, trivial, ?_⟩
                obtain rfl := Option.some.inj h
                exact ⟨trivial, ⟨⟨⟨rfl, rfl⟩, trivial⟩, trivial, trivial⟩, rfl, rfl⟩
              · rw [if_neg (of_decide_eq_false b12)] at h
                refine ⟨trivial, trivial, ?_⟩
                obtain rfl := Option.some.inj h
                exact ⟨trivial, ⟨⟨⟨rfl, rfl⟩, trivial⟩, trivial, trivial⟩, rfl, rfl⟩
            · dsimp only at h
              right
              refine ⟨t15, ⟨slices_DeleteFunc_alarm_Alarm_alarm_Alarm.fun_ ht10, trivial⟩, ?_⟩
              refine ⟨trivial, ?_⟩
              refine ⟨fun b16 => ?_, fun b16 => ?_⟩
              · rw [if_pos (of_decide_eq_true b16)] at h
                refine ⟨trivial, ?_⟩
                obtain ⟨g17, h⟩ := of_guard h
                obtain ⟨t18, ht18, h⟩ := of_bind h
                refine ⟨t18, ⟨g17, slices_BinarySearchFunc_alarm_Alarm_alarm_Alarm_int.fun_ ht18, trivial⟩, ?_⟩
                refine ⟨trivial, trivial, trivial, ?_⟩
                obtain ⟨t19, ht19, h⟩ := of_bind h
                refine ⟨t19, ⟨(by decide), alarm_Insert.fun_ ht19, trivial⟩, ?_⟩
                refine ⟨trivial, trivial, ?_⟩
                obtain rfl := Option.some.inj h
                exact ⟨trivial, ⟨⟨⟨rfl, rfl⟩, trivial⟩, trivial, trivial⟩, rfl, rfl⟩
              · rw [if_neg (of_decide_eq_false b16)] at h
                refine ⟨trivial, trivial, ?_⟩
                obtain ⟨g20, h⟩ := of_guard h
                obtain rfl := Option.some.inj h
                exact ⟨trivial, ⟨g20, trivial, trivial⟩, rfl, rfl⟩
        · rw [if_pos (of_decide_eq_true b7)] at h
          refine ⟨b7, ?_⟩
          refine ⟨b7, ?_⟩
          refine ⟨rfl, trivial, trivial, ?_⟩
          obtain rfl := Option.some.inj h
          exact ⟨trivial, ⟨trivial, trivial, trivial⟩, rfl, rfl⟩
      · rw [if_pos (none_f (not_t b6))] at h
        refine ⟨b6, ?_⟩
        refine ⟨b6, ?_⟩
        refine ⟨rfl, rfl, rfl, rfl, trivial, trivial, ?_⟩
        obtain rfl := Option.some.inj h
        exact ⟨trivial, ⟨trivial, trivial, trivial⟩, rfl, rfl⟩
    · rw [if_pos (ff (not_t b4))] at h
      refine ⟨b4, ?_⟩
      refine ⟨b4, ?_⟩
      refine ⟨b4, ?_⟩
      refine ⟨rfl, rfl, rfl, rfl, rfl, rfl, rfl, trivial, trivial, ?_⟩
      obtain rfl := Option.some.inj h
      exact ⟨trivial, ⟨trivial, trivial, trivial⟩, rfl, rfl⟩
  · rw [if_pos (none_f (not_t b2))] at h
    refine ⟨b2, ?_⟩
    refine ⟨b2, ?_⟩
    refine ⟨b2, ?_⟩
    refine ⟨rfl, rfl, rfl, rfl, rfl, rfl, rfl, rfl, rfl, rfl, rfl, trivial, trivial, ?_⟩
    obtain rfl := Option.some.inj h
    exact ⟨trivial, ⟨trivial, trivial, trivial⟩, rfl, rfl⟩
/-! halter/alarm.Due -/
def alarm_Due.l0 (a0 : (List (Int × Int))) (a1 : Int) : Nat → (List Int) → (List (Int × Int)) → Int → Option ((List Int) × (List (Int × Int)))
  | 0, _, _, _ => none
  | n + 1, x31, x32, x33 =>
    if x33 < (((List.length a0) : Nat) : Int) then
      if 0 ≤ x33 ∧ x33 < (((List.length a0) : Nat) : Int) then
        if (List.getD a0 (Int.toNat x33) ((0 : Int), (0 : Int))).2 ≤ a1 then
          if 0 + 1 ≤ 1 ∧ 0 = 0 ∧ (List.length x31) = (List.length x31) ∧ (((List.length x31) + (List.length (List.take 1 [(List.getD a0 (Int.toNat x33) ((0 : Int), (0 : Int))).1]))) * 8 ≤ 140737488355328 ∧ (List.length x31) + (List.length (List.take 1 [(List.getD a0 (Int.toNat x33) ((0 : Int), (0 : Int))).1])) ≤ 9223372036854775807) then
            alarm_Due.l0 a0 a1 n (x31 ++ (List.take 1 [(List.getD a0 (Int.toNat x33) ((0 : Int), (0 : Int))).1])) x32 (IntKind.wrap .i64 (x33 + (1 : Int)))
          else none
        else
          if 0 + 1 ≤ 1 ∧ 0 = 0 ∧ (List.length x32) = (List.length x32) ∧ (((List.length x32) + (List.length (List.take 1 [((List.getD a0 (Int.toNat x33) ((0 : Int), (0 : Int))).1, (List.getD a0 (Int.toNat x33) ((0 : Int), (0 : Int))).2)]))) * 16 ≤ 140737488355328 ∧ (List.length x32) + (List.length (List.take 1 [((List.getD a0 (Int.toNat x33) ((0 : Int), (0 : Int))).1, (List.getD a0 (Int.toNat x33) ((0 : Int), (0 : Int))).2)])) ≤ 9223372036854775807) then
            alarm_Due.l0 a0 a1 n x31 (x32 ++ (List.take 1 [((List.getD a0 (Int.toNat x33) ((0 : Int), (0 : Int))).1, (List.getD a0 (Int.toNat x33) ((0 : Int), (0 : Int))).2)])) (IntKind.wrap .i64 (x33 + (1 : Int)))
          else none
      else none
    else
      some (x31, x32)
def alarm_Due.l0_S (a0 : (List (Int × Int))) (a1 : Int) (x31 : List Int) (x32 : List (Int × Int)) (x33 : Int) : St := ⟨[.any, .v (.one (.sc (.int .i64 a1))), .any, .any, .any, .any, .any, .v (.one (.os 0 0 0 1 (List.length x31) none)), .v (.one (.os 1 0 0 2 (List.length x32) none)), .any, .any, .any, .any, .any, .any, .any, .any, .any, .any, .any, .v (.one (.fs (.pair (.int .i64) (.int .i64)) a0 false)), .v (.one (.sc (.int .i64 (((List.length a0) : Nat) : Int)))), .v (.one (.sc (.int .i64 x33))), .any, .any, .any, .any, .any, .any, .any, .any, .any, .any, .any, .any, .any, .any, .any, .any, .any, .any, .any], [.gro false (.int .i64) x31 3, .gro false (.pair (.int .i64) (.int .i64)) x32 35], 0⟩
def alarm_Due.l0_Q (a0 : (List (Int × Int))) (a1 : Int) (t : (List Int) × (List (Int × Int))) : Exit → St → Prop := fun e s => e = (.exit 0) ∧ s = ⟨[.any, .any, .any, .any, .any, .any, .any, .v (.one (.os 0 0 0 1 (List.length t.1) none)), .v (.one (.os 1 0 0 2 (List.length t.2) none)), .any, .any, .any, .any, .any, .any, .any, .any, .any, .any, .any, .any, .any, .any, .any, .any, .any, .any, .any, .any, .any, .any, .any, .any, .any, .any, .any, .any, .any, .any, .any, .any, .any], [.gro false (.int .i64) t.1 3, .gro false (.pair (.int .i64) (.int .i64)) t.2 35], 0⟩
theorem alarm_Due.l0_ok (a0 : (List (Int × Int))) (a1 : Int) : ∀ (n : Nat) (x31 : List Int) (x32 : List (Int × Int)) (x33 : Int) (r : (List Int) × (List (Int × Int))), alarm_Due.l0 a0 a1 n x31 x32 x33 = some r → TripN cfg (cpath (Try.f7.body.getD .skip) [1, 1, 1, 1, 0, 1, 0, 0]) n (alarm_Due.l0_S a0 a1 x31 x32 x33) (alarm_Due.l0_Q a0 a1 r) := by
  intro n
  induction n with
  | zero => intro x31 x32 x33 r h; cases h
  | succ n ih =>
    intro x31 x32 x33 r h
    rw [alarm_Due.l0] at h
    refine TripN.of_run cfg_ok (k := (.br (.br (.d .no (.d (.b false) (.adj [] (.adj [.keep [1, 7, 8, 20, 21, 22], .drop 2] .nil)))) (.d .no (.d (.b false) (.adj [] (.adj [.keep [1, 7, 8, 20, 21, 22], .drop 2] .nil))))) (.adj [.keep [7, 8], .drop 2] .nil))) (to_goal (q := (True) ∧ (((decide (x33 < (((List.length a0) : Nat) : Int))) = true → (0 ≤ x33 ∧ x33 < (((List.length a0) : Nat) : Int)) ∧ (True) ∧ (True) ∧ (True) ∧ (True) ∧ (((decide ((List.getD a0 (Int.toNat x33) ((0 : Int), (0 : Int))).2 ≤ a1)) = true → (True) ∧ (0 + 1 ≤ 1 ∧ 0 = 0 ∧ (List.length x31) = (List.length x31) ∧ (((List.length x31) + (List.length (List.take 1 [(List.getD a0 (Int.toNat x33) ((0 : Int), (0 : Int))).1]))) * 8 ≤ 140737488355328 ∧ (List.length x31) + (List.length (List.take 1 [(List.getD a0 (Int.toNat x33) ((0 : Int), (0 : Int))).1])) ≤ 9223372036854775807)) ∧ (True ∧ (True) ∧ (((True) ∧ (True) ∧ True) ∧ TripN cfg (cpath (Try.f7.body.getD .skip) [1, 1, 1, 1, 0, 1, 0, 0]) n (alarm_Due.l0_S a0 a1 (x31 ++ (List.take 1 [(List.getD a0 (Int.toNat x33) ((0 : Int), (0 : Int))).1])) x32 (IntKind.wrap .i64 (x33 + (1 : Int)))) (alarm_Due.l0_Q a0 a1 r)))) ∧ ((decide ((List.getD a0 (Int.toNat x33) ((0 : Int), (0 : Int))).2 ≤ a1)) = false → (True) ∧ (0 + 1 ≤ 1 ∧ 0 = 0 ∧ (List.length x32) = (List.length x32) ∧ (((List.length x32) + (List.length (List.take 1 [((List.getD a0 (Int.toNat x33) ((0 : Int), (0 : Int))).1, (List.getD a0 (Int.toNat x33) ((0 : Int), (0 : Int))).2)]))) * 16 ≤ 140737488355328 ∧ (List.length x32) + (List.length (List.take 1 [((List.getD a0 (Int.toNat x33) ((0 : Int), (0 : Int))).1, (List.getD a0 (Int.toNat x33) ((0 : Int), (0 : Int))).2)])) ≤ 9223372036854775807)) ∧ (True ∧ (True) ∧ (((True) ∧ (True) ∧ True) ∧ TripN cfg (cpath (Try.f7.body.getD .skip) [1, 1, 1, 1, 0, 1, 0, 0]) n (alarm_Due.l0_S a0 a1 x31 (x32 ++ (List.take 1 [((List.getD a0 (Int.toNat x33) ((0 : Int), (0 : Int))).1, (List.getD a0 (Int.toNat x33) ((0 : Int), (0 : Int))).2)])) (IntKind.wrap .i64 (x33 + (1 : Int)))) (alarm_Due.l0_Q a0 a1 r)))))) ∧ ((decide (x33 < (((List.length a0) : Nat) : Int))) = false → (((True) ∧ (True) ∧ True) ∧ alarm_Due.l0_Q a0 a1 r (.exit 0) ⟨[.any, .any, .any, .any, .any, .any, .any, .v (.one (.os 0 0 0 1 (List.length x31) none)), .v (.one (.os 1 0 0 2 (List.length x32) none)), .any, .any, .any, .any, .any, .any, .any, .any, .any, .any, .any, .any, .any, .any, .any, .any, .any, .any, .any, .any, .any, .any, .any, .any, .any, .any, .any, .any, .any, .any, .any, .any, .any], [.gro false (.int .i64) x31 3, .gro false (.pair (.int .i64) (.int .i64)) x32 35], 0⟩)))) (by kernel_rfl) ?_)
    refine ⟨trivial, ?_⟩
    refine ⟨fun b42 => ?_, fun b42 => ?_⟩
    · rw [if_pos (of_decide_eq_true b42)] at h
      obtain ⟨g46, h⟩ := of_guard h
      refine ⟨g46, ?_⟩
      refine ⟨trivial, trivial, trivial, trivial, ?_⟩
      refine ⟨fun b43 => ?_, fun b43 => ?_⟩
      · rw [if_pos (of_decide_eq_true b43)] at h
        refine ⟨trivial, ?_⟩
        obtain ⟨g44, h⟩ := of_guard h
        refine ⟨g44, ?_⟩
        refine ⟨trivial, trivial, ?_⟩
        exact ⟨⟨trivial, trivial, trivial⟩, ih (x31 ++ (List.take 1 [(List.getD a0 (Int.toNat x33) ((0 : Int), (0 : Int))).1])) x32 (IntKind.wrap .i64 (x33 + (1 : Int))) r h⟩
      · rw [if_neg (of_decide_eq_false b43)] at h
        refine ⟨trivial, ?_⟩
        obtain ⟨g45, h⟩ := of_guard h
        refine ⟨g45, ?_⟩
        refine ⟨trivial, trivial, ?_⟩
        exact ⟨⟨trivial, trivial, trivial⟩, ih x31 (x32 ++ (List.take 1 [((List.getD a0 (Int.toNat x33) ((0 : Int), (0 : Int))).1, (List.getD a0 (Int.toNat x33) ((0 : Int), (0 : Int))).2)])) (IntKind.wrap .i64 (x33 + (1 : Int))) r h⟩
    · rw [if_neg (of_decide_eq_false b42)] at h
      obtain rfl := Option.some.inj h
      exact ⟨⟨trivial, trivial, trivial⟩, rfl, rfl⟩
def alarm_Due.f (a0 : (List (Int × Int))) (a1 : Int) : Option ((List Int) × (List (Int × Int)) × (Option Int)) :=
  (alarm_Check.f a0).bind fun t1 =>
  if ¬ (t1 = none) then
    some (([] : List Int), ([] : List (Int × Int)), (some (22 : Int)))
  else
    (alarm_timed.f a1).bind fun t3 =>
    if ¬ (t3 = true) then
      some (([] : List Int), ([] : List (Int × Int)), (some (22 : Int)))
    else
      (alarm_Due.l0 a0 a1 FUEL ([] : List Int) ([] : List (Int × Int)) (0 : Int)).bind fun t41 =>
      some (t41.1, t41.2, none)
def alarm_Due.R (r : (List Int) × (List (Int × Int)) × (Option Int)) : Tm := .tup [.one (.fs (.int .i64) r.1 false), .one (.fs (.pair (.int .i64) (.int .i64)) r.2.1 false), .one (.err r.2.2)]
theorem alarm_Due.fun_ {a0 : (List (Int × Int))} {a1 : Int} {r : (List Int) × (List (Int × Int)) × (Option Int)} (h : alarm_Due.f a0 a1 = some r) : Fun cfg 7 [.one (.fs (.pair (.int .i64) (.int .i64)) a0 false), .one (.sc (.int .i64 a1))] [] (alarm_Due.R r) [] := by
  unfold alarm_Due.f at h
  refine fun_of_run cfg_ok (f := 7) (fn := Try.f7) Try.func7 rfl (by kernel_rfl) (rs := [.tmp 4, .tmp 5, .tmp 6]) rfl (nt := 42) rfl (l := fin) (k := (.call true [] ((Option Int)) alarm_Check.R (fun t1 => (.br (oT 4 (aE 2 (.adj [.co 0 true [(.int .i64)], .co 1 true [(.pair (.int .i64) (.int .i64))]] .nil))) (.one false (.call true [] (Bool) alarm_timed.R (fun t3 => (oF 2 (.br (aE 2 (.adj [.co 0 true [(.int .i64)], .co 1 true [(.pair (.int .i64) (.int .i64))]] .nil)) (aE 5 (.adj [.keep [1, 7, 8, 20, 21, 22], .nilGro 7 (.int .i64) 3, .nilGro 8 (.pair (.int .i64) (.int .i64)) 35] (.sub ((List Int) × (List (Int × Int))) (fun _ => (.exit 0)) (fun t41 => ⟨[.any, .any, .any, .any, .any, .any, .any, .v (.one (.os 0 0 0 1 (List.length t41.1) none)), .v (.one (.os 1 0 0 2 (List.length t41.2) none)), .any, .any, .any, .any, .any, .any, .any, .any, .any, .any, .any, .any, .any, .any, .any, .any, .any, .any, .any, .any, .any, .any, .any, .any, .any, .any, .any, .any, .any, .any, .any, .any, .any], [.gro false (.int .i64) t41.1 3, .gro false (.pair (.int .i64) (.int .i64)) t41.2 35], 0⟩) (fun t41 => (aE 2 (.adj [.co 0 true [], .co 1 true [], .drop 0] .nil))))))))))))))) (to_goal (q := (∃ t1 : (Option Int), (Fun cfg 9 [.one (.fs (.pair (.int .i64) (.int .i64)) a0 false)] [] (alarm_Check.R t1) [] ∧ True) ∧ (True) ∧ (((!(Option.isNone t1)) = false → ((!(Option.isNone t1)) = false ∧ (∃ t3 : Bool, (Fun cfg 10 [.one (.sc (.int .i64 a1))] [] (alarm_timed.R t3) [] ∧ True) ∧ ((!(Option.isNone t1)) = false ∧ ((!(Option.isNone t1)) = false ∧ (((!t3) = true → (True ∧ (True ∧ ((True) ∧ ((True) ∧ (True) ∧ True) ∧ (.tup [.one (.fs (.int .i64) ([] : List Int) false), .one (.fs (.pair (.int .i64) (.int .i64)) ([] : List (Int × Int)) false), .one (.err (some (22 : Int)))] : Tm) = alarm_Due.R r ∧ ([] : List Box) = [])))) ∧ ((!t3) = false → (True ∧ (True ∧ (True ∧ (True ∧ (True) ∧ (True ∧ (((True) ∧ (True) ∧ (True) ∧ True) ∧ (∃ t41 : (List Int) × (List (Int × Int)), Trip cfg (.loop (cpath (Try.f7.body.getD .skip) [1, 1, 1, 1, 0, 1, 0, 0])) ⟨[.any, .v (.one (.sc (.int .i64 a1))), .any, .any, .any, .any, .any, .v (.one (.os 0 0 0 1 0 none)), .v (.one (.os 1 0 0 2 0 none)), .any, .any, .any, .any, .any, .any, .any, .any, .any, .any, .any, .v (.one (.fs (.pair (.int .i64) (.int .i64)) a0 false)), .v (.one (.sc (.int .i64 (((List.length a0) : Nat) : Int)))), .v (.one (.sc (.int .i64 (0 : Int)))), .any, .any, .any, .any, .any, .any, .any, .any, .any, .any, .any, .any, .any, .any, .any, .any, .any, .any, .any], [.gro false (.int .i64) ([] : List Int) 3, .gro false (.pair (.int .i64) (.int .i64)) ([] : List (Int × Int)) 35], 0⟩ (fun e s => e = (.exit 0) ∧ s = ⟨[.any, .any, .any, .any, .any, .any, .any, .v (.one (.os 0 0 0 1 (List.length t41.1) none)), .v (.one (.os 1 0 0 2 (List.length t41.2) none)), .any, .any, .any, .any, .any, .any, .any, .any, .any, .any, .any, .any, .any, .any, .any, .any, .any, .any, .any, .any, .any, .any, .any, .any, .any, .any, .any, .any, .any, .any, .any, .any, .any], [.gro false (.int .i64) t41.1 3, .gro false (.pair (.int .i64) (.int .i64)) t41.2 35], 0⟩) ∧ (True ∧ (True ∧ ((True) ∧ ((((0 = 0 ∧ (List.length t41.1) = (List.length t41.1))) ∧ True) ∧ (((0 = 0 ∧ (List.length t41.2) = (List.length t41.2))) ∧ True) ∧ (True) ∧ True) ∧ (.tup [.one (.fs (.int .i64) t41.1 false), .one (.fs (.pair (.int .i64) (.int .i64)) t41.2 false), .one (.err none)] : Tm) = alarm_Due.R r ∧ ([] : List Box) = []))))))))))))))))) ∧ ((!(Option.isNone t1)) = true → ((!(Option.isNone t1)) = true ∧ ((!(Option.isNone t1)) = true ∧ ((!(Option.isNone t1)) = true ∧ (true = true ∧ (True ∧ (True ∧ ((True) ∧ ((True) ∧ (True) ∧ True) ∧ (.tup [.one (.fs (.int .i64) ([] : List Int) false), .one (.fs (.pair (.int .i64) (.int .i64)) ([] : List (Int × Int)) false), .one (.err (some (22 : Int)))] : Tm) = alarm_Due.R r ∧ ([] : List Box) = []))))))))))) (by kernel_rfl) ?_)
  obtain ⟨t1, ht1, h⟩ := of_bind h
  refine ⟨t1, ⟨alarm_Check.fun_ ht1, trivial⟩, ?_⟩
  refine ⟨trivial, ?_⟩
  refine ⟨fun b2 => ?_, fun b2 => ?_⟩
  · rw [if_neg (not_not_intro (none_t (not_f b2)))] at h
    refine ⟨b2, ?_⟩
    obtain ⟨t3, ht3, h⟩ := of_bind h
    refine ⟨t3, ⟨alarm_timed.fun_ ht3, trivial⟩, ?_⟩
    refine ⟨b2, ?_⟩
    refine ⟨b2, ?_⟩
    refine ⟨fun b4 => ?_, fun b4 => ?_⟩
    · rw [if_pos (ff (not_t b4))] at h
      refine ⟨trivial, trivial, ?_⟩
      obtain rfl := Option.some.inj h
      exact ⟨trivial, ⟨trivial, trivial, trivial⟩, rfl, rfl⟩
    · rw [if_neg (not_not_intro (not_f b4))] at h
      refine ⟨trivial, trivial, trivial, trivial, trivial, trivial, ?_⟩
      obtain ⟨t41, ht41, h⟩ := of_bind h
      refine ⟨⟨trivial, trivial, trivial, trivial⟩, t41, Trip.loop FUEL (alarm_Due.l0_ok a0 a1 FUEL ([] : List Int) ([] : List (Int × Int)) (0 : Int) t41 ht41), ?_⟩
      refine ⟨trivial, trivial, ?_⟩
      obtain rfl := Option.some.inj h
      exact ⟨trivial, ⟨⟨⟨rfl, rfl⟩, trivial⟩, ⟨⟨rfl, rfl⟩, trivial⟩, trivial, trivial⟩, rfl, rfl⟩
  · rw [if_pos (none_f (not_t b2))] at h
    refine ⟨b2, ?_⟩
    refine ⟨b2, ?_⟩
    refine ⟨b2, ?_⟩
    refine ⟨rfl, trivial, trivial, ?_⟩
    obtain rfl := Option.some.inj h
    exact ⟨trivial, ⟨trivial, trivial, trivial⟩, rfl, rfl⟩
/-! halter/halterlaw29.ints -/
def halterlaw29_ints.l0 (a0 : (List Int)) (a1 : (List Int)) : Nat → Int → Option ((Unit) ⊕ (Unit))
  | 0, _ => none
  | n + 1, x2 =>
    if x2 < (((List.length a0) : Nat) : Int) then
      if 0 ≤ x2 ∧ x2 < (((List.length a0) : Nat) : Int) then
        if 0 ≤ x2 ∧ x2 < (((List.length a1) : Nat) : Int) then
          if ¬ (List.getD a0 (Int.toNat x2) (0 : Int)) = (List.getD a1 (Int.toNat x2) (0 : Int)) then
            some (.inr ())
          else
            halterlaw29_ints.l0 a0 a1 n (IntKind.wrap .i64 (x2 + (1 : Int)))
        else none
      else none
    else
      some (.inl ())
def halterlaw29_ints.l0_S (a0 : (List Int)) (a1 : (List Int)) (x2 : Int) : St := ⟨[.v (.one (.fs (.int .i64) a0 false)), .v (.one (.fs (.int .i64) a1 false)), .any, .any, .any, .v (.one (.sc (.int .i64 x2))), .any, .any, .any, .any, .any, .any, .any, .any, .any, .any, .any, .any, .any, .any, .any, .any, .any, .any, .any, .any], [], 0⟩
def halterlaw29_ints.l0_Q (a0 : (List Int)) (a1 : (List Int)) : (Unit) ⊕ (Unit) → Exit → St → Prop
  | .inl t => fun e s => e = (.exit 0) ∧ s = ⟨[.any, .any, .any, .any, .any, .any, .any, .any, .any, .any, .any, .any, .any, .any, .any, .any, .any, .any, .any, .any, .any, .any, .any, .any, .any, .any], [], 0⟩
  | .inr t => fun e s => e = .ret ∧ s = ⟨[.any, .any, .any, .any, .v (.one (.sc (.bool false))), .any, .any, .any, .any, .any, .any, .any, .any, .any, .any, .any, .any, .any, .any, .any, .any, .any, .any, .any, .any, .any], [], 0⟩
theorem halterlaw29_ints.l0_ok (a0 : (List Int)) (a1 : (List Int)) : ∀ (n : Nat) (x2 : Int) (r : (Unit) ⊕ (Unit)), halterlaw29_ints.l0 a0 a1 n x2 = some r → TripN cfg (cpath (Try.f8.body.getD .skip) [1, 1, 0, 1, 0, 0]) n (halterlaw29_ints.l0_S a0 a1 x2) (halterlaw29_ints.l0_Q a0 a1 r) := by
  intro n
  induction n with
  | zero => intro x2 r h; cases h
  | succ n ih =>
    intro x2 r h
    rw [halterlaw29_ints.l0] at h
    refine TripN.of_run cfg_ok (k := (.br (.dr [(0, dN), (1, dN), (2, dN), (4, dN), (5, dN), (6, dN), (3, dN), (7, dN), (8, dN)] (.br (.adj [] (.adj [.keep [4], .drop 0] .nil)) (aE 2 (.adj [.keep [0, 1, 5], .drop 0] .nil)))) (.adj [.keep [], .drop 0] .nil))) (to_goal (q := (True) ∧ (True) ∧ (((decide (x2 < (((List.length a0) : Nat) : Int))) = true → (0 ≤ x2 ∧ x2 < (((List.length a0) : Nat) : Int)) ∧ (0 ≤ x2 ∧ x2 < (((List.length a1) : Nat) : Int)) ∧ (True) ∧ (True) ∧ (True) ∧ ((((List.getD a0 (Int.toNat x2) (0 : Int)) != (List.getD a1 (Int.toNat x2) (0 : Int))) = true → (True ∧ (((True) ∧ (True) ∧ True) ∧ halterlaw29_ints.l0_Q a0 a1 r .ret ⟨[.any, .any, .any, .any, .v (.one (.sc (.bool false))), .any, .any, .any, .any, .any, .any, .any, .any, .any, .any, .any, .any, .any, .any, .any, .any, .any, .any, .any, .any, .any], [], 0⟩))) ∧ (((List.getD a0 (Int.toNat x2) (0 : Int)) != (List.getD a1 (Int.toNat x2) (0 : Int))) = false → (True ∧ (True ∧ (True) ∧ (((True) ∧ (True) ∧ True) ∧ TripN cfg (cpath (Try.f8.body.getD .skip) [1, 1, 0, 1, 0, 0]) n (halterlaw29_ints.l0_S a0 a1 (IntKind.wrap .i64 (x2 + (1 : Int)))) (halterlaw29_ints.l0_Q a0 a1 r))))))) ∧ ((decide (x2 < (((List.length a0) : Nat) : Int))) = false → (((True) ∧ (True) ∧ True) ∧ halterlaw29_ints.l0_Q a0 a1 r (.exit 0) ⟨[.any, .any, .any, .any, .any, .any, .any, .any, .any, .any, .any, .any, .any, .any, .any, .any, .any, .any, .any, .any, .any, .any, .any, .any, .any, .any], [], 0⟩)))) (by kernel_rfl) ?_)
    refine ⟨trivial, trivial, ?_⟩
    refine ⟨fun b8 => ?_, fun b8 => ?_⟩
    · rw [if_pos (of_decide_eq_true b8)] at h
      obtain ⟨g9, h⟩ := of_guard h
      obtain ⟨g10, h⟩ := of_guard h
      refine ⟨g9, g10, trivial, trivial, trivial, ?_⟩
      refine ⟨fun b11 => ?_, fun b11 => ?_⟩
      · rw [if_pos (bne_t b11)] at h
        refine ⟨trivial, ?_⟩
        obtain rfl := Option.some.inj h
        exact ⟨⟨trivial, trivial, trivial⟩, rfl, rfl⟩
      · rw [if_neg (not_not_intro (bne_f b11))] at h
        refine ⟨trivial, trivial, trivial, ?_⟩
        exact ⟨⟨trivial, trivial, trivial⟩, ih (IntKind.wrap .i64 (x2 + (1 : Int))) r h⟩
    · rw [if_neg (of_decide_eq_false b8)] at h
      obtain rfl := Option.some.inj h
      exact ⟨⟨trivial, trivial, trivial⟩, rfl, rfl⟩
def halterlaw29_ints.f (a0 : (List Int)) (a1 : (List Int)) : Option Bool :=
  if ¬ (((List.length a0) : Nat) : Int) = (((List.length a1) : Nat) : Int) then
    some false
  else
    (halterlaw29_ints.l0 a0 a1 FUEL (0 : Int)).bind fun t7 =>
    match t7 with
    | .inl t12 =>
      some true
    | .inr t13 =>
      some false
def halterlaw29_ints.R (r : Bool) : Tm := .v (.one (.sc (.bool r)))
theorem halterlaw29_ints.fun_ {a0 : (List Int)} {a1 : (List Int)} {r : Bool} (h : halterlaw29_ints.f a0 a1 = some r) : Fun cfg 8 [.one (.fs (.int .i64) a0 false), .one (.fs (.int .i64) a1 false)] [] (halterlaw29_ints.R r) [] := by
  unfold halterlaw29_ints.f at h
  refine fun_of_run cfg_ok (f := 8) (fn := Try.f8) Try.func8 rfl (by kernel_rfl) (rs := [.tmp 4]) rfl (nt := 26) rfl (l := fin) (k := (.br (aE 3 .nil) (aE 3 (.adj [.keep [0, 1, 5]] (.alt (.sub (Unit) (fun _ => (.exit 0)) (fun t12 => ⟨[.any, .any, .any, .any, .any, .any, .any, .any, .any, .any, .any, .any, .any, .any, .any, .any, .any, .any, .any, .any, .any, .any, .any, .any, .any, .any], [], 0⟩) (fun t12 => (aE 3 .nil))) (.sub (Unit) (fun _ => .ret) (fun t13 => ⟨[.any, .any, .any, .any, .v (.one (.sc (.bool false))), .any, .any, .any, .any, .any, .any, .any, .any, .any, .any, .any, .any, .any, .any, .any, .any, .any, .any, .any, .any, .any], [], 0⟩) (fun t13 => (.adj [] .nil)))))))) (to_goal (q := (True) ∧ (True) ∧ (True) ∧ ((((((List.length a0) : Nat) : Int) != (((List.length a1) : Nat) : Int)) = true → (True ∧ (True ∧ ((True) ∧ (True) ∧ (.v (.one (.sc (.bool false))) : Tm) = halterlaw29_ints.R r ∧ ([] : List Box) = [])))) ∧ (((((List.length a0) : Nat) : Int) != (((List.length a1) : Nat) : Int)) = false → (True ∧ (True ∧ (True ∧ (((True) ∧ True) ∧ ((∃ t12 : Unit, Trip cfg (.loop (cpath (Try.f8.body.getD .skip) [1, 1, 0, 1, 0, 0])) ⟨[.v (.one (.fs (.int .i64) a0 false)), .v (.one (.fs (.int .i64) a1 false)), .any, .any, .any, .v (.one (.sc (.int .i64 (0 : Int)))), .any, .any, .any, .any, .any, .any, .any, .any, .any, .any, .any, .any, .any, .any, .any, .any, .any, .any, .any, .any], [], 0⟩ (fun e s => e = (.exit 0) ∧ s = ⟨[.any, .any, .any, .any, .any, .any, .any, .any, .any, .any, .any, .any, .any, .any, .any, .any, .any, .any, .any, .any, .any, .any, .any, .any, .any, .any], [], 0⟩) ∧ (True ∧ (True ∧ ((True) ∧ (True) ∧ (.v (.one (.sc (.bool true))) : Tm) = halterlaw29_ints.R r ∧ ([] : List Box) = [])))) ∨ (∃ t13 : Unit, Trip cfg (.loop (cpath (Try.f8.body.getD .skip) [1, 1, 0, 1, 0, 0])) ⟨[.v (.one (.fs (.int .i64) a0 false)), .v (.one (.fs (.int .i64) a1 false)), .any, .any, .any, .v (.one (.sc (.int .i64 (0 : Int)))), .any, .any, .any, .any, .any, .any, .any, .any, .any, .any, .any, .any, .any, .any, .any, .any, .any, .any, .any, .any], [], 0⟩ (fun e s => e = .ret ∧ s = ⟨[.any, .any, .any, .any, .v (.one (.sc (.bool false))), .any, .any, .any, .any, .any, .any, .any, .any, .any, .any, .any, .any, .any, .any, .any, .any, .any, .any, .any, .any, .any], [], 0⟩) ∧ ((True) ∧ (True) ∧ (.v (.one (.sc (.bool false))) : Tm) = halterlaw29_ints.R r ∧ ([] : List Box) = [])))))))))) (by kernel_rfl) ?_)
  refine ⟨trivial, trivial, trivial, ?_⟩
  refine ⟨fun b1 => ?_, fun b1 => ?_⟩
  · rw [if_pos (bne_t b1)] at h
    refine ⟨trivial, trivial, ?_⟩
    obtain rfl := Option.some.inj h
    exact ⟨trivial, trivial, rfl, rfl⟩
  · rw [if_neg (not_not_intro (bne_f b1))] at h
    refine ⟨trivial, trivial, trivial, ?_⟩
    obtain ⟨t7, ht7, h⟩ := of_bind h
    refine ⟨⟨trivial, trivial⟩, ?_⟩
    rcases t7 with t12 | t13
    · dsimp only at h
      left
      refine ⟨t12, Trip.loop FUEL (halterlaw29_ints.l0_ok a0 a1 FUEL (0 : Int) (.inl t12) ht7), ?_⟩
      refine ⟨trivial, trivial, ?_⟩
      obtain rfl := Option.some.inj h
      exact ⟨trivial, trivial, rfl, rfl⟩
    · dsimp only at h
      right
      refine ⟨t13, Trip.loop FUEL (halterlaw29_ints.l0_ok a0 a1 FUEL (0 : Int) (.inr t13) ht7), ?_⟩
      obtain rfl := Option.some.inj h
      exact ⟨trivial, trivial, rfl, rfl⟩
/-! halter/halterlaw29.sure -/
def halterlaw29_sure.f : Option Bool :=
  (alarm_Set.f ([] : List (Int × Int)) (3 : Int) (5 : Int) (3 : Int)).bind fun t1 =>
  (alarm_Set.f t1.1 (3 : Int) (6 : Int) (9 : Int)).bind fun t2 =>
  (alarm_Due.f t1.1 (8 : Int)).bind fun t3 =>
  if t1.2.2 = none then
    if t2.2.2 = none then
      if t3.2.2 = none then
        if t1.2.1 = (0 : Int) then
          if t2.2.1 = (2 : Int) then
            if (((List.length t2.1) : Nat) : Int) = (1 : Int) then
              if 0 ≤ (0 : Int) ∧ (0 : Int) < (((List.length t2.1) : Nat) : Int) then
                if (List.getD t2.1 0 ((0 : Int), (0 : Int))).2 = (15 : Int) then
                  (halterlaw29_ints.f t3.1 [(3 : Int)]).bind fun t11 =>
                  if t11 = true then
                    some ((((List.length t3.2.1) : Nat) : Int) == (0 : Int))
                  else
                    some false
                else
                  some false
              else none
            else
              some false
          else
            some false
        else
          some false
      else
        some false
    else
      some false
  else
    some false
def halterlaw29_sure.R (r : Bool) : Tm := .v (.one (.sc (.bool r)))
theorem halterlaw29_sure.fun_ {r : Bool} (h : halterlaw29_sure.f = some r) : Fun cfg 5 [] [] (halterlaw29_sure.R r) [] := by
  unfold halterlaw29_sure.f at h
  refine fun_of_run cfg_ok (f := 5) (fn := Try.f5) Try.func5 rfl (by kernel_rfl) (rs := [.tmp 0]) rfl (nt := 67) rfl (l := fin) (k := (.call true [(.pair (.int .i64) (.int .i64))] ((List (Int × Int)) × Int × (Option Int)) alarm_Set.R (fun t1 => (.call true [] ((List (Int × Int)) × Int × (Option Int)) alarm_Set.R (fun t2 => (.call true [] ((List Int) × (List (Int × Int)) × (Option Int)) alarm_Due.R (fun t3 => (.br (oT 2 (.br (oT 2 (.br (oT 2 (.br (oT 2 (.br (oT 3 (.br (oT 5 (.br (.one true (.d .no (.one true (.call true [] (Bool) halterlaw29_ints.R (fun t11 => (.one true (.br (oT 3 (.adj [] (.adj [.drop 0] .nil))) (oF 3 (.adj [] (.adj [.drop 0] .nil)))))))))) (oF 7 (aE 2 .nil)))) (oF 13 (aE 2 .nil)))) (oF 17 (aE 2 .nil)))) (oF 20 (aE 2 .nil)))) (oF 23 (aE 2 .nil)))) (oF 26 (aE 2 .nil)))) (oF 29 (aE 2 .nil)))))))))) (to_goal (q := (∃ t1 : (List (Int × Int)) × Int × (Option Int), (Fun cfg 6 [.one (.fs (.pair (.int .i64) (.int .i64)) ([] : List (Int × Int)) false), .one (.sc (.int .i64 (3 : Int))), .one (.sc (.int .i64 (5 : Int))), .one (.sc (.int .i64 (3 : Int)))] [] (alarm_Set.R t1) [] ∧ True) ∧ (∃ t2 : (List (Int × Int)) × Int × (Option Int), (Fun cfg 6 [.one (.fs (.pair (.int .i64) (.int .i64)) t1.1 false), .one (.sc (.int .i64 (3 : Int))), .one (.sc (.int .i64 (6 : Int))), .one (.sc (.int .i64 (9 : Int)))] [] (alarm_Set.R t2) [] ∧ True) ∧ (∃ t3 : (List Int) × (List (Int × Int)) × (Option Int), (Fun cfg 7 [.one (.fs (.pair (.int .i64) (.int .i64)) t1.1 false), .one (.sc (.int .i64 (8 : Int)))] [] (alarm_Due.R t3) [] ∧ True) ∧ (True) ∧ (((Option.isNone (z2 t1)) = true → ((Option.isNone (z2 t1)) = true ∧ (True) ∧ ((Option.isNone (z2 t1)) = true ∧ (((Option.isNone (z2 t2)) = true → ((Option.isNone (z2 t2)) = true ∧ (True) ∧ ((Option.isNone (z2 t2)) = true ∧ (((Option.isNone (z2 t3)) = true → ((Option.isNone (z2 t3)) = true ∧ (True) ∧ ((Option.isNone (z2 t3)) = true ∧ (((t1.2.1 == (0 : Int)) = true → ((t1.2.1 == (0 : Int)) = true ∧ (True) ∧ ((t1.2.1 == (0 : Int)) = true ∧ (((t2.2.1 == (2 : Int)) = true → ((t2.2.1 == (2 : Int)) = true ∧ (True) ∧ ((t2.2.1 == (2 : Int)) = true ∧ (True) ∧ ((t2.2.1 == (2 : Int)) = true ∧ ((((((List.length t2.1) : Nat) : Int) == (1 : Int)) = true → (((((List.length t2.1) : Nat) : Int) == (1 : Int)) = true ∧ (0 ≤ (0 : Int) ∧ (0 : Int) < (((List.length t2.1) : Nat) : Int)) ∧ (((((List.length t2.1) : Nat) : Int) == (1 : Int)) = true ∧ (((((List.length t2.1) : Nat) : Int) == (1 : Int)) = true ∧ (True) ∧ (((((List.length t2.1) : Nat) : Int) == (1 : Int)) = true ∧ (True) ∧ (((((List.length t2.1) : Nat) : Int) == (1 : Int)) = true ∧ ((((List.getD t2.1 0 ((0 : Int), (0 : Int))).2 == (15 : Int)) = true → (((List.getD t2.1 0 ((0 : Int), (0 : Int))).2 == (15 : Int)) = true ∧ (((List.getD t2.1 0 ((0 : Int), (0 : Int))).2 == (15 : Int)) = true ∧ (∃ t11 : Bool, ((0 = 0 ∧ 1 = 1) ∧ Fun cfg 8 [.one (.fs (.int .i64) t3.1 false), .one (.fs (.int .i64) [(3 : Int)] false)] [] (halterlaw29_ints.R t11) [] ∧ True) ∧ (((List.getD t2.1 0 ((0 : Int), (0 : Int))).2 == (15 : Int)) = true ∧ ((t11 = true → (t11 = true ∧ (True) ∧ (t11 = true ∧ (True) ∧ (t11 = true ∧ (True ∧ ((True) ∧ ((True) ∧ True) ∧ (.v (.one (.sc (.bool ((((List.length t3.2.1) : Nat) : Int) == (0 : Int))))) : Tm) = halterlaw29_sure.R r ∧ ([] : List Box) = [])))))) ∧ (t11 = false → (t11 = false ∧ (t11 = false ∧ (t11 = false ∧ (True ∧ ((True) ∧ ((True) ∧ True) ∧ (.v (.one (.sc (.bool false))) : Tm) = halterlaw29_sure.R r ∧ ([] : List Box) = [])))))))))))) ∧ (((List.getD t2.1 0 ((0 : Int), (0 : Int))).2 == (15 : Int)) = false → (((List.getD t2.1 0 ((0 : Int), (0 : Int))).2 == (15 : Int)) = false ∧ (((List.getD t2.1 0 ((0 : Int), (0 : Int))).2 == (15 : Int)) = false ∧ (((List.getD t2.1 0 ((0 : Int), (0 : Int))).2 == (15 : Int)) = false ∧ (false = false ∧ (false = false ∧ (false = false ∧ (false = false ∧ (True ∧ ((True) ∧ (True) ∧ (.v (.one (.sc (.bool false))) : Tm) = halterlaw29_sure.R r ∧ ([] : List Box) = []))))))))))))))))) ∧ (((((List.length t2.1) : Nat) : Int) == (1 : Int)) = false → (((((List.length t2.1) : Nat) : Int) == (1 : Int)) = false ∧ (((((List.length t2.1) : Nat) : Int) == (1 : Int)) = false ∧ (((((List.length t2.1) : Nat) : Int) == (1 : Int)) = false ∧ (((((List.length t2.1) : Nat) : Int) == (1 : Int)) = false ∧ (((((List.length t2.1) : Nat) : Int) == (1 : Int)) = false ∧ (false = false ∧ (false = false ∧ (false = false ∧ (false = false ∧ (false = false ∧ (false = false ∧ (false = false ∧ (false = false ∧ (True ∧ ((True) ∧ (True) ∧ (.v (.one (.sc (.bool false))) : Tm) = halterlaw29_sure.R r ∧ ([] : List Box) = []))))))))))))))))))))) ∧ ((t2.2.1 == (2 : Int)) = false → ((t2.2.1 == (2 : Int)) = false ∧ ((t2.2.1 == (2 : Int)) = false ∧ ((t2.2.1 == (2 : Int)) = false ∧ (false = false ∧ (false = false ∧ (false = false ∧ (false = false ∧ (false = false ∧ (false = false ∧ (false = false ∧ (false = false ∧ (false = false ∧ (false = false ∧ (false = false ∧ (false = false ∧ (false = false ∧ (false = false ∧ (True ∧ ((True) ∧ (True) ∧ (.v (.one (.sc (.bool false))) : Tm) = halterlaw29_sure.R r ∧ ([] : List Box) = [])))))))))))))))))))))))) ∧ ((t1.2.1 == (0 : Int)) = false → ((t1.2.1 == (0 : Int)) = false ∧ ((t1.2.1 == (0 : Int)) = false ∧ (false = false ∧ (false = false ∧ (false = false ∧ (false = false ∧ (false = false ∧ (false = false ∧ (false = false ∧ (false = false ∧ (false = false ∧ (false = false ∧ (false = false ∧ (false = false ∧ (false = false ∧ (false = false ∧ (false = false ∧ (false = false ∧ (false = false ∧ (false = false ∧ (True ∧ ((True) ∧ (True) ∧ (.v (.one (.sc (.bool false))) : Tm) = halterlaw29_sure.R r ∧ ([] : List Box) = []))))))))))))))))))))))))))) ∧ ((Option.isNone (z2 t3)) = false → ((Option.isNone (z2 t3)) = false ∧ ((Option.isNone (z2 t3)) = false ∧ (false = false ∧ (false = false ∧ (false = false ∧ (false = false ∧ (false = false ∧ (false = false ∧ (false = false ∧ (false = false ∧ (false = false ∧ (false = false ∧ (false = false ∧ (false = false ∧ (false = false ∧ (false = false ∧ (false = false ∧ (false = false ∧ (false = false ∧ (false = false ∧ (false = false ∧ (false = false ∧ (false = false ∧ (True ∧ ((True) ∧ (True) ∧ (.v (.one (.sc (.bool false))) : Tm) = halterlaw29_sure.R r ∧ ([] : List Box) = [])))))))))))))))))))))))))))))) ∧ ((Option.isNone (z2 t2)) = false → ((Option.isNone (z2 t2)) = false ∧ ((Option.isNone (z2 t2)) = false ∧ (false = false ∧ (false = false ∧ (false = false ∧ (false = false ∧ (false = false ∧ (false = false ∧ (false = false ∧ (false = false ∧ (false = false ∧ (false = false ∧ (false = false ∧ (false = false ∧ (false = false ∧ (false = false ∧ (false = false ∧ (false = false ∧ (false = false ∧ (false = false ∧ (false = false ∧ (false = false ∧ (false = false ∧ (false = false ∧ (false = false ∧ (false = false ∧ (True ∧ ((True) ∧ (True) ∧ (.v (.one (.sc (.bool false))) : Tm) = halterlaw29_sure.R r ∧ ([] : List Box) = []))))))))))))))))))))))))))))))))) ∧ ((Option.isNone (z2 t1)) = false → ((Option.isNone (z2 t1)) = false ∧ ((Option.isNone (z2 t1)) = false ∧ (false = false ∧ (false = false ∧ (false = false ∧ (false = false ∧ (false = false ∧ (false = false ∧ (false = false ∧ (false = false ∧ (false = false ∧ (false = false ∧ (false = false ∧ (false = false ∧ (false = false ∧ (false = false ∧ (false = false ∧ (false = false ∧ (false = false ∧ (false = false ∧ (false = false ∧ (false = false ∧ (false = false ∧ (false = false ∧ (false = false ∧ (false = false ∧ (false = false ∧ (false = false ∧ (false = false ∧ (True ∧ ((True) ∧ (True) ∧ (.v (.one (.sc (.bool false))) : Tm) = halterlaw29_sure.R r ∧ ([] : List Box) = []))))))))))))))))))))))))))))))))))))) (by kernel_rfl) ?_)
  obtain ⟨t1, ht1, h⟩ := of_bind h
  refine ⟨t1, ⟨alarm_Set.fun_ ht1, trivial⟩, ?_⟩
  obtain ⟨t2, ht2, h⟩ := of_bind h
  refine ⟨t2, ⟨alarm_Set.fun_ ht2, trivial⟩, ?_⟩
  obtain ⟨t3, ht3, h⟩ := of_bind h
  refine ⟨t3, ⟨alarm_Due.fun_ ht3, trivial⟩, ?_⟩
  refine ⟨trivial, ?_⟩
  refine ⟨fun b4 => ?_, fun b4 => ?_⟩
  · rw [if_pos (none_t b4)] at h
    refine ⟨b4, ?_⟩
    refine ⟨trivial, ?_⟩
    refine ⟨b4, ?_⟩
    refine ⟨fun b5 => ?_, fun b5 => ?_⟩
    · rw [if_pos (none_t b5)] at h
      refine ⟨b5, ?_⟩
      refine ⟨trivial, ?_⟩
      refine ⟨b5, ?_⟩
      refine ⟨fun b6 => ?_, fun b6 => ?_⟩
      · rw [if_pos (none_t b6)] at h
        refine ⟨b6, ?_⟩
        refine ⟨trivial, ?_⟩
        refine ⟨b6, ?_⟩
        refine ⟨fun b7 => ?_, fun b7 => ?_⟩
        · rw [if_pos (beq_t b7)] at h
          refine ⟨b7, ?_⟩
          refine ⟨trivial, ?_⟩
          refine ⟨b7, ?_⟩
          refine ⟨fun b8 => ?_, fun b8 => ?_⟩
          · rw [if_pos (beq_t b8)] at h
            refine ⟨b8, ?_⟩
            refine ⟨trivial, ?_⟩
            refine ⟨b8, ?_⟩
            refine ⟨trivial, ?_⟩
            refine ⟨b8, ?_⟩
            refine ⟨fun b9 => ?_, fun b9 => ?_⟩
            · rw [if_pos (beq_t b9)] at h
              refine ⟨b9, ?_⟩
              obtain ⟨g13, h⟩ := of_guard h
              refine ⟨g13, ?_⟩
              refine ⟨b9, ?_⟩
              refine ⟨b9, ?_⟩
              refine ⟨trivial, ?_⟩
              refine ⟨b9, ?_⟩
              refine ⟨trivial, ?_⟩
              refine ⟨b9, ?_⟩
              refine ⟨fun b10 => ?_, fun b10 => ?_⟩
              · rw [if_pos (beq_t b10)] at h
                refine ⟨b10, ?_⟩
                refine ⟨b10, ?_⟩
                obtain ⟨t11, ht11, h⟩ := of_bind h
                refine ⟨t11, ⟨⟨rfl, rfl⟩, halterlaw29_ints.fun_ ht11, trivial⟩, ?_⟩
                refine ⟨b10, ?_⟩
                refine ⟨fun b12 => ?_, fun b12 => ?_⟩
                · rw [if_pos b12] at h
                  refine ⟨b12, ?_⟩
                  refine ⟨trivial, ?_⟩
                  refine ⟨b12, ?_⟩
                  refine ⟨trivial, ?_⟩
                  refine ⟨b12, ?_⟩
                  refine ⟨trivial, ?_⟩
                  obtain rfl := Option.some.inj h
                  exact ⟨trivial, ⟨trivial, trivial⟩, rfl, rfl⟩
                · rw [if_neg (ff b12)] at h
                  refine ⟨b12, ?_⟩
                  refine ⟨b12, ?_⟩
                  refine ⟨b12, ?_⟩
                  refine ⟨trivial, ?_⟩
                  obtain rfl := Option.some.inj h
                  exact ⟨trivial, ⟨trivial, trivial⟩, rfl, rfl⟩
              · rw [if_neg (beq_f b10)] at h
                refine ⟨b10, ?_⟩
                refine ⟨b10, ?_⟩
                refine ⟨b10, ?_⟩
                refine ⟨rfl, rfl, rfl, rfl, trivial, ?_⟩
                obtain rfl := Option.some.inj h
                exact ⟨trivial, trivial, rfl, rfl⟩
            · rw [if_neg (beq_f b9)] at h
              refine ⟨b9, ?_⟩
              refine ⟨b9, ?_⟩
              refine ⟨b9, ?_⟩
              refine ⟨b9, ?_⟩
              refine ⟨b9, ?_⟩
              refine ⟨rfl, rfl, rfl, rfl, rfl, rfl, rfl, rfl, trivial, ?_⟩
              obtain rfl := Option.some.inj h
              exact ⟨trivial, trivial, rfl, rfl⟩
          · rw [if_neg (beq_f b8)] at h
            refine ⟨b8, ?_⟩
            refine ⟨b8, ?_⟩
            refine ⟨b8, ?_⟩
            refine ⟨rfl, rfl, rfl, rfl, rfl, rfl, rfl, rfl, rfl, rfl, rfl, rfl, rfl, rfl, trivial, ?_⟩
            obtain rfl := Option.some.inj h
            exact ⟨trivial, trivial, rfl, rfl⟩
        · rw [if_neg (beq_f b7)] at h
          refine ⟨b7, ?_⟩
          refine ⟨b7, ?_⟩
          refine ⟨rfl, rfl, rfl, rfl, rfl, rfl, rfl, rfl, rfl, rfl, rfl, rfl, rfl, rfl, rfl, rfl, rfl, rfl, trivial, ?_⟩
          obtain rfl := Option.some.inj h
          exact ⟨trivial, trivial, rfl, rfl⟩
      · rw [if_neg (none_f b6)] at h
        refine ⟨b6, ?_⟩
        refine ⟨b6, ?_⟩
        refine ⟨rfl, rfl, rfl, rfl, rfl, rfl, rfl, rfl, rfl, rfl, rfl, rfl, rfl, rfl, rfl, rfl, rfl, rfl, rfl, rfl, rfl, trivial, ?_⟩
        obtain rfl := Option.some.inj h
        exact ⟨trivial, trivial, rfl, rfl⟩
    · rw [if_neg (none_f b5)] at h
      refine ⟨b5, ?_⟩
      refine ⟨b5, ?_⟩
      refine ⟨rfl, rfl, rfl, rfl, rfl, rfl, rfl, rfl, rfl, rfl, rfl, rfl, rfl, rfl, rfl, rfl, rfl, rfl, rfl, rfl, rfl, rfl, rfl, rfl, trivial, ?_⟩
      obtain rfl := Option.some.inj h
      exact ⟨trivial, trivial, rfl, rfl⟩
  · rw [if_neg (none_f b4)] at h
    refine ⟨b4, ?_⟩
    refine ⟨b4, ?_⟩
    refine ⟨rfl, rfl, rfl, rfl, rfl, rfl, rfl, rfl, rfl, rfl, rfl, rfl, rfl, rfl, rfl, rfl, rfl, rfl, rfl, rfl, rfl, rfl, rfl, rfl, rfl, rfl, rfl, trivial, ?_⟩
    obtain rfl := Option.some.inj h
    exact ⟨trivial, trivial, rfl, rfl⟩
/-! halter/halterlaw29.AlarmOnce -/
def halterlaw29_AlarmOnce.l0 (a0 : (List Int)) : Nat → (List Int) → (List (Int × Int)) → Int → Option (((List Int) × (List (Int × Int))) ⊕ ((List Int)))
  | 0, _, _, _ => none
  | n + 1, x11, x12, x13 =>
    if x13 < (((List.length a0) : Nat) : Int) then
      if 0 ≤ x13 ∧ x13 < (((List.length a0) : Nat) : Int) then
        (alarm_Set.f x12 (IntKind.wrap .i64 ((1 : Int) + (Int.tmod x13 (20 : Int)))) (0 : Int) (IntKind.wrap .i64 ((List.getD a0 (Int.toNat x13) (0 : Int))))).bind fun t26 =>
        if ¬ (t26.2.2 = none) then
          some (.inr x11)
        else
          if 0 ≤ x13 ∧ x13 < (((List.length a0) : Nat) : Int) then
            if 0 ≤ (IntKind.wrap .i64 ((1 : Int) + (Int.tmod x13 (20 : Int)))) ∧ (IntKind.wrap .i64 ((1 : Int) + (Int.tmod x13 (20 : Int)))) < ((100 : Nat) : Int) then
              if (0 + (Int.toNat (IntKind.wrap .i64 ((1 : Int) + (Int.tmod x13 (20 : Int)))))) < 100 then
                halterlaw29_AlarmOnce.l0 a0 n (List.set x11 (0 + (Int.toNat (IntKind.wrap .i64 ((1 : Int) + (Int.tmod x13 (20 : Int)))))) (IntKind.wrap .i64 ((List.getD a0 (Int.toNat x13) (0 : Int))))) t26.1 (IntKind.wrap .i64 (x13 + (1 : Int)))
              else none
            else none
          else none
      else none
    else
      some (.inl (x11, x12))
def halterlaw29_AlarmOnce.l0_S (a0 : (List Int)) (x11 : List Int) (x12 : List (Int × Int)) (x13 : Int) : St := ⟨[.v (.one (.fs (.int .u8) a0 false)), .any, .any, .v (.one (.fs (.pair (.int .i64) (.int .i64)) x12 false)), .v (.one (.os 0 0 0 1 100 none)), .v (.one (.sc (.int .i64 x13))), .any, .any, .any, .any, .any, .any, .any, .any, .any, .any, .any, .any, .any, .any, .any, .any, .any, .any, .any, .any, .any, .any, .any, .any, .any, .any, .any, .any, .any, .any, .any, .any, .any, .any, .any, .any, .any, .any, .any, .any, .any, .any, .any, .any, .any, .any, .any, .any, .any, .any, .any, .any, .any, .any, .any, .any, .any, .any, .any, .any, .any, .any, .any, .any, .any, .any, .any, .any, .any, .any, .any, .any, .any, .any, .any, .any, .any, .any, .any, .any, .any, .any, .any, .any, .any, .any, .any, .any, .any, .any, .any, .any, .any, .any, .any, .any, .any, .any, .any, .any, .any, .any, .any, .any, .any, .any, .any, .any, .any, .any, .any, .any, .any, .any, .any, .any, .any, .any, .any, .any, .any, .any, .any, .any, .any, .any, .any], [.ex false [.row 100 (.int .i64) x11] 3], 0⟩
def halterlaw29_AlarmOnce.l0_Q (a0 : (List Int)) : ((List Int) × (List (Int × Int))) ⊕ ((List Int)) → Exit → St → Prop
  | .inl t => fun e s => e = (.exit 0) ∧ s = ⟨[.any, .any, .any, .v (.one (.fs (.pair (.int .i64) (.int .i64)) t.2 false)), .v (.one (.os 0 0 0 1 100 none)), .any, .any, .any, .any, .any, .any, .any, .any, .any, .any, .any, .any, .any, .any, .any, .any, .any, .any, .any, .any, .any, .any, .any, .any, .any, .any, .any, .any, .any, .any, .any, .any, .any, .any, .any, .any, .any, .any, .any, .any, .any, .any, .any, .any, .any, .any, .any, .any, .any, .any, .any, .any, .any, .any, .any, .any, .any, .any, .any, .any, .any, .any, .any, .any, .any, .any, .any, .any, .any, .any, .any, .any, .any, .any, .any, .any, .any, .any, .any, .any, .any, .any, .any, .any, .any, .any, .any, .any, .any, .any, .any, .any, .any, .any, .any, .any, .any, .any, .any, .any, .any, .any, .any, .any, .any, .any, .any, .any, .any, .any, .any, .any, .any, .any, .any, .any, .any, .any, .any, .any, .any, .any, .any, .any, .any, .any, .any, .any], [.ex false [.row 100 (.int .i64) t.1] 3], 0⟩
  | .inr t => fun e s => e = .ret ∧ s = ⟨[.any, .any, .v (.one (.sc (.bool false))), .any, .any, .any, .any, .any, .any, .any, .any, .any, .any, .any, .any, .any, .any, .any, .any, .any, .any, .any, .any, .any, .any, .any, .any, .any, .any, .any, .any, .any, .any, .any, .any, .any, .any, .any, .any, .any, .any, .any, .any, .any, .any, .any, .any, .any, .any, .any, .any, .any, .any, .any, .any, .any, .any, .any, .any, .any, .any, .any, .any, .any, .any, .any, .any, .any, .any, .any, .any, .any, .any, .any, .any, .any, .any, .any, .any, .any, .any, .any, .any, .any, .any, .any, .any, .any, .any, .any, .any, .any, .any, .any, .any, .any, .any, .any, .any, .any, .any, .any, .any, .any, .any, .any, .any, .any, .any, .any, .any, .any, .any, .any, .any, .any, .any, .any, .any, .any, .any, .any, .any, .any, .any, .any, .any, .any, .any, .any, .any, .any, .any], [.ex false [.row 100 (.int .i64) t] 3], 0⟩
theorem halterlaw29_AlarmOnce.l0_ok (a0 : (List Int)) : ∀ (n : Nat) (x11 : List Int) (x12 : List (Int × Int)) (x13 : Int) (r : ((List Int) × (List (Int × Int))) ⊕ ((List Int))), halterlaw29_AlarmOnce.l0 a0 n x11 x12 x13 = some r → TripN cfg (cpath (Try.f3.body.getD .skip) [1, 1, 1, 1, 0, 1, 0, 0]) n (halterlaw29_AlarmOnce.l0_S a0 x11 x12 x13) (halterlaw29_AlarmOnce.l0_Q a0 r) := by
  intro n
  induction n with
  | zero => intro x11 x12 x13 r h; cases h
  | succ n ih =>
    intro x11 x12 x13 r h
    rw [halterlaw29_AlarmOnce.l0] at h
    refine TripN.of_run cfg_ok (k := (.br (.call true [] ((List (Int × Int)) × Int × (Option Int)) alarm_Set.R (fun t26 => (.br (.adj [] (.adj [.keep [2], .drop 1] .nil)) (aE 4 (.adj [.keep [0, 3, 4, 5], .drop 1] .nil))))) (.adj [.keep [3, 4], .drop 1] .nil))) (to_goal (q := (True) ∧ (True) ∧ (((decide (x13 < (((List.length a0) : Nat) : Int))) = true → ((20 : Int) ≠ 0) ∧ (True) ∧ (0 ≤ x13 ∧ x13 < (((List.length a0) : Nat) : Int)) ∧ (True) ∧ (True) ∧ (∃ t26 : (List (Int × Int)) × Int × (Option Int), (Fun cfg 6 [.one (.fs (.pair (.int .i64) (.int .i64)) x12 false), .one (.sc (.int .i64 (IntKind.wrap .i64 ((1 : Int) + (Int.tmod x13 (20 : Int)))))), .one (.sc (.int .i64 (0 : Int))), .one (.sc (.int .i64 (IntKind.wrap .i64 ((List.getD a0 (Int.toNat x13) (0 : Int))))))] [] (alarm_Set.R t26) [] ∧ True) ∧ (True) ∧ (((!(Option.isNone (z2 t26))) = true → (True ∧ (((True) ∧ (True) ∧ True) ∧ halterlaw29_AlarmOnce.l0_Q a0 r .ret ⟨[.any, .any, .v (.one (.sc (.bool false))), .any, .any, .any, .any, .any, .any, .any, .any, .any, .any, .any, .any, .any, .any, .any, .any, .any, .any, .any, .any, .any, .any, .any, .any, .any, .any, .any, .any, .any, .any, .any, .any, .any, .any, .any, .any, .any, .any, .any, .any, .any, .any, .any, .any, .any, .any, .any, .any, .any, .any, .any, .any, .any, .any, .any, .any, .any, .any, .any, .any, .any, .any, .any, .any, .any, .any, .any, .any, .any, .any, .any, .any, .any, .any, .any, .any, .any, .any, .any, .any, .any, .any, .any, .any, .any, .any, .any, .any, .any, .any, .any, .any, .any, .any, .any, .any, .any, .any, .any, .any, .any, .any, .any, .any, .any, .any, .any, .any, .any, .any, .any, .any, .any, .any, .any, .any, .any, .any, .any, .any, .any, .any, .any, .any, .any, .any, .any, .any, .any, .any], [.ex false [.row 100 (.int .i64) x11] 3], 0⟩))) ∧ ((!(Option.isNone (z2 t26))) = false → (True ∧ (True ∧ (True ∧ (0 ≤ x13 ∧ x13 < (((List.length a0) : Nat) : Int)) ∧ (True) ∧ (True) ∧ (0 ≤ (IntKind.wrap .i64 ((1 : Int) + (Int.tmod x13 (20 : Int)))) ∧ (IntKind.wrap .i64 ((1 : Int) + (Int.tmod x13 (20 : Int)))) < ((100 : Nat) : Int)) ∧ ((0 + (Int.toNat (IntKind.wrap .i64 ((1 : Int) + (Int.tmod x13 (20 : Int)))))) < 100) ∧ (True ∧ (True) ∧ (((True) ∧ (True) ∧ True) ∧ TripN cfg (cpath (Try.f3.body.getD .skip) [1, 1, 1, 1, 0, 1, 0, 0]) n (halterlaw29_AlarmOnce.l0_S a0 (List.set x11 (0 + (Int.toNat (IntKind.wrap .i64 ((1 : Int) + (Int.tmod x13 (20 : Int)))))) (IntKind.wrap .i64 ((List.getD a0 (Int.toNat x13) (0 : Int))))) t26.1 (IntKind.wrap .i64 (x13 + (1 : Int)))) (halterlaw29_AlarmOnce.l0_Q a0 r)))))))))) ∧ ((decide (x13 < (((List.length a0) : Nat) : Int))) = false → (((True) ∧ (True) ∧ True) ∧ halterlaw29_AlarmOnce.l0_Q a0 r (.exit 0) ⟨[.any, .any, .any, .v (.one (.fs (.pair (.int .i64) (.int .i64)) x12 false)), .v (.one (.os 0 0 0 1 100 none)), .any, .any, .any, .any, .any, .any, .any, .any, .any, .any, .any, .any, .any, .any, .any, .any, .any, .any, .any, .any, .any, .any, .any, .any, .any, .any, .any, .any, .any, .any, .any, .any, .any, .any, .any, .any, .any, .any, .any, .any, .any, .any, .any, .any, .any, .any, .any, .any, .any, .any, .any, .any, .any, .any, .any, .any, .any, .any, .any, .any, .any, .any, .any, .any, .any, .any, .any, .any, .any, .any, .any, .any, .any, .any, .any, .any, .any, .any, .any, .any, .any, .any, .any, .any, .any, .any, .any, .any, .any, .any, .any, .any, .any, .any, .any, .any, .any, .any, .any, .any, .any, .any, .any, .any, .any, .any, .any, .any, .any, .any, .any, .any, .any, .any, .any, .any, .any, .any, .any, .any, .any, .any, .any, .any, .any, .any, .any, .any], [.ex false [.row 100 (.int .i64) x11] 3], 0⟩)))) (by kernel_rfl) ?_)
    refine ⟨trivial, trivial, ?_⟩
    refine ⟨fun b25 => ?_, fun b25 => ?_⟩
    · rw [if_pos (of_decide_eq_true b25)] at h
      refine ⟨(by decide), ?_⟩
      refine ⟨trivial, ?_⟩
      obtain ⟨g31, h⟩ := of_guard h
      refine ⟨g31, ?_⟩
      refine ⟨trivial, trivial, ?_⟩
      obtain ⟨t26, ht26, h⟩ := of_bind h
      refine ⟨t26, ⟨alarm_Set.fun_ ht26, trivial⟩, ?_⟩
      refine ⟨trivial, ?_⟩
      refine ⟨fun b27 => ?_, fun b27 => ?_⟩
      · rw [if_pos (none_f (not_t b27))] at h
        refine ⟨trivial, ?_⟩
        obtain rfl := Option.some.inj h
        exact ⟨⟨trivial, trivial, trivial⟩, rfl, rfl⟩
      · rw [if_neg (not_not_intro (none_t (not_f b27)))] at h
        refine ⟨trivial, trivial, trivial, ?_⟩
        obtain ⟨g30, h⟩ := of_guard h
        refine ⟨g30, ?_⟩
        refine ⟨trivial, trivial, ?_⟩
        obtain ⟨g29, h⟩ := of_guard h
        refine ⟨g29, ?_⟩
        obtain ⟨g28, h⟩ := of_guard h
        refine ⟨g28, ?_⟩
        refine ⟨trivial, trivial, ?_⟩
        exact ⟨⟨trivial, trivial, trivial⟩, ih (List.set x11 (0 + (Int.toNat (IntKind.wrap .i64 ((1 : Int) + (Int.tmod x13 (20 : Int)))))) (IntKind.wrap .i64 ((List.getD a0 (Int.toNat x13) (0 : Int))))) t26.1 (IntKind.wrap .i64 (x13 + (1 : Int))) r h⟩
    · rw [if_neg (of_decide_eq_false b25)] at h
      obtain rfl := Option.some.inj h
      exact ⟨⟨trivial, trivial, trivial⟩, rfl, rfl⟩
def halterlaw29_AlarmOnce.j3 (x99 : Int) (t162 : (List Int) × (List (Int × Int)) × (Option Int)) (x187 : List Int) (x188 : Int) : Option ((Unit) ⊕ (Unit)) :=
  if 0 ≤ x188 ∧ x188 < (((List.length t162.1) : Nat) : Int) then
    if (List.getD t162.1 (Int.toNat x188) (0 : Int)) < (1 : Int) then
      some (.inr ())
    else
      if 0 ≤ x188 ∧ x188 < (((List.length t162.1) : Nat) : Int) then
        if (List.getD t162.1 (Int.toNat x188) (0 : Int)) > (99 : Int) then
          some (.inr ())
        else
          if 0 ≤ x188 ∧ x188 < (((List.length t162.1) : Nat) : Int) then
            if 0 ≤ (List.getD t162.1 (Int.toNat x188) (0 : Int)) ∧ (List.getD t162.1 (Int.toNat x188) (0 : Int)) < ((100 : Nat) : Int) then
              if (0 + (Int.toNat (List.getD t162.1 (Int.toNat x188) (0 : Int)))) < 100 then
                if ¬ (List.getD x187 (0 + (Int.toNat (List.getD t162.1 (Int.toNat x188) (0 : Int)))) (0 : Int)) = x99 then
                  some (.inr ())
                else
                  if x188 > (0 : Int) then
                    if 0 ≤ (IntKind.wrap .i64 (x188 - (1 : Int))) ∧ (IntKind.wrap .i64 (x188 - (1 : Int))) < (((List.length t162.1) : Nat) : Int) then
                      if 0 ≤ x188 ∧ x188 < (((List.length t162.1) : Nat) : Int) then
                        if (List.getD t162.1 (Int.toNat (IntKind.wrap .i64 (x188 - (1 : Int)))) (0 : Int)) ≥ (List.getD t162.1 (Int.toNat x188) (0 : Int)) then
                          some (.inr ())
                        else
                          if 0 ≤ x188 ∧ x188 < (((List.length t162.1) : Nat) : Int) then
                            if 0 ≤ (List.getD t162.1 (Int.toNat x188) (0 : Int)) ∧ (List.getD t162.1 (Int.toNat x188) (0 : Int)) < ((100 : Nat) : Int) then
                              if (0 + (Int.toNat (List.getD t162.1 (Int.toNat x188) (0 : Int)))) < 100 then
                                some (.inl ())
                              else none
                            else none
                          else none
                      else none
                    else none
                  else
                    if 0 ≤ x188 ∧ x188 < (((List.length t162.1) : Nat) : Int) then
                      if 0 ≤ (List.getD t162.1 (Int.toNat x188) (0 : Int)) ∧ (List.getD t162.1 (Int.toNat x188) (0 : Int)) < ((100 : Nat) : Int) then
                        if (0 + (Int.toNat (List.getD t162.1 (Int.toNat x188) (0 : Int)))) < 100 then
                          some (.inl ())
                        else none
                      else none
                    else none
              else none
            else none
          else none
      else none
  else none
def halterlaw29_AlarmOnce.j3_S (x99 : Int) (t162 : (List Int) × (List (Int × Int)) × (Option Int)) (x187 : List Int) (x188 : Int) : St := ⟨[.any, .any, .any, .v (.one (.fs (.pair (.int .i64) (.int .i64)) t162.2.1 false)), .v (.one (.os 0 0 0 1 100 none)), .any, .any, .any, .any, .any, .v (.one (.sc (.int .i64 x99))), .v (.one (.fs (.int .i64) t162.1 false)), .any, .any, .v (.one (.sc (.int .i64 x188))), .any, .any, .any, .any, .any, .any, .any, .any, .any, .any, .any, .any, .any, .any, .any, .any, .any, .any, .any, .any, .any, .any, .any, .any, .any, .any, .any, .any, .any, .any, .any, .any, .any, .any, .any, .any, .any, .any, .any, .any, .any, .any, .any, .any, .any, .any, .any, .any, .any, .any, .any, .any, .any, .any, .any, .any, .any, .any, .any, .any, .any, .any, .any, .any, .any, .any, .any, .any, .any, .any, .any, .any, .any, .any, .any, .any, .any, .any, .any, .any, .any, .any, .any, .any, .any, .any, .any, .any, .any, .any, .any, .any, .any, .any, .any, .any, .any, .any, .any, .any, .any, .any, .any, .any, .any, .any, .any, .any, .any, .any, .any, .any, .any, .any, .any, .any, .any, .any], [.ex false [.row 100 (.int .i64) x187] 3], 0⟩
def halterlaw29_AlarmOnce.j3_Q (x99 : Int) (t162 : (List Int) × (List (Int × Int)) × (Option Int)) (x187 : List Int) (x188 : Int) : (Unit) ⊕ (Unit) → Exit → St → Prop
  | .inl t => fun e s => e = .normal ∧ s = ⟨[.any, .any, .any, .v (.one (.fs (.pair (.int .i64) (.int .i64)) t162.2.1 false)), .v (.one (.os 0 0 0 1 100 none)), .any, .any, .any, .any, .any, .v (.one (.sc (.int .i64 x99))), .v (.one (.fs (.int .i64) t162.1 false)), .any, .any, .v (.one (.sc (.int .i64 x188))), .any, .any, .any, .any, .any, .any, .any, .any, .any, .any, .any, .any, .any, .any, .any, .any, .any, .any, .any, .any, .any, .any, .any, .any, .any, .any, .any, .any, .any, .any, .any, .any, .any, .any, .any, .any, .any, .any, .any, .any, .any, .any, .any, .any, .any, .any, .any, .any, .any, .any, .any, .any, .any, .any, .any, .any, .any, .any, .any, .any, .any, .any, .any, .any, .any, .any, .any, .any, .any, .any, .any, .any, .any, .any, .any, .any, .any, .any, .any, .any, .any, .any, .any, .any, .any, .any, .any, .any, .any, .any, .any, .any, .any, .any, .any, .any, .any, .any, .any, .any, .any, .any, .any, .any, .any, .any, .any, .any, .any, .any, .any, .any, .any, .any, .any, .any, .any, .any], [.ex false [.row 100 (.int .i64) (List.set x187 (0 + (Int.toNat (List.getD t162.1 (Int.toNat x188) (0 : Int)))) (0 : Int))] 3], 0⟩
  | .inr t => fun e s => e = .ret ∧ s = ⟨[.any, .any, .v (.one (.sc (.bool false))), .any, .any, .any, .any, .any, .any, .any, .any, .any, .any, .any, .any, .any, .any, .any, .any, .any, .any, .any, .any, .any, .any, .any, .any, .any, .any, .any, .any, .any, .any, .any, .any, .any, .any, .any, .any, .any, .any, .any, .any, .any, .any, .any, .any, .any, .any, .any, .any, .any, .any, .any, .any, .any, .any, .any, .any, .any, .any, .any, .any, .any, .any, .any, .any, .any, .any, .any, .any, .any, .any, .any, .any, .any, .any, .any, .any, .any, .any, .any, .any, .any, .any, .any, .any, .any, .any, .any, .any, .any, .any, .any, .any, .any, .any, .any, .any, .any, .any, .any, .any, .any, .any, .any, .any, .any, .any, .any, .any, .any, .any, .any, .any, .any, .any, .any, .any, .any, .any, .any, .any, .any, .any, .any, .any, .any, .any, .any, .any, .any, .any], [.ex false [.row 100 (.int .i64) x187] 3], 0⟩
theorem halterlaw29_AlarmOnce.j3_ok (x99 : Int) (t162 : (List Int) × (List (Int × Int)) × (Option Int)) (x187 : List Int) (x188 : Int) (r : (Unit) ⊕ (Unit)) (h : halterlaw29_AlarmOnce.j3 x99 t162 x187 x188 = some r) : Trip cfg (cpath (Try.f3.body.getD .skip) [1, 1, 1, 1, 1, 0, 1, 0, 0, 1, 0, 0, 1, 1, 1, 1, 0, 0, 1, 0]) (halterlaw29_AlarmOnce.j3_S x99 t162 x187 x188) (halterlaw29_AlarmOnce.j3_Q x99 t162 x187 x188 r) := by
  unfold halterlaw29_AlarmOnce.j3 at h
  refine Trip.of_run cfg_ok (k := (.emb (decide ((List.getD t162.1 (Int.toNat x188) (0 : Int)) < (1 : Int))) (.dr [(0, dN), (1, dN), (2, dN), (3, dN), (4, dN), (5, dN), (6, dT), (7, dT), (8, dT), (9, dT), (10, dT), (11, d1), (12, dN), (13, dT), (14, dT), (15, dT), (16, dT), (20, dT), (17, dT), (18, dT), (19, dT), (21, dT), (22, d1), (23, dN), (24, dT), (25, dT), (26, dT), (27, dT), (28, dT), (29, dT), (30, dT), (32, dT), (33, dT), (34, dT), (31, dT), (35, dT), (36, dT), (37, dT), (38, d1)] (.one true (.adj [] (.adj [.keep [2], .drop 1] .nil)))) (.emb (decide ((List.getD t162.1 (Int.toNat x188) (0 : Int)) > (99 : Int))) (.dr [(0, dN), (1, dN), (2, dN), (3, dN), (4, dN), (5, dN), (6, dF), (7, dF), (8, dF), (9, dF), (10, dF), (11, d0), (12, dN), (13, dT), (14, dT), (15, dT), (16, dT), (20, dT), (17, dT), (18, dT), (19, dT), (21, dT), (22, d1), (23, dN), (24, dT), (25, dT), (26, dT), (27, dT), (28, dT), (29, dT), (30, dT), (32, dT), (33, dT), (34, dT), (31, dT), (35, dT), (36, dT), (37, dT), (38, d1)] (.one true (.adj [] (.adj [.keep [2], .drop 1] .nil)))) (.emb ((List.getD x187 (0 + (Int.toNat (List.getD t162.1 (Int.toNat x188) (0 : Int)))) (0 : Int)) != x99) (.dr [(0, dN), (1, dN), (2, dN), (3, dN), (4, dN), (5, dN), (6, dF), (7, dF), (8, dF), (9, dF), (10, dF), (11, d0), (12, dN), (13, dF), (14, dF), (15, dF), (16, dF), (20, dF), (17, dF), (18, dF), (19, dF), (21, dF), (22, d0), (23, dN), (24, dT), (25, dT), (26, dT), (27, dT), (28, dT), (29, dT), (30, dT), (32, dT), (33, dT), (34, dT), (31, dT), (35, dT), (36, dT), (37, dT), (38, d1)] (.one true (.adj [] (.adj [.keep [2], .drop 1] .nil)))) (.emb (decide (x188 > (0 : Int))) (.dr [(0, dN), (1, dN), (2, dN), (3, dN), (4, dN), (5, dN), (6, dF), (7, dF), (8, dF), (9, dF), (10, dF), (11, d0), (12, dN), (13, dF), (14, dF), (15, dF), (16, dF), (20, dF), (17, dF), (18, dF), (19, dF), (21, dF), (22, d0), (23, dN), (24, dF), (25, dF), (26, dF), (27, dT), (28, dT), (29, dT), (30, dT), (32, dT), (33, dT), (34, dT), (31, dT), (35, dT), (36, dT), (37, ⟨(some false), .b true, false⟩), (38, d0)] (.br (.adj [] (.adj [.keep [2], .drop 1] .nil)) (aE 2 (.adj [.keep [3, 4, 10, 11, 14], .drop 1] .nil)))) (.dr [(0, dN), (1, dN), (2, dN), (3, dN), (4, dN), (5, dN), (6, dF), (7, dF), (8, dF), (9, dF), (10, dF), (11, d0), (12, dN), (13, dF), (14, dF), (15, dF), (16, dF), (20, dF), (17, dF), (18, dF), (19, dF), (21, dF), (22, d0), (23, dN), (24, dF), (25, dF), (26, dF), (27, dF), (28, dF), (29, dF), (30, dF), (32, dF), (33, dF), (34, dF), (31, dF), (35, dF), (36, dF), (37, ⟨(some false), .b false, false⟩), (38, d0)] (.one false (aE 2 (.adj [.keep [3, 4, 10, 11, 14], .drop 1] .nil))))))))) (to_goal (q := (((decide ((List.getD t162.1 (Int.toNat x188) (0 : Int)) < (1 : Int))) = true → (0 ≤ x188 ∧ x188 < (((List.length t162.1) : Nat) : Int)) ∧ (True) ∧ (True) ∧ ((decide ((List.getD t162.1 (Int.toNat x188) (0 : Int)) < (1 : Int))) = true) ∧ ((decide ((List.getD t162.1 (Int.toNat x188) (0 : Int)) < (1 : Int))) = true) ∧ ((decide ((List.getD t162.1 (Int.toNat x188) (0 : Int)) < (1 : Int))) = true) ∧ ((decide ((List.getD t162.1 (Int.toNat x188) (0 : Int)) < (1 : Int))) = true) ∧ ((decide ((List.getD t162.1 (Int.toNat x188) (0 : Int)) < (1 : Int))) = true) ∧ ((decide ((List.getD t162.1 (Int.toNat x188) (0 : Int)) < (1 : Int))) = true) ∧ (true = true) ∧ (true = true) ∧ (true = true) ∧ (true = true) ∧ (true = true) ∧ (true = true) ∧ (true = true) ∧ (true = true) ∧ (true = true) ∧ (true = true) ∧ (true = true) ∧ (true = true) ∧ (true = true) ∧ (True) ∧ (True) ∧ (True) ∧ (True) ∧ (True) ∧ (True) ∧ (True) ∧ (True) ∧ (True) ∧ (True) ∧ (true = true) ∧ (true = true) ∧ (true = true ∧ (True ∧ (((True) ∧ (True) ∧ True) ∧ halterlaw29_AlarmOnce.j3_Q x99 t162 x187 x188 r .ret ⟨[.any, .any, .v (.one (.sc (.bool false))), .any, .any, .any, .any, .any, .any, .any, .any, .any, .any, .any, .any, .any, .any, .any, .any, .any, .any, .any, .any, .any, .any, .any, .any, .any, .any, .any, .any, .any, .any, .any, .any, .any, .any, .any, .any, .any, .any, .any, .any, .any, .any, .any, .any, .any, .any, .any, .any, .any, .any, .any, .any, .any, .any, .any, .any, .any, .any, .any, .any, .any, .any, .any, .any, .any, .any, .any, .any, .any, .any, .any, .any, .any, .any, .any, .any, .any, .any, .any, .any, .any, .any, .any, .any, .any, .any, .any, .any, .any, .any, .any, .any, .any, .any, .any, .any, .any, .any, .any, .any, .any, .any, .any, .any, .any, .any, .any, .any, .any, .any, .any, .any, .any, .any, .any, .any, .any, .any, .any, .any, .any, .any, .any, .any, .any, .any, .any, .any, .any, .any], [.ex false [.row 100 (.int .i64) x187] 3], 0⟩)))) ∧ ((decide ((List.getD t162.1 (Int.toNat x188) (0 : Int)) < (1 : Int))) = false → (((decide ((List.getD t162.1 (Int.toNat x188) (0 : Int)) > (99 : Int))) = true → (0 ≤ x188 ∧ x188 < (((List.length t162.1) : Nat) : Int)) ∧ (True) ∧ (True) ∧ ((decide ((List.getD t162.1 (Int.toNat x188) (0 : Int)) < (1 : Int))) = false ∧ True) ∧ ((decide ((List.getD t162.1 (Int.toNat x188) (0 : Int)) < (1 : Int))) = false ∧ True) ∧ ((decide ((List.getD t162.1 (Int.toNat x188) (0 : Int)) < (1 : Int))) = false ∧ 0 ≤ x188 ∧ x188 < (((List.length t162.1) : Nat) : Int)) ∧ ((decide ((List.getD t162.1 (Int.toNat x188) (0 : Int)) < (1 : Int))) = false ∧ True) ∧ ((decide ((List.getD t162.1 (Int.toNat x188) (0 : Int)) < (1 : Int))) = false ∧ True) ∧ ((decide ((List.getD t162.1 (Int.toNat x188) (0 : Int)) < (1 : Int))) = false) ∧ ((decide ((List.getD t162.1 (Int.toNat x188) (0 : Int)) > (99 : Int))) = true) ∧ ((decide ((List.getD t162.1 (Int.toNat x188) (0 : Int)) > (99 : Int))) = true) ∧ ((decide ((List.getD t162.1 (Int.toNat x188) (0 : Int)) > (99 : Int))) = true) ∧ ((decide ((List.getD t162.1 (Int.toNat x188) (0 : Int)) > (99 : Int))) = true) ∧ ((decide ((List.getD t162.1 (Int.toNat x188) (0 : Int)) > (99 : Int))) = true) ∧ ((decide ((List.getD t162.1 (Int.toNat x188) (0 : Int)) > (99 : Int))) = true) ∧ ((decide ((List.getD t162.1 (Int.toNat x188) (0 : Int)) > (99 : Int))) = true) ∧ ((decide ((List.getD t162.1 (Int.toNat x188) (0 : Int)) > (99 : Int))) = true) ∧ ((decide ((List.getD t162.1 (Int.toNat x188) (0 : Int)) > (99 : Int))) = true) ∧ ((decide ((List.getD t162.1 (Int.toNat x188) (0 : Int)) > (99 : Int))) = true) ∧ (true = true) ∧ (true = true) ∧ (true = true) ∧ (True) ∧ (True) ∧ (True) ∧ (True) ∧ (True) ∧ (True) ∧ (True) ∧ (True) ∧ (True) ∧ (True) ∧ (true = true) ∧ (true = true) ∧ (true = true ∧ (True ∧ (((True) ∧ (True) ∧ True) ∧ halterlaw29_AlarmOnce.j3_Q x99 t162 x187 x188 r .ret ⟨[.any, .any, .v (.one (.sc (.bool false))), .any, .any, .any, .any, .any, .any, .any, .any, .any, .any, .any, .any, .any, .any, .any, .any, .any, .any, .any, .any, .any, .any, .any, .any, .any, .any, .any, .any, .any, .any, .any, .any, .any, .any, .any, .any, .any, .any, .any, .any, .any, .any, .any, .any, .any, .any, .any, .any, .any, .any, .any, .any, .any, .any, .any, .any, .any, .any, .any, .any, .any, .any, .any, .any, .any, .any, .any, .any, .any, .any, .any, .any, .any, .any, .any, .any, .any, .any, .any, .any, .any, .any, .any, .any, .any, .any, .any, .any, .any, .any, .any, .any, .any, .any, .any, .any, .any, .any, .any, .any, .any, .any, .any, .any, .any, .any, .any, .any, .any, .any, .any, .any, .any, .any, .any, .any, .any, .any, .any, .any, .any, .any, .any, .any, .any, .any, .any, .any, .any, .any], [.ex false [.row 100 (.int .i64) x187] 3], 0⟩)))) ∧ ((decide ((List.getD t162.1 (Int.toNat x188) (0 : Int)) > (99 : Int))) = false → ((((List.getD x187 (0 + (Int.toNat (List.getD t162.1 (Int.toNat x188) (0 : Int)))) (0 : Int)) != x99) = true → (0 ≤ x188 ∧ x188 < (((List.length t162.1) : Nat) : Int)) ∧ (True) ∧ (True) ∧ ((decide ((List.getD t162.1 (Int.toNat x188) (0 : Int)) < (1 : Int))) = false ∧ True) ∧ ((decide ((List.getD t162.1 (Int.toNat x188) (0 : Int)) < (1 : Int))) = false ∧ True) ∧ ((decide ((List.getD t162.1 (Int.toNat x188) (0 : Int)) < (1 : Int))) = false ∧ 0 ≤ x188 ∧ x188 < (((List.length t162.1) : Nat) : Int)) ∧ ((decide ((List.getD t162.1 (Int.toNat x188) (0 : Int)) < (1 : Int))) = false ∧ True) ∧ ((decide ((List.getD t162.1 (Int.toNat x188) (0 : Int)) < (1 : Int))) = false ∧ True) ∧ ((decide ((List.getD t162.1 (Int.toNat x188) (0 : Int)) < (1 : Int))) = false) ∧ ((decide ((List.getD t162.1 (Int.toNat x188) (0 : Int)) > (99 : Int))) = false ∧ True) ∧ ((decide ((List.getD t162.1 (Int.toNat x188) (0 : Int)) > (99 : Int))) = false ∧ True) ∧ ((decide ((List.getD t162.1 (Int.toNat x188) (0 : Int)) > (99 : Int))) = false ∧ True) ∧ ((decide ((List.getD t162.1 (Int.toNat x188) (0 : Int)) > (99 : Int))) = false ∧ 0 ≤ x188 ∧ x188 < (((List.length t162.1) : Nat) : Int)) ∧ ((decide ((List.getD t162.1 (Int.toNat x188) (0 : Int)) > (99 : Int))) = false ∧ True) ∧ ((decide ((List.getD t162.1 (Int.toNat x188) (0 : Int)) > (99 : Int))) = false ∧ True) ∧ ((decide ((List.getD t162.1 (Int.toNat x188) (0 : Int)) > (99 : Int))) = false ∧ 0 ≤ (List.getD t162.1 (Int.toNat x188) (0 : Int)) ∧ (List.getD t162.1 (Int.toNat x188) (0 : Int)) < ((100 : Nat) : Int)) ∧ ((decide ((List.getD t162.1 (Int.toNat x188) (0 : Int)) > (99 : Int))) = false ∧ (0 + (Int.toNat (List.getD t162.1 (Int.toNat x188) (0 : Int)))) < 100) ∧ ((decide ((List.getD t162.1 (Int.toNat x188) (0 : Int)) > (99 : Int))) = false ∧ True) ∧ ((decide ((List.getD t162.1 (Int.toNat x188) (0 : Int)) > (99 : Int))) = false) ∧ (((List.getD x187 (0 + (Int.toNat (List.getD t162.1 (Int.toNat x188) (0 : Int)))) (0 : Int)) != x99) = true) ∧ (((List.getD x187 (0 + (Int.toNat (List.getD t162.1 (Int.toNat x188) (0 : Int)))) (0 : Int)) != x99) = true) ∧ (((List.getD x187 (0 + (Int.toNat (List.getD t162.1 (Int.toNat x188) (0 : Int)))) (0 : Int)) != x99) = true) ∧ (True) ∧ (True) ∧ (True) ∧ (True) ∧ (True) ∧ (True) ∧ (True) ∧ (True) ∧ (True) ∧ (True) ∧ (((List.getD x187 (0 + (Int.toNat (List.getD t162.1 (Int.toNat x188) (0 : Int)))) (0 : Int)) != x99) = true) ∧ (((List.getD x187 (0 + (Int.toNat (List.getD t162.1 (Int.toNat x188) (0 : Int)))) (0 : Int)) != x99) = true) ∧ (true = true ∧ (True ∧ (((True) ∧ (True) ∧ True) ∧ halterlaw29_AlarmOnce.j3_Q x99 t162 x187 x188 r .ret ⟨[.any, .any, .v (.one (.sc (.bool false))), .any, .any, .any, .any, .any, .any, .any, .any, .any, .any, .any, .any, .any, .any, .any, .any, .any, .any, .any, .any, .any, .any, .any, .any, .any, .any, .any, .any, .any, .any, .any, .any, .any, .any, .any, .any, .any, .any, .any, .any, .any, .any, .any, .any, .any, .any, .any, .any, .any, .any, .any, .any, .any, .any, .any, .any, .any, .any, .any, .any, .any, .any, .any, .any, .any, .any, .any, .any, .any, .any, .any, .any, .any, .any, .any, .any, .any, .any, .any, .any, .any, .any, .any, .any, .any, .any, .any, .any, .any, .any, .any, .any, .any, .any, .any, .any, .any, .any, .any, .any, .any, .any, .any, .any, .any, .any, .any, .any, .any, .any, .any, .any, .any, .any, .any, .any, .any, .any, .any, .any, .any, .any, .any, .any, .any, .any, .any, .any, .any, .any], [.ex false [.row 100 (.int .i64) x187] 3], 0⟩)))) ∧ (((List.getD x187 (0 + (Int.toNat (List.getD t162.1 (Int.toNat x188) (0 : Int)))) (0 : Int)) != x99) = false → (((decide (x188 > (0 : Int))) = true → (0 ≤ x188 ∧ x188 < (((List.length t162.1) : Nat) : Int)) ∧ (True) ∧ (True) ∧ ((decide ((List.getD t162.1 (Int.toNat x188) (0 : Int)) < (1 : Int))) = false ∧ True) ∧ ((decide ((List.getD t162.1 (Int.toNat x188) (0 : Int)) < (1 : Int))) = false ∧ True) ∧ ((decide ((List.getD t162.1 (Int.toNat x188) (0 : Int)) < (1 : Int))) = false ∧ 0 ≤ x188 ∧ x188 < (((List.length t162.1) : Nat) : Int)) ∧ ((decide ((List.getD t162.1 (Int.toNat x188) (0 : Int)) < (1 : Int))) = false ∧ True) ∧ ((decide ((List.getD t162.1 (Int.toNat x188) (0 : Int)) < (1 : Int))) = false ∧ True) ∧ ((decide ((List.getD t162.1 (Int.toNat x188) (0 : Int)) < (1 : Int))) = false) ∧ ((decide ((List.getD t162.1 (Int.toNat x188) (0 : Int)) > (99 : Int))) = false ∧ True) ∧ ((decide ((List.getD t162.1 (Int.toNat x188) (0 : Int)) > (99 : Int))) = false ∧ True) ∧ ((decide ((List.getD t162.1 (Int.toNat x188) (0 : Int)) > (99 : Int))) = false ∧ True) ∧ ((decide ((List.getD t162.1 (Int.toNat x188) (0 : Int)) > (99 : Int))) = false ∧ 0 ≤ x188 ∧ x188 < (((List.length t162.1) : Nat) : Int)) ∧ ((decide ((List.getD t162.1 (Int.toNat x188) (0 : Int)) > (99 : Int))) = false ∧ True) ∧ ((decide ((List.getD t162.1 (Int.toNat x188) (0 : Int)) > (99 : Int))) = false ∧ True) ∧ ((decide ((List.getD t162.1 (Int.toNat x188) (0 : Int)) > (99 : Int))) = false ∧ 0 ≤ (List.getD t162.1 (Int.toNat x188) (0 : Int)) ∧ (List.getD t162.1 (Int.toNat x188) (0 : Int)) < ((100 : Nat) : Int)) ∧ ((decide ((List.getD t162.1 (Int.toNat x188) (0 : Int)) > (99 : Int))) = false ∧ (0 + (Int.toNat (List.getD t162.1 (Int.toNat x188) (0 : Int)))) < 100) ∧ ((decide ((List.getD t162.1 (Int.toNat x188) (0 : Int)) > (99 : Int))) = false ∧ True) ∧ ((decide ((List.getD t162.1 (Int.toNat x188) (0 : Int)) > (99 : Int))) = false) ∧ (((List.getD x187 (0 + (Int.toNat (List.getD t162.1 (Int.toNat x188) (0 : Int)))) (0 : Int)) != x99) = false ∧ True) ∧ (((List.getD x187 (0 + (Int.toNat (List.getD t162.1 (Int.toNat x188) (0 : Int)))) (0 : Int)) != x99) = false ∧ True) ∧ (((List.getD x187 (0 + (Int.toNat (List.getD t162.1 (Int.toNat x188) (0 : Int)))) (0 : Int)) != x99) = false ∧ True) ∧ ((decide (x188 > (0 : Int))) = true ∧ True) ∧ ((decide (x188 > (0 : Int))) = true ∧ True) ∧ ((decide (x188 > (0 : Int))) = true ∧ True) ∧ ((decide (x188 > (0 : Int))) = true ∧ 0 ≤ (IntKind.wrap .i64 (x188 - (1 : Int))) ∧ (IntKind.wrap .i64 (x188 - (1 : Int))) < (((List.length t162.1) : Nat) : Int)) ∧ ((decide (x188 > (0 : Int))) = true ∧ True) ∧ ((decide (x188 > (0 : Int))) = true ∧ True) ∧ ((decide (x188 > (0 : Int))) = true ∧ 0 ≤ x188 ∧ x188 < (((List.length t162.1) : Nat) : Int)) ∧ ((decide (x188 > (0 : Int))) = true ∧ True) ∧ ((decide (x188 > (0 : Int))) = true ∧ True) ∧ ((decide (x188 > (0 : Int))) = true ∧ True) ∧ (((List.getD x187 (0 + (Int.toNat (List.getD t162.1 (Int.toNat x188) (0 : Int)))) (0 : Int)) != x99) = false ∧ (decide (x188 > (0 : Int))) = true) ∧ (((List.getD x187 (0 + (Int.toNat (List.getD t162.1 (Int.toNat x188) (0 : Int)))) (0 : Int)) != x99) = false) ∧ (((decide ((List.getD t162.1 (Int.toNat (IntKind.wrap .i64 (x188 - (1 : Int)))) (0 : Int)) ≥ (List.getD t162.1 (Int.toNat x188) (0 : Int)))) = true → (True ∧ (((True) ∧ (True) ∧ True) ∧ halterlaw29_AlarmOnce.j3_Q x99 t162 x187 x188 r .ret ⟨[.any, .any, .v (.one (.sc (.bool false))), .any, .any, .any, .any, .any, .any, .any, .any, .any, .any, .any, .any, .any, .any, .any, .any, .any, .any, .any, .any, .any, .any, .any, .any, .any, .any, .any, .any, .any, .any, .any, .any, .any, .any, .any, .any, .any, .any, .any, .any, .any, .any, .any, .any, .any, .any, .any, .any, .any, .any, .any, .any, .any, .any, .any, .any, .any, .any, .any, .any, .any, .any, .any, .any, .any, .any, .any, .any, .any, .any, .any, .any, .any, .any, .any, .any, .any, .any, .any, .any, .any, .any, .any, .any, .any, .any, .any, .any, .any, .any, .any, .any, .any, .any, .any, .any, .any, .any, .any, .any, .any, .any, .any, .any, .any, .any, .any, .any, .any, .any, .any, .any, .any, .any, .any, .any, .any, .any, .any, .any, .any, .any, .any, .any, .any, .any, .any, .any, .any, .any], [.ex false [.row 100 (.int .i64) x187] 3], 0⟩))) ∧ ((decide ((List.getD t162.1 (Int.toNat (IntKind.wrap .i64 (x188 - (1 : Int)))) (0 : Int)) ≥ (List.getD t162.1 (Int.toNat x188) (0 : Int)))) = false → (True ∧ (True ∧ (0 ≤ x188 ∧ x188 < (((List.length t162.1) : Nat) : Int)) ∧ (True) ∧ (0 ≤ (List.getD t162.1 (Int.toNat x188) (0 : Int)) ∧ (List.getD t162.1 (Int.toNat x188) (0 : Int)) < ((100 : Nat) : Int)) ∧ ((0 + (Int.toNat (List.getD t162.1 (Int.toNat x188) (0 : Int)))) < 100) ∧ (((True) ∧ (True) ∧ True) ∧ halterlaw29_AlarmOnce.j3_Q x99 t162 x187 x188 r .normal ⟨[.any, .any, .any, .v (.one (.fs (.pair (.int .i64) (.int .i64)) t162.2.1 false)), .v (.one (.os 0 0 0 1 100 none)), .any, .any, .any, .any, .any, .v (.one (.sc (.int .i64 x99))), .v (.one (.fs (.int .i64) t162.1 false)), .any, .any, .v (.one (.sc (.int .i64 x188))), .any, .any, .any, .any, .any, .any, .any, .any, .any, .any, .any, .any, .any, .any, .any, .any, .any, .any, .any, .any, .any, .any, .any, .any, .any, .any, .any, .any, .any, .any, .any, .any, .any, .any, .any, .any, .any, .any, .any, .any, .any, .any, .any, .any, .any, .any, .any, .any, .any, .any, .any, .any, .any, .any, .any, .any, .any, .any, .any, .any, .any, .any, .any, .any, .any, .any, .any, .any, .any, .any, .any, .any, .any, .any, .any, .any, .any, .any, .any, .any, .any, .any, .any, .any, .any, .any, .any, .any, .any, .any, .any, .any, .any, .any, .any, .any, .any, .any, .any, .any, .any, .any, .any, .any, .any, .any, .any, .any, .any, .any, .any, .any, .any, .any, .any, .any, .any, .any], [.ex false [.row 100 (.int .i64) (List.set x187 (0 + (Int.toNat (List.getD t162.1 (Int.toNat x188) (0 : Int)))) (0 : Int))] 3], 0⟩)))))) ∧ ((decide (x188 > (0 : Int))) = false → (0 ≤ x188 ∧ x188 < (((List.length t162.1) : Nat) : Int)) ∧ (True) ∧ (True) ∧ ((decide ((List.getD t162.1 (Int.toNat x188) (0 : Int)) < (1 : Int))) = false ∧ True) ∧ ((decide ((List.getD t162.1 (Int.toNat x188) (0 : Int)) < (1 : Int))) = false ∧ True) ∧ ((decide ((List.getD t162.1 (Int.toNat x188) (0 : Int)) < (1 : Int))) = false ∧ 0 ≤ x188 ∧ x188 < (((List.length t162.1) : Nat) : Int)) ∧ ((decide ((List.getD t162.1 (Int.toNat x188) (0 : Int)) < (1 : Int))) = false ∧ True) ∧ ((decide ((List.getD t162.1 (Int.toNat x188) (0 : Int)) < (1 : Int))) = false ∧ True) ∧ ((decide ((List.getD t162.1 (Int.toNat x188) (0 : Int)) < (1 : Int))) = false) ∧ ((decide ((List.getD t162.1 (Int.toNat x188) (0 : Int)) > (99 : Int))) = false ∧ True) ∧ ((decide ((List.getD t162.1 (Int.toNat x188) (0 : Int)) > (99 : Int))) = false ∧ True) ∧ ((decide ((List.getD t162.1 (Int.toNat x188) (0 : Int)) > (99 : Int))) = false ∧ True) ∧ ((decide ((List.getD t162.1 (Int.toNat x188) (0 : Int)) > (99 : Int))) = false ∧ 0 ≤ x188 ∧ x188 < (((List.length t162.1) : Nat) : Int)) ∧ ((decide ((List.getD t162.1 (Int.toNat x188) (0 : Int)) > (99 : Int))) = false ∧ True) ∧ ((decide ((List.getD t162.1 (Int.toNat x188) (0 : Int)) > (99 : Int))) = false ∧ True) ∧ ((decide ((List.getD t162.1 (Int.toNat x188) (0 : Int)) > (99 : Int))) = false ∧ 0 ≤ (List.getD t162.1 (Int.toNat x188) (0 : Int)) ∧ (List.getD t162.1 (Int.toNat x188) (0 : Int)) < ((100 : Nat) : Int)) ∧ ((decide ((List.getD t162.1 (Int.toNat x188) (0 : Int)) > (99 : Int))) = false ∧ (0 + (Int.toNat (List.getD t162.1 (Int.toNat x188) (0 : Int)))) < 100) ∧ ((decide ((List.getD t162.1 (Int.toNat x188) (0 : Int)) > (99 : Int))) = false ∧ True) ∧ ((decide ((List.getD t162.1 (Int.toNat x188) (0 : Int)) > (99 : Int))) = false) ∧ (((List.getD x187 (0 + (Int.toNat (List.getD t162.1 (Int.toNat x188) (0 : Int)))) (0 : Int)) != x99) = false ∧ True) ∧ (((List.getD x187 (0 + (Int.toNat (List.getD t162.1 (Int.toNat x188) (0 : Int)))) (0 : Int)) != x99) = false ∧ True) ∧ (((List.getD x187 (0 + (Int.toNat (List.getD t162.1 (Int.toNat x188) (0 : Int)))) (0 : Int)) != x99) = false ∧ True) ∧ ((decide (x188 > (0 : Int))) = false) ∧ ((decide (x188 > (0 : Int))) = false) ∧ ((decide (x188 > (0 : Int))) = false) ∧ ((decide (x188 > (0 : Int))) = false) ∧ ((decide (x188 > (0 : Int))) = false) ∧ ((decide (x188 > (0 : Int))) = false) ∧ ((decide (x188 > (0 : Int))) = false) ∧ ((decide (x188 > (0 : Int))) = false) ∧ ((decide (x188 > (0 : Int))) = false) ∧ ((decide (x188 > (0 : Int))) = false) ∧ (((List.getD x187 (0 + (Int.toNat (List.getD t162.1 (Int.toNat x188) (0 : Int)))) (0 : Int)) != x99) = false ∧ (decide (x188 > (0 : Int))) = false) ∧ (((List.getD x187 (0 + (Int.toNat (List.getD t162.1 (Int.toNat x188) (0 : Int)))) (0 : Int)) != x99) = false) ∧ (false = false ∧ (True ∧ (True ∧ (0 ≤ x188 ∧ x188 < (((List.length t162.1) : Nat) : Int)) ∧ (True) ∧ (0 ≤ (List.getD t162.1 (Int.toNat x188) (0 : Int)) ∧ (List.getD t162.1 (Int.toNat x188) (0 : Int)) < ((100 : Nat) : Int)) ∧ ((0 + (Int.toNat (List.getD t162.1 (Int.toNat x188) (0 : Int)))) < 100) ∧ (((True) ∧ (True) ∧ True) ∧ halterlaw29_AlarmOnce.j3_Q x99 t162 x187 x188 r .normal ⟨[.any, .any, .any, .v (.one (.fs (.pair (.int .i64) (.int .i64)) t162.2.1 false)), .v (.one (.os 0 0 0 1 100 none)), .any, .any, .any, .any, .any, .v (.one (.sc (.int .i64 x99))), .v (.one (.fs (.int .i64) t162.1 false)), .any, .any, .v (.one (.sc (.int .i64 x188))), .any, .any, .any, .any, .any, .any, .any, .any, .any, .any, .any, .any, .any, .any, .any, .any, .any, .any, .any, .any, .any, .any, .any, .any, .any, .any, .any, .any, .any, .any, .any, .any, .any, .any, .any, .any, .any, .any, .any, .any, .any, .any, .any, .any, .any, .any, .any, .any, .any, .any, .any, .any, .any, .any, .any, .any, .any, .any, .any, .any, .any, .any, .any, .any, .any, .any, .any, .any, .any, .any, .any, .any, .any, .any, .any, .any, .any, .any, .any, .any, .any, .any, .any, .any, .any, .any, .any, .any, .any, .any, .any, .any, .any, .any, .any, .any, .any, .any, .any, .any, .any, .any, .any, .any, .any, .any, .any, .any, .any, .any, .any, .any, .any, .any, .any, .any, .any, .any], [.ex false [.row 100 (.int .i64) (List.set x187 (0 + (Int.toNat (List.getD t162.1 (Int.toNat x188) (0 : Int)))) (0 : Int))] 3], 0⟩))))))))))))) (by kernel_rfl) ?_)
  obtain ⟨g234, h⟩ := of_guard h
  refine ⟨fun b235 => ?_, fun b235 => ?_⟩
  · rw [if_pos (of_decide_eq_true b235)] at h
    refine ⟨g234, trivial, trivial, b235, b235, b235, b235, b235, b235, rfl, rfl, rfl, rfl, rfl, rfl, rfl, rfl, rfl, rfl, rfl, rfl, rfl, trivial, trivial, trivial, trivial, trivial, trivial, trivial, trivial, trivial, trivial, rfl, rfl, ?_⟩
    refine ⟨rfl, trivial, ?_⟩
    obtain rfl := Option.some.inj h
    exact ⟨⟨trivial, trivial, trivial⟩, rfl, rfl⟩
  · rw [if_neg (of_decide_eq_false b235)] at h
    obtain ⟨g236, h⟩ := of_guard h
    refine ⟨fun b237 => ?_, fun b237 => ?_⟩
    · rw [if_pos (of_decide_eq_true b237)] at h
      refine ⟨g234, trivial, trivial, ⟨b235, trivial⟩, ⟨b235, trivial⟩, ⟨b235, g236⟩, ⟨b235, trivial⟩, ⟨b235, trivial⟩, b235, b237, b237, b237, b237, b237, b237, b237, b237, b237, b237, rfl, rfl, rfl, trivial, trivial, trivial, trivial, trivial, trivial, trivial, trivial, trivial, trivial, rfl, rfl, ?_⟩
      refine ⟨rfl, trivial, ?_⟩
      obtain rfl := Option.some.inj h
      exact ⟨⟨trivial, trivial, trivial⟩, rfl, rfl⟩
    · rw [if_neg (of_decide_eq_false b237)] at h
      obtain ⟨g238, h⟩ := of_guard h
      obtain ⟨g239, h⟩ := of_guard h
      obtain ⟨g240, h⟩ := of_guard h
      refine ⟨fun b241 => ?_, fun b241 => ?_⟩
      · rw [if_pos (bne_t b241)] at h
        refine ⟨g234, trivial, trivial, ⟨b235, trivial⟩, ⟨b235, trivial⟩, ⟨b235, g236⟩, ⟨b235, trivial⟩, ⟨b235, trivial⟩, b235, ⟨b237, trivial⟩, ⟨b237, trivial⟩, ⟨b237, trivial⟩, ⟨b237, g238⟩, ⟨b237, trivial⟩, ⟨b237, trivial⟩, ⟨b237, g239⟩, ⟨b237, g240⟩, ⟨b237, trivial⟩, b237, b241, b241, b241, trivial, trivial, trivial, trivial, trivial, trivial, trivial, trivial, trivial, trivial, b241, b241, ?_⟩
        refine ⟨rfl, trivial, ?_⟩
        obtain rfl := Option.some.inj h
        exact ⟨⟨trivial, trivial, trivial⟩, rfl, rfl⟩
      · rw [if_neg (not_not_intro (bne_f b241))] at h
        refine ⟨fun b242 => ?_, fun b242 => ?_⟩
        · rw [if_pos (of_decide_eq_true b242)] at h
          obtain ⟨g243, h⟩ := of_guard h
          obtain ⟨g244, h⟩ := of_guard h
          refine ⟨g234, trivial, trivial, ⟨b235, trivial⟩, ⟨b235, trivial⟩, ⟨b235, g236⟩, ⟨b235, trivial⟩, ⟨b235, trivial⟩, b235, ⟨b237, trivial⟩, ⟨b237, trivial⟩, ⟨b237, trivial⟩, ⟨b237, g238⟩, ⟨b237, trivial⟩, ⟨b237, trivial⟩, ⟨b237, g239⟩, ⟨b237, g240⟩, ⟨b237, trivial⟩, b237, ⟨b241, trivial⟩, ⟨b241, trivial⟩, ⟨b241, trivial⟩, ⟨b242, trivial⟩, ⟨b242, trivial⟩, ⟨b242, trivial⟩, ⟨b242, g243⟩, ⟨b242, trivial⟩, ⟨b242, trivial⟩, ⟨b242, g244⟩, ⟨b242, trivial⟩, ⟨b242, trivial⟩, ⟨b242, trivial⟩, ⟨b241, b242⟩, b241, ?_⟩
          refine ⟨fun b245 => ?_, fun b245 => ?_⟩
          · rw [if_pos (of_decide_eq_true b245)] at h
            refine ⟨trivial, ?_⟩
            obtain rfl := Option.some.inj h
            exact ⟨⟨trivial, trivial, trivial⟩, rfl, rfl⟩
          · rw [if_neg (of_decide_eq_false b245)] at h
            refine ⟨trivial, trivial, ?_⟩
            obtain ⟨g248, h⟩ := of_guard h
            refine ⟨g248, ?_⟩
            refine ⟨trivial, ?_⟩
            obtain ⟨g247, h⟩ := of_guard h
            refine ⟨g247, ?_⟩
            obtain ⟨g246, h⟩ := of_guard h
            refine ⟨g246, ?_⟩
            obtain rfl := Option.some.inj h
            exact ⟨⟨trivial, trivial, trivial⟩, rfl, rfl⟩
        · rw [if_neg (of_decide_eq_false b242)] at h
          refine ⟨g234, trivial, trivial, ⟨b235, trivial⟩, ⟨b235, trivial⟩, ⟨b235, g236⟩, ⟨b235, trivial⟩, ⟨b235, trivial⟩, b235, ⟨b237, trivial⟩, ⟨b237, trivial⟩, ⟨b237, trivial⟩, ⟨b237, g238⟩, ⟨b237, trivial⟩, ⟨b237, trivial⟩, ⟨b237, g239⟩, ⟨b237, g240⟩, ⟨b237, trivial⟩, b237, ⟨b241, trivial⟩, ⟨b241, trivial⟩, ⟨b241, trivial⟩, b242, b242, b242, b242, b242, b242, b242, b242, b242, b242, ⟨b241, b242⟩, b241, ?_⟩
          refine ⟨rfl, trivial, trivial, ?_⟩
          obtain ⟨g251, h⟩ := of_guard h
          refine ⟨g251, ?_⟩
          refine ⟨trivial, ?_⟩
          obtain ⟨g250, h⟩ := of_guard h
          refine ⟨g250, ?_⟩
          obtain ⟨g249, h⟩ := of_guard h
          refine ⟨g249, ?_⟩
          obtain rfl := Option.some.inj h
          exact ⟨⟨trivial, trivial, trivial⟩, rfl, rfl⟩
def halterlaw29_AlarmOnce.l2 (x99 : Int) (t162 : (List Int) × (List (Int × Int)) × (Option Int)) : Nat → (List Int) → Int → Option (((List Int)) ⊕ ((List Int)))
  | 0, _, _ => none
  | n + 1, x187, x188 =>
    if x188 < (((List.length t162.1) : Nat) : Int) then
      (halterlaw29_AlarmOnce.j3 x99 t162 x187 x188).bind fun t233 =>
      match t233 with
      | .inl t252 =>
        halterlaw29_AlarmOnce.l2 x99 t162 n (List.set x187 (0 + (Int.toNat (List.getD t162.1 (Int.toNat x188) (0 : Int)))) (0 : Int)) (IntKind.wrap .i64 (x188 + (1 : Int)))
      | .inr t253 =>
        some (.inr x187)
    else
      some (.inl x187)
def halterlaw29_AlarmOnce.l2_S (x99 : Int) (t162 : (List Int) × (List (Int × Int)) × (Option Int)) (x187 : List Int) (x188 : Int) : St := ⟨[.any, .any, .any, .v (.one (.fs (.pair (.int .i64) (.int .i64)) t162.2.1 false)), .v (.one (.os 0 0 0 1 100 none)), .any, .any, .any, .any, .any, .v (.one (.sc (.int .i64 x99))), .v (.one (.fs (.int .i64) t162.1 false)), .any, .any, .v (.one (.sc (.int .i64 x188))), .any, .any, .any, .any, .any, .any, .any, .any, .any, .any, .any, .any, .any, .any, .any, .any, .any, .any, .any, .any, .any, .any, .any, .any, .any, .any, .any, .any, .any, .any, .any, .any, .any, .any, .any, .any, .any, .any, .any, .any, .any, .any, .any, .any, .any, .any, .any, .any, .any, .any, .any, .any, .any, .any, .any, .any, .any, .any, .any, .any, .any, .any, .any, .any, .any, .any, .any, .any, .any, .any, .any, .any, .any, .any, .any, .any, .any, .any, .any, .any, .any, .any, .any, .any, .any, .any, .any, .any, .any, .any, .any, .any, .any, .any, .any, .any, .any, .any, .any, .any, .any, .any, .any, .any, .any, .any, .any, .any, .any, .any, .any, .any, .any, .any, .any, .any, .any, .any], [.ex false [.row 100 (.int .i64) x187] 3], 0⟩
def halterlaw29_AlarmOnce.l2_Q (x99 : Int) (t162 : (List Int) × (List (Int × Int)) × (Option Int)) : ((List Int)) ⊕ ((List Int)) → Exit → St → Prop
  | .inl t => fun e s => e = (.exit 4) ∧ s = ⟨[.any, .any, .any, .v (.one (.fs (.pair (.int .i64) (.int .i64)) t162.2.1 false)), .v (.one (.os 0 0 0 1 100 none)), .any, .any, .any, .any, .any, .v (.one (.sc (.int .i64 x99))), .any, .any, .any, .any, .any, .any, .any, .any, .any, .any, .any, .any, .any, .any, .any, .any, .any, .any, .any, .any, .any, .any, .any, .any, .any, .any, .any, .any, .any, .any, .any, .any, .any, .any, .any, .any, .any, .any, .any, .any, .any, .any, .any, .any, .any, .any, .any, .any, .any, .any, .any, .any, .any, .any, .any, .any, .any, .any, .any, .any, .any, .any, .any, .any, .any, .any, .any, .any, .any, .any, .any, .any, .any, .any, .any, .any, .any, .any, .any, .any, .any, .any, .any, .any, .any, .any, .any, .any, .any, .any, .any, .any, .any, .any, .any, .any, .any, .any, .any, .any, .any, .any, .any, .any, .any, .any, .any, .any, .any, .any, .any, .any, .any, .any, .any, .any, .any, .any, .any, .any, .any, .any], [.ex false [.row 100 (.int .i64) t] 3], 0⟩
  | .inr t => fun e s => e = .ret ∧ s = ⟨[.any, .any, .v (.one (.sc (.bool false))), .any, .any, .any, .any, .any, .any, .any, .any, .any, .any, .any, .any, .any, .any, .any, .any, .any, .any, .any, .any, .any, .any, .any, .any, .any, .any, .any, .any, .any, .any, .any, .any, .any, .any, .any, .any, .any, .any, .any, .any, .any, .any, .any, .any, .any, .any, .any, .any, .any, .any, .any, .any, .any, .any, .any, .any, .any, .any, .any, .any, .any, .any, .any, .any, .any, .any, .any, .any, .any, .any, .any, .any, .any, .any, .any, .any, .any, .any, .any, .any, .any, .any, .any, .any, .any, .any, .any, .any, .any, .any, .any, .any, .any, .any, .any, .any, .any, .any, .any, .any, .any, .any, .any, .any, .any, .any, .any, .any, .any, .any, .any, .any, .any, .any, .any, .any, .any, .any, .any, .any, .any, .any, .any, .any, .any, .any, .any, .any, .any, .any], [.ex false [.row 100 (.int .i64) t] 3], 0⟩
theorem halterlaw29_AlarmOnce.l2_ok (x99 : Int) (t162 : (List Int) × (List (Int × Int)) × (Option Int)) : ∀ (n : Nat) (x187 : List Int) (x188 : Int) (r : ((List Int)) ⊕ ((List Int))), halterlaw29_AlarmOnce.l2 x99 t162 n x187 x188 = some r → TripN cfg (cpath (Try.f3.body.getD .skip) [1, 1, 1, 1, 1, 0, 1, 0, 0, 1, 0, 0, 1, 1, 1, 1, 0, 0]) n (halterlaw29_AlarmOnce.l2_S x99 t162 x187 x188) (halterlaw29_AlarmOnce.l2_Q x99 t162 r) := by
  intro n
  induction n with
  | zero => intro x187 x188 r h; cases h
  | succ n ih =>
    intro x187 x188 r h
    rw [halterlaw29_AlarmOnce.l2] at h
    refine TripN.of_run cfg_ok (k := (.br (.adj [] (.adj [.keep [3, 4, 10, 11, 14]] (.altb (.blk (Unit) (fun _ => .normal) (fun t252 => ⟨[.any, .any, .any, .v (.one (.fs (.pair (.int .i64) (.int .i64)) t162.2.1 false)), .v (.one (.os 0 0 0 1 100 none)), .any, .any, .any, .any, .any, .v (.one (.sc (.int .i64 x99))), .v (.one (.fs (.int .i64) t162.1 false)), .any, .any, .v (.one (.sc (.int .i64 x188))), .any, .any, .any, .any, .any, .any, .any, .any, .any, .any, .any, .any, .any, .any, .any, .any, .any, .any, .any, .any, .any, .any, .any, .any, .any, .any, .any, .any, .any, .any, .any, .any, .any, .any, .any, .any, .any, .any, .any, .any, .any, .any, .any, .any, .any, .any, .any, .any, .any, .any, .any, .any, .any, .any, .any, .any, .any, .any, .any, .any, .any, .any, .any, .any, .any, .any, .any, .any, .any, .any, .any, .any, .any, .any, .any, .any, .any, .any, .any, .any, .any, .any, .any, .any, .any, .any, .any, .any, .any, .any, .any, .any, .any, .any, .any, .any, .any, .any, .any, .any, .any, .any, .any, .any, .any, .any, .any, .any, .any, .any, .any, .any, .any, .any, .any, .any, .any, .any], [.ex false [.row 100 (.int .i64) (List.set x187 (0 + (Int.toNat (List.getD t162.1 (Int.toNat x188) (0 : Int)))) (0 : Int))] 3], 0⟩) (fun t252 => (.adj [] (.adj [.keep [3, 4, 10, 11, 14], .drop 1] .nil)))) (.blk (Unit) (fun _ => .ret) (fun t253 => ⟨[.any, .any, .v (.one (.sc (.bool false))), .any, .any, .any, .any, .any, .any, .any, .any, .any, .any, .any, .any, .any, .any, .any, .any, .any, .any, .any, .any, .any, .any, .any, .any, .any, .any, .any, .any, .any, .any, .any, .any, .any, .any, .any, .any, .any, .any, .any, .any, .any, .any, .any, .any, .any, .any, .any, .any, .any, .any, .any, .any, .any, .any, .any, .any, .any, .any, .any, .any, .any, .any, .any, .any, .any, .any, .any, .any, .any, .any, .any, .any, .any, .any, .any, .any, .any, .any, .any, .any, .any, .any, .any, .any, .any, .any, .any, .any, .any, .any, .any, .any, .any, .any, .any, .any, .any, .any, .any, .any, .any, .any, .any, .any, .any, .any, .any, .any, .any, .any, .any, .any, .any, .any, .any, .any, .any, .any, .any, .any, .any, .any, .any, .any, .any, .any, .any, .any, .any, .any], [.ex false [.row 100 (.int .i64) x187] 3], 0⟩) (fun t253 => .nil))))) (.adj [.keep [3, 4, 10], .drop 1] .nil))) (to_goal (q := (True) ∧ (True) ∧ (((decide (x188 < (((List.length t162.1) : Nat) : Int))) = true → (True ∧ (((True) ∧ True) ∧ ((∃ t252 : Unit, Trip cfg (cpath (Try.f3.body.getD .skip) [1, 1, 1, 1, 1, 0, 1, 0, 0, 1, 0, 0, 1, 1, 1, 1, 0, 0, 1, 0]) ⟨[.any, .any, .any, .v (.one (.fs (.pair (.int .i64) (.int .i64)) t162.2.1 false)), .v (.one (.os 0 0 0 1 100 none)), .any, .any, .any, .any, .any, .v (.one (.sc (.int .i64 x99))), .v (.one (.fs (.int .i64) t162.1 false)), .any, .any, .v (.one (.sc (.int .i64 x188))), .any, .any, .any, .any, .any, .any, .any, .any, .any, .any, .any, .any, .any, .any, .any, .any, .any, .any, .any, .any, .any, .any, .any, .any, .any, .any, .any, .any, .any, .any, .any, .any, .any, .any, .any, .any, .any, .any, .any, .any, .any, .any, .any, .any, .any, .any, .any, .any, .any, .any, .any, .any, .any, .any, .any, .any, .any, .any, .any, .any, .any, .any, .any, .any, .any, .any, .any, .any, .any, .any, .any, .any, .any, .any, .any, .any, .any, .any, .any, .any, .any, .any, .any, .any, .any, .any, .any, .any, .any, .any, .any, .any, .any, .any, .any, .any, .any, .any, .any, .any, .any, .any, .any, .any, .any, .any, .any, .any, .any, .any, .any, .any, .any, .any, .any, .any, .any, .any], [.ex false [.row 100 (.int .i64) x187] 3], 0⟩ (fun e s => e = .normal ∧ s = ⟨[.any, .any, .any, .v (.one (.fs (.pair (.int .i64) (.int .i64)) t162.2.1 false)), .v (.one (.os 0 0 0 1 100 none)), .any, .any, .any, .any, .any, .v (.one (.sc (.int .i64 x99))), .v (.one (.fs (.int .i64) t162.1 false)), .any, .any, .v (.one (.sc (.int .i64 x188))), .any, .any, .any, .any, .any, .any, .any, .any, .any, .any, .any, .any, .any, .any, .any, .any, .any, .any, .any, .any, .any, .any, .any, .any, .any, .any, .any, .any, .any, .any, .any, .any, .any, .any, .any, .any, .any, .any, .any, .any, .any, .any, .any, .any, .any, .any, .any, .any, .any, .any, .any, .any, .any, .any, .any, .any, .any, .any, .any, .any, .any, .any, .any, .any, .any, .any, .any, .any, .any, .any, .any, .any, .any, .any, .any, .any, .any, .any, .any, .any, .any, .any, .any, .any, .any, .any, .any, .any, .any, .any, .any, .any, .any, .any, .any, .any, .any, .any, .any, .any, .any, .any, .any, .any, .any, .any, .any, .any, .any, .any, .any, .any, .any, .any, .any, .any, .any, .any], [.ex false [.row 100 (.int .i64) (List.set x187 (0 + (Int.toNat (List.getD t162.1 (Int.toNat x188) (0 : Int)))) (0 : Int))] 3], 0⟩) ∧ (True ∧ (True) ∧ (((True) ∧ (True) ∧ True) ∧ TripN cfg (cpath (Try.f3.body.getD .skip) [1, 1, 1, 1, 1, 0, 1, 0, 0, 1, 0, 0, 1, 1, 1, 1, 0, 0]) n (halterlaw29_AlarmOnce.l2_S x99 t162 (List.set x187 (0 + (Int.toNat (List.getD t162.1 (Int.toNat x188) (0 : Int)))) (0 : Int)) (IntKind.wrap .i64 (x188 + (1 : Int)))) (halterlaw29_AlarmOnce.l2_Q x99 t162 r)))) ∨ (∃ t253 : Unit, Trip cfg (cpath (Try.f3.body.getD .skip) [1, 1, 1, 1, 1, 0, 1, 0, 0, 1, 0, 0, 1, 1, 1, 1, 0, 0, 1, 0]) ⟨[.any, .any, .any, .v (.one (.fs (.pair (.int .i64) (.int .i64)) t162.2.1 false)), .v (.one (.os 0 0 0 1 100 none)), .any, .any, .any, .any, .any, .v (.one (.sc (.int .i64 x99))), .v (.one (.fs (.int .i64) t162.1 false)), .any, .any, .v (.one (.sc (.int .i64 x188))), .any, .any, .any, .any, .any, .any, .any, .any, .any, .any, .any, .any, .any, .any, .any, .any, .any, .any, .any, .any, .any, .any, .any, .any, .any, .any, .any, .any, .any, .any, .any, .any, .any, .any, .any, .any, .any, .any, .any, .any, .any, .any, .any, .any, .any, .any, .any, .any, .any, .any, .any, .any, .any, .any, .any, .any, .any, .any, .any, .any, .any, .any, .any, .any, .any, .any, .any, .any, .any, .any, .any, .any, .any, .any, .any, .any, .any, .any, .any, .any, .any, .any, .any, .any, .any, .any, .any, .any, .any, .any, .any, .any, .any, .any, .any, .any, .any, .any, .any, .any, .any, .any, .any, .any, .any, .any, .any, .any, .any, .any, .any, .any, .any, .any, .any, .any, .any, .any], [.ex false [.row 100 (.int .i64) x187] 3], 0⟩ (fun e s => e = .ret ∧ s = ⟨[.any, .any, .v (.one (.sc (.bool false))), .any, .any, .any, .any, .any, .any, .any, .any, .any, .any, .any, .any, .any, .any, .any, .any, .any, .any, .any, .any, .any, .any, .any, .any, .any, .any, .any, .any, .any, .any, .any, .any, .any, .any, .any, .any, .any, .any, .any, .any, .any, .any, .any, .any, .any, .any, .any, .any, .any, .any, .any, .any, .any, .any, .any, .any, .any, .any, .any, .any, .any, .any, .any, .any, .any, .any, .any, .any, .any, .any, .any, .any, .any, .any, .any, .any, .any, .any, .any, .any, .any, .any, .any, .any, .any, .any, .any, .any, .any, .any, .any, .any, .any, .any, .any, .any, .any, .any, .any, .any, .any, .any, .any, .any, .any, .any, .any, .any, .any, .any, .any, .any, .any, .any, .any, .any, .any, .any, .any, .any, .any, .any, .any, .any, .any, .any, .any, .any, .any, .any], [.ex false [.row 100 (.int .i64) x187] 3], 0⟩) ∧ (halterlaw29_AlarmOnce.l2_Q x99 t162 r .ret ⟨[.any, .any, .v (.one (.sc (.bool false))), .any, .any, .any, .any, .any, .any, .any, .any, .any, .any, .any, .any, .any, .any, .any, .any, .any, .any, .any, .any, .any, .any, .any, .any, .any, .any, .any, .any, .any, .any, .any, .any, .any, .any, .any, .any, .any, .any, .any, .any, .any, .any, .any, .any, .any, .any, .any, .any, .any, .any, .any, .any, .any, .any, .any, .any, .any, .any, .any, .any, .any, .any, .any, .any, .any, .any, .any, .any, .any, .any, .any, .any, .any, .any, .any, .any, .any, .any, .any, .any, .any, .any, .any, .any, .any, .any, .any, .any, .any, .any, .any, .any, .any, .any, .any, .any, .any, .any, .any, .any, .any, .any, .any, .any, .any, .any, .any, .any, .any, .any, .any, .any, .any, .any, .any, .any, .any, .any, .any, .any, .any, .any, .any, .any, .any, .any, .any, .any, .any, .any], [.ex false [.row 100 (.int .i64) x187] 3], 0⟩)))))) ∧ ((decide (x188 < (((List.length t162.1) : Nat) : Int))) = false → (((True) ∧ (True) ∧ True) ∧ halterlaw29_AlarmOnce.l2_Q x99 t162 r (.exit 4) ⟨[.any, .any, .any, .v (.one (.fs (.pair (.int .i64) (.int .i64)) t162.2.1 false)), .v (.one (.os 0 0 0 1 100 none)), .any, .any, .any, .any, .any, .v (.one (.sc (.int .i64 x99))), .any, .any, .any, .any, .any, .any, .any, .any, .any, .any, .any, .any, .any, .any, .any, .any, .any, .any, .any, .any, .any, .any, .any, .any, .any, .any, .any, .any, .any, .any, .any, .any, .any, .any, .any, .any, .any, .any, .any, .any, .any, .any, .any, .any, .any, .any, .any, .any, .any, .any, .any, .any, .any, .any, .any, .any, .any, .any, .any, .any, .any, .any, .any, .any, .any, .any, .any, .any, .any, .any, .any, .any, .any, .any, .any, .any, .any, .any, .any, .any, .any, .any, .any, .any, .any, .any, .any, .any, .any, .any, .any, .any, .any, .any, .any, .any, .any, .any, .any, .any, .any, .any, .any, .any, .any, .any, .any, .any, .any, .any, .any, .any, .any, .any, .any, .any, .any, .any, .any, .any, .any, .any], [.ex false [.row 100 (.int .i64) x187] 3], 0⟩)))) (by kernel_rfl) ?_)
    refine ⟨trivial, trivial, ?_⟩
    refine ⟨fun b214 => ?_, fun b214 => ?_⟩
    · rw [if_pos (of_decide_eq_true b214)] at h
      refine ⟨trivial, ?_⟩
      obtain ⟨t233, ht233, h⟩ := of_bind h
      refine ⟨⟨trivial, trivial⟩, ?_⟩
      rcases t233 with t252 | t253
      · dsimp only at h
        left
        refine ⟨t252, halterlaw29_AlarmOnce.j3_ok x99 t162 x187 x188 (.inl t252) ht233, ?_⟩
        refine ⟨trivial, trivial, ?_⟩
        exact ⟨⟨trivial, trivial, trivial⟩, ih (List.set x187 (0 + (Int.toNat (List.getD t162.1 (Int.toNat x188) (0 : Int)))) (0 : Int)) (IntKind.wrap .i64 (x188 + (1 : Int))) r h⟩
      · dsimp only at h
        right
        refine ⟨t253, halterlaw29_AlarmOnce.j3_ok x99 t162 x187 x188 (.inr t253) ht233, ?_⟩
        obtain rfl := Option.some.inj h
        exact ⟨rfl, rfl⟩
    · rw [if_neg (of_decide_eq_false b214)] at h
      obtain rfl := Option.some.inj h
      exact ⟨⟨trivial, trivial, trivial⟩, rfl, rfl⟩
def halterlaw29_AlarmOnce.l1 : Nat → (List Int) → (List (Int × Int)) → Int → Option (((List Int) × (List (Int × Int))) ⊕ ((List Int)))
  | 0, _, _, _ => none
  | n + 1, x97, x98, x99 =>
    if x99 < (260 : Int) then
      (alarm_Due.f x98 x99).bind fun t162 =>
      if ¬ (t162.2.2 = none) then
        some (.inr x97)
      else
        (halterlaw29_AlarmOnce.l2 x99 t162 FUEL x97 (0 : Int)).bind fun t213 =>
        match t213 with
        | .inl t256 =>
          halterlaw29_AlarmOnce.l1 n t256 t162.2.1 (IntKind.wrap .i64 (x99 + (1 : Int)))
        | .inr t258 =>
          some (.inr t258)
    else
      some (.inl (x97, x98))
def halterlaw29_AlarmOnce.l1_S (x97 : List Int) (x98 : List (Int × Int)) (x99 : Int) : St := ⟨[.any, .any, .any, .v (.one (.fs (.pair (.int .i64) (.int .i64)) x98 false)), .v (.one (.os 0 0 0 1 100 none)), .any, .any, .any, .any, .any, .v (.one (.sc (.int .i64 x99))), .any, .any, .any, .any, .any, .any, .any, .any, .any, .any, .any, .any, .any, .any, .any, .any, .any, .any, .any, .any, .any, .any, .any, .any, .any, .any, .any, .any, .any, .any, .any, .any, .any, .any, .any, .any, .any, .any, .any, .any, .any, .any, .any, .any, .any, .any, .any, .any, .any, .any, .any, .any, .any, .any, .any, .any, .any, .any, .any, .any, .any, .any, .any, .any, .any, .any, .any, .any, .any, .any, .any, .any, .any, .any, .any, .any, .any, .any, .any, .any, .any, .any, .any, .any, .any, .any, .any, .any, .any, .any, .any, .any, .any, .any, .any, .any, .any, .any, .any, .any, .any, .any, .any, .any, .any, .any, .any, .any, .any, .any, .any, .any, .any, .any, .any, .any, .any, .any, .any, .any, .any, .any], [.ex false [.row 100 (.int .i64) x97] 3], 0⟩
def halterlaw29_AlarmOnce.l1_Q : ((List Int) × (List (Int × Int))) ⊕ ((List Int)) → Exit → St → Prop
  | .inl t => fun e s => e = (.exit 2) ∧ s = ⟨[.any, .any, .any, .v (.one (.fs (.pair (.int .i64) (.int .i64)) t.2 false)), .v (.one (.os 0 0 0 1 100 none)), .any, .any, .any, .any, .any, .any, .any, .any, .any, .any, .any, .any, .any, .any, .any, .any, .any, .any, .any, .any, .any, .any, .any, .any, .any, .any, .any, .any, .any, .any, .any, .any, .any, .any, .any, .any, .any, .any, .any, .any, .any, .any, .any, .any, .any, .any, .any, .any, .any, .any, .any, .any, .any, .any, .any, .any, .any, .any, .any, .any, .any, .any, .any, .any, .any, .any, .any, .any, .any, .any, .any, .any, .any, .any, .any, .any, .any, .any, .any, .any, .any, .any, .any, .any, .any, .any, .any, .any, .any, .any, .any, .any, .any, .any, .any, .any, .any, .any, .any, .any, .any, .any, .any, .any, .any, .any, .any, .any, .any, .any, .any, .any, .any, .any, .any, .any, .any, .any, .any, .any, .any, .any, .any, .any, .any, .any, .any, .any], [.ex false [.row 100 (.int .i64) t.1] 3], 0⟩
  | .inr t => fun e s => e = .ret ∧ s = ⟨[.any, .any, .v (.one (.sc (.bool false))), .any, .any, .any, .any, .any, .any, .any, .any, .any, .any, .any, .any, .any, .any, .any, .any, .any, .any, .any, .any, .any, .any, .any, .any, .any, .any, .any, .any, .any, .any, .any, .any, .any, .any, .any, .any, .any, .any, .any, .any, .any, .any, .any, .any, .any, .any, .any, .any, .any, .any, .any, .any, .any, .any, .any, .any, .any, .any, .any, .any, .any, .any, .any, .any, .any, .any, .any, .any, .any, .any, .any, .any, .any, .any, .any, .any, .any, .any, .any, .any, .any, .any, .any, .any, .any, .any, .any, .any, .any, .any, .any, .any, .any, .any, .any, .any, .any, .any, .any, .any, .any, .any, .any, .any, .any, .any, .any, .any, .any, .any, .any, .any, .any, .any, .any, .any, .any, .any, .any, .any, .any, .any, .any, .any, .any, .any, .any, .any, .any, .any], [.ex false [.row 100 (.int .i64) t] 3], 0⟩
theorem halterlaw29_AlarmOnce.l1_ok : ∀ (n : Nat) (x97 : List Int) (x98 : List (Int × Int)) (x99 : Int) (r : ((List Int) × (List (Int × Int))) ⊕ ((List Int))), halterlaw29_AlarmOnce.l1 n x97 x98 x99 = some r → TripN cfg (cpath (Try.f3.body.getD .skip) [1, 1, 1, 1, 1, 0, 1, 0, 0]) n (halterlaw29_AlarmOnce.l1_S x97 x98 x99) (halterlaw29_AlarmOnce.l1_Q r) := by
  intro n
  induction n with
  | zero => intro x97 x98 x99 r h; cases h
  | succ n ih =>
    intro x97 x98 x99 r h
    rw [halterlaw29_AlarmOnce.l1] at h
    refine TripN.of_run cfg_ok (k := (.br (.call true [] ((List Int) × (List (Int × Int)) × (Option Int)) alarm_Due.R (fun t162 => (.br (.adj [] (.adj [.keep [2], .drop 1] .nil)) (aE 4 (.adj [.keep [3, 4, 10, 11, 14]] (.alt (.sub ((List Int)) (fun _ => (.exit 4)) (fun t256 => ⟨[.any, .any, .any, .v (.one (.fs (.pair (.int .i64) (.int .i64)) t162.2.1 false)), .v (.one (.os 0 0 0 1 100 none)), .any, .any, .any, .any, .any, .v (.one (.sc (.int .i64 x99))), .any, .any, .any, .any, .any, .any, .any, .any, .any, .any, .any, .any, .any, .any, .any, .any, .any, .any, .any, .any, .any, .any, .any, .any, .any, .any, .any, .any, .any, .any, .any, .any, .any, .any, .any, .any, .any, .any, .any, .any, .any, .any, .any, .any, .any, .any, .any, .any, .any, .any, .any, .any, .any, .any, .any, .any, .any, .any, .any, .any, .any, .any, .any, .any, .any, .any, .any, .any, .any, .any, .any, .any, .any, .any, .any, .any, .any, .any, .any, .any, .any, .any, .any, .any, .any, .any, .any, .any, .any, .any, .any, .any, .any, .any, .any, .any, .any, .any, .any, .any, .any, .any, .any, .any, .any, .any, .any, .any, .any, .any, .any, .any, .any, .any, .any, .any, .any, .any, .any, .any, .any, .any], [.ex false [.row 100 (.int .i64) t256] 3], 0⟩) (fun t256 => (.adj [] (.adj [.keep [3, 4, 10], .drop 1] .nil)))) (.sub ((List Int)) (fun _ => .ret) (fun t258 => ⟨[.any, .any, .v (.one (.sc (.bool false))), .any, .any, .any, .any, .any, .any, .any, .any, .any, .any, .any, .any, .any, .any, .any, .any, .any, .any, .any, .any, .any, .any, .any, .any, .any, .any, .any, .any, .any, .any, .any, .any, .any, .any, .any, .any, .any, .any, .any, .any, .any, .any, .any, .any, .any, .any, .any, .any, .any, .any, .any, .any, .any, .any, .any, .any, .any, .any, .any, .any, .any, .any, .any, .any, .any, .any, .any, .any, .any, .any, .any, .any, .any, .any, .any, .any, .any, .any, .any, .any, .any, .any, .any, .any, .any, .any, .any, .any, .any, .any, .any, .any, .any, .any, .any, .any, .any, .any, .any, .any, .any, .any, .any, .any, .any, .any, .any, .any, .any, .any, .any, .any, .any, .any, .any, .any, .any, .any, .any, .any, .any, .any, .any, .any, .any, .any, .any, .any, .any, .any], [.ex false [.row 100 (.int .i64) t258] 3], 0⟩) (fun t258 => .nil)))))))) (.adj [.keep [3, 4], .drop 1] .nil))) (to_goal (q := (True) ∧ (((decide (x99 < (260 : Int))) = true → (∃ t162 : (List Int) × (List (Int × Int)) × (Option Int), (Fun cfg 7 [.one (.fs (.pair (.int .i64) (.int .i64)) x98 false), .one (.sc (.int .i64 x99))] [] (alarm_Due.R t162) [] ∧ True) ∧ (True) ∧ (((!(Option.isNone (z2 t162))) = true → (True ∧ (((True) ∧ (True) ∧ True) ∧ halterlaw29_AlarmOnce.l1_Q r .ret ⟨[.any, .any, .v (.one (.sc (.bool false))), .any, .any, .any, .any, .any, .any, .any, .any, .any, .any, .any, .any, .any, .any, .any, .any, .any, .any, .any, .any, .any, .any, .any, .any, .any, .any, .any, .any, .any, .any, .any, .any, .any, .any, .any, .any, .any, .any, .any, .any, .any, .any, .any, .any, .any, .any, .any, .any, .any, .any, .any, .any, .any, .any, .any, .any, .any, .any, .any, .any, .any, .any, .any, .any, .any, .any, .any, .any, .any, .any, .any, .any, .any, .any, .any, .any, .any, .any, .any, .any, .any, .any, .any, .any, .any, .any, .any, .any, .any, .any, .any, .any, .any, .any, .any, .any, .any, .any, .any, .any, .any, .any, .any, .any, .any, .any, .any, .any, .any, .any, .any, .any, .any, .any, .any, .any, .any, .any, .any, .any, .any, .any, .any, .any, .any, .any, .any, .any, .any, .any], [.ex false [.row 100 (.int .i64) x97] 3], 0⟩))) ∧ ((!(Option.isNone (z2 t162))) = false → (True ∧ (True ∧ (True ∧ (True ∧ (((True) ∧ True) ∧ ((∃ t256 : (List Int), Trip cfg (.loop (cpath (Try.f3.body.getD .skip) [1, 1, 1, 1, 1, 0, 1, 0, 0, 1, 0, 0, 1, 1, 1, 1, 0, 0])) ⟨[.any, .any, .any, .v (.one (.fs (.pair (.int .i64) (.int .i64)) t162.2.1 false)), .v (.one (.os 0 0 0 1 100 none)), .any, .any, .any, .any, .any, .v (.one (.sc (.int .i64 x99))), .v (.one (.fs (.int .i64) t162.1 false)), .any, .any, .v (.one (.sc (.int .i64 (0 : Int)))), .any, .any, .any, .any, .any, .any, .any, .any, .any, .any, .any, .any, .any, .any, .any, .any, .any, .any, .any, .any, .any, .any, .any, .any, .any, .any, .any, .any, .any, .any, .any, .any, .any, .any, .any, .any, .any, .any, .any, .any, .any, .any, .any, .any, .any, .any, .any, .any, .any, .any, .any, .any, .any, .any, .any, .any, .any, .any, .any, .any, .any, .any, .any, .any, .any, .any, .any, .any, .any, .any, .any, .any, .any, .any, .any, .any, .any, .any, .any, .any, .any, .any, .any, .any, .any, .any, .any, .any, .any, .any, .any, .any, .any, .any, .any, .any, .any, .any, .any, .any, .any, .any, .any, .any, .any, .any, .any, .any, .any, .any, .any, .any, .any, .any, .any, .any, .any, .any], [.ex false [.row 100 (.int .i64) x97] 3], 0⟩ (fun e s => e = (.exit 4) ∧ s = ⟨[.any, .any, .any, .v (.one (.fs (.pair (.int .i64) (.int .i64)) t162.2.1 false)), .v (.one (.os 0 0 0 1 100 none)), .any, .any, .any, .any, .any, .v (.one (.sc (.int .i64 x99))), .any, .any, .any, .any, .any, .any, .any, .any, .any, .any, .any, .any, .any, .any, .any, .any, .any, .any, .any, .any, .any, .any, .any, .any, .any, .any, .any, .any, .any, .any, .any, .any, .any, .any, .any, .any, .any, .any, .any, .any, .any, .any, .any, .any, .any, .any, .any, .any, .any, .any, .any, .any, .any, .any, .any, .any, .any, .any, .any, .any, .any, .any, .any, .any, .any, .any, .any, .any, .any, .any, .any, .any, .any, .any, .any, .any, .any, .any, .any, .any, .any, .any, .any, .any, .any, .any, .any, .any, .any, .any, .any, .any, .any, .any, .any, .any, .any, .any, .any, .any, .any, .any, .any, .any, .any, .any, .any, .any, .any, .any, .any, .any, .any, .any, .any, .any, .any, .any, .any, .any, .any, .any], [.ex false [.row 100 (.int .i64) t256] 3], 0⟩) ∧ (True ∧ (True) ∧ (((True) ∧ (True) ∧ True) ∧ TripN cfg (cpath (Try.f3.body.getD .skip) [1, 1, 1, 1, 1, 0, 1, 0, 0]) n (halterlaw29_AlarmOnce.l1_S t256 t162.2.1 (IntKind.wrap .i64 (x99 + (1 : Int)))) (halterlaw29_AlarmOnce.l1_Q r)))) ∨ (∃ t258 : (List Int), Trip cfg (.loop (cpath (Try.f3.body.getD .skip) [1, 1, 1, 1, 1, 0, 1, 0, 0, 1, 0, 0, 1, 1, 1, 1, 0, 0])) ⟨[.any, .any, .any, .v (.one (.fs (.pair (.int .i64) (.int .i64)) t162.2.1 false)), .v (.one (.os 0 0 0 1 100 none)), .any, .any, .any, .any, .any, .v (.one (.sc (.int .i64 x99))), .v (.one (.fs (.int .i64) t162.1 false)), .any, .any, .v (.one (.sc (.int .i64 (0 : Int)))), .any, .any, .any, .any, .any, .any, .any, .any, .any, .any, .any, .any, .any, .any, .any, .any, .any, .any, .any, .any, .any, .any, .any, .any, .any, .any, .any, .any, .any, .any, .any, .any, .any, .any, .any, .any, .any, .any, .any, .any, .any, .any, .any, .any, .any, .any, .any, .any, .any, .any, .any, .any, .any, .any, .any, .any, .any, .any, .any, .any, .any, .any, .any, .any, .any, .any, .any, .any, .any, .any, .any, .any, .any, .any, .any, .any, .any, .any, .any, .any, .any, .any, .any, .any, .any, .any, .any, .any, .any, .any, .any, .any, .any, .any, .any, .any, .any, .any, .any, .any, .any, .any, .any, .any, .any, .any, .any, .any, .any, .any, .any, .any, .any, .any, .any, .any, .any, .any], [.ex false [.row 100 (.int .i64) x97] 3], 0⟩ (fun e s => e = .ret ∧ s = ⟨[.any, .any, .v (.one (.sc (.bool false))), .any, .any, .any, .any, .any, .any, .any, .any, .any, .any, .any, .any, .any, .any, .any, .any, .any, .any, .any, .any, .any, .any, .any, .any, .any, .any, .any, .any, .any, .any, .any, .any, .any, .any, .any, .any, .any, .any, .any, .any, .any, .any, .any, .any, .any, .any, .any, .any, .any, .any, .any, .any, .any, .any, .any, .any, .any, .any, .any, .any, .any, .any, .any, .any, .any, .any, .any, .any, .any, .any, .any, .any, .any, .any, .any, .any, .any, .any, .any, .any, .any, .any, .any, .any, .any, .any, .any, .any, .any, .any, .any, .any, .any, .any, .any, .any, .any, .any, .any, .any, .any, .any, .any, .any, .any, .any, .any, .any, .any, .any, .any, .any, .any, .any, .any, .any, .any, .any, .any, .any, .any, .any, .any, .any, .any, .any, .any, .any, .any, .any], [.ex false [.row 100 (.int .i64) t258] 3], 0⟩) ∧ (halterlaw29_AlarmOnce.l1_Q r .ret ⟨[.any, .any, .v (.one (.sc (.bool false))), .any, .any, .any, .any, .any, .any, .any, .any, .any, .any, .any, .any, .any, .any, .any, .any, .any, .any, .any, .any, .any, .any, .any, .any, .any, .any, .any, .any, .any, .any, .any, .any, .any, .any, .any, .any, .any, .any, .any, .any, .any, .any, .any, .any, .any, .any, .any, .any, .any, .any, .any, .any, .any, .any, .any, .any, .any, .any, .any, .any, .any, .any, .any, .any, .any, .any, .any, .any, .any, .any, .any, .any, .any, .any, .any, .any, .any, .any, .any, .any, .any, .any, .any, .any, .any, .any, .any, .any, .any, .any, .any, .any, .any, .any, .any, .any, .any, .any, .any, .any, .any, .any, .any, .any, .any, .any, .any, .any, .any, .any, .any, .any, .any, .any, .any, .any, .any, .any, .any, .any, .any, .any, .any, .any, .any, .any, .any, .any, .any, .any], [.ex false [.row 100 (.int .i64) t258] 3], 0⟩)))))))))))) ∧ ((decide (x99 < (260 : Int))) = false → (((True) ∧ (True) ∧ True) ∧ halterlaw29_AlarmOnce.l1_Q r (.exit 2) ⟨[.any, .any, .any, .v (.one (.fs (.pair (.int .i64) (.int .i64)) x98 false)), .v (.one (.os 0 0 0 1 100 none)), .any, .any, .any, .any, .any, .any, .any, .any, .any, .any, .any, .any, .any, .any, .any, .any, .any, .any, .any, .any, .any, .any, .any, .any, .any, .any, .any, .any, .any, .any, .any, .any, .any, .any, .any, .any, .any, .any, .any, .any, .any, .any, .any, .any, .any, .any, .any, .any, .any, .any, .any, .any, .any, .any, .any, .any, .any, .any, .any, .any, .any, .any, .any, .any, .any, .any, .any, .any, .any, .any, .any, .any, .any, .any, .any, .any, .any, .any, .any, .any, .any, .any, .any, .any, .any, .any, .any, .any, .any, .any, .any, .any, .any, .any, .any, .any, .any, .any, .any, .any, .any, .any, .any, .any, .any, .any, .any, .any, .any, .any, .any, .any, .any, .any, .any, .any, .any, .any, .any, .any, .any, .any, .any, .any, .any, .any, .any, .any], [.ex false [.row 100 (.int .i64) x97] 3], 0⟩)))) (by kernel_rfl) ?_)
    refine ⟨trivial, ?_⟩
    refine ⟨fun b161 => ?_, fun b161 => ?_⟩
    · rw [if_pos (of_decide_eq_true b161)] at h
      obtain ⟨t162, ht162, h⟩ := of_bind h
      refine ⟨t162, ⟨alarm_Due.fun_ ht162, trivial⟩, ?_⟩
      refine ⟨trivial, ?_⟩
      refine ⟨fun b163 => ?_, fun b163 => ?_⟩
      · rw [if_pos (none_f (not_t b163))] at h
        refine ⟨trivial, ?_⟩
        obtain rfl := Option.some.inj h
        exact ⟨⟨trivial, trivial, trivial⟩, rfl, rfl⟩
      · rw [if_neg (not_not_intro (none_t (not_f b163)))] at h
        refine ⟨trivial, trivial, trivial, trivial, ?_⟩
        obtain ⟨t213, ht213, h⟩ := of_bind h
        refine ⟨⟨trivial, trivial⟩, ?_⟩
        rcases t213 with t256 | t258
        · dsimp only at h
          left
          refine ⟨t256, Trip.loop FUEL (halterlaw29_AlarmOnce.l2_ok x99 t162 FUEL x97 (0 : Int) (.inl t256) ht213), ?_⟩
          refine ⟨trivial, trivial, ?_⟩
          exact ⟨⟨trivial, trivial, trivial⟩, ih t256 t162.2.1 (IntKind.wrap .i64 (x99 + (1 : Int))) r h⟩
        · dsimp only at h
          right
          refine ⟨t258, Trip.loop FUEL (halterlaw29_AlarmOnce.l2_ok x99 t162 FUEL x97 (0 : Int) (.inr t258) ht213), ?_⟩
          obtain rfl := Option.some.inj h
          exact ⟨rfl, rfl⟩
    · rw [if_neg (of_decide_eq_false b161)] at h
      obtain rfl := Option.some.inj h
      exact ⟨⟨trivial, trivial, trivial⟩, rfl, rfl⟩
def halterlaw29_AlarmOnce.l4 (t263 : (List Int) × (List (Int × Int))) : Nat → Int → Option ((Unit) ⊕ (Unit))
  | 0, _ => none
  | n + 1, x266 =>
    if x266 < (100 : Int) then
      if 0 ≤ x266 ∧ x266 < ((100 : Nat) : Int) then
        if (0 + (Int.toNat x266)) < 100 then
          if ¬ (List.getD t263.1 (0 + (Int.toNat x266)) (0 : Int)) = (0 : Int) then
            some (.inr ())
          else
            halterlaw29_AlarmOnce.l4 t263 n (IntKind.wrap .i64 (x266 + (1 : Int)))
        else none
      else none
    else
      some (.inl ())
def halterlaw29_AlarmOnce.l4_S (t263 : (List Int) × (List (Int × Int))) (x266 : Int) : St := ⟨[.any, .any, .any, .v (.one (.fs (.pair (.int .i64) (.int .i64)) t263.2 false)), .v (.one (.os 0 0 0 1 100 none)), .any, .any, .any, .any, .any, .any, .any, .any, .any, .any, .v (.one (.sc (.int .i64 x266))), .any, .any, .any, .any, .any, .any, .any, .any, .any, .any, .any, .any, .any, .any, .any, .any, .any, .any, .any, .any, .any, .any, .any, .any, .any, .any, .any, .any, .any, .any, .any, .any, .any, .any, .any, .any, .any, .any, .any, .any, .any, .any, .any, .any, .any, .any, .any, .any, .any, .any, .any, .any, .any, .any, .any, .any, .any, .any, .any, .any, .any, .any, .any, .any, .any, .any, .any, .any, .any, .any, .any, .any, .any, .any, .any, .any, .any, .any, .any, .any, .any, .any, .any, .any, .any, .any, .any, .any, .any, .any, .any, .any, .any, .any, .any, .any, .any, .any, .any, .any, .any, .any, .any, .any, .any, .any, .any, .any, .any, .any, .any, .any, .any, .any, .any, .any, .any], [.ex false [.row 100 (.int .i64) t263.1] 3], 0⟩
def halterlaw29_AlarmOnce.l4_Q (t263 : (List Int) × (List (Int × Int))) : (Unit) ⊕ (Unit) → Exit → St → Prop
  | .inl t => fun e s => e = (.exit 6) ∧ s = ⟨[.any, .any, .any, .v (.one (.fs (.pair (.int .i64) (.int .i64)) t263.2 false)), .any, .any, .any, .any, .any, .any, .any, .any, .any, .any, .any, .any, .any, .any, .any, .any, .any, .any, .any, .any, .any, .any, .any, .any, .any, .any, .any, .any, .any, .any, .any, .any, .any, .any, .any, .any, .any, .any, .any, .any, .any, .any, .any, .any, .any, .any, .any, .any, .any, .any, .any, .any, .any, .any, .any, .any, .any, .any, .any, .any, .any, .any, .any, .any, .any, .any, .any, .any, .any, .any, .any, .any, .any, .any, .any, .any, .any, .any, .any, .any, .any, .any, .any, .any, .any, .any, .any, .any, .any, .any, .any, .any, .any, .any, .any, .any, .any, .any, .any, .any, .any, .any, .any, .any, .any, .any, .any, .any, .any, .any, .any, .any, .any, .any, .any, .any, .any, .any, .any, .any, .any, .any, .any, .any, .any, .any, .any, .any, .any], [.ex false [.row 100 (.int .i64) t263.1] 3], 0⟩
  | .inr t => fun e s => e = .ret ∧ s = ⟨[.any, .any, .v (.one (.sc (.bool false))), .any, .any, .any, .any, .any, .any, .any, .any, .any, .any, .any, .any, .any, .any, .any, .any, .any, .any, .any, .any, .any, .any, .any, .any, .any, .any, .any, .any, .any, .any, .any, .any, .any, .any, .any, .any, .any, .any, .any, .any, .any, .any, .any, .any, .any, .any, .any, .any, .any, .any, .any, .any, .any, .any, .any, .any, .any, .any, .any, .any, .any, .any, .any, .any, .any, .any, .any, .any, .any, .any, .any, .any, .any, .any, .any, .any, .any, .any, .any, .any, .any, .any, .any, .any, .any, .any, .any, .any, .any, .any, .any, .any, .any, .any, .any, .any, .any, .any, .any, .any, .any, .any, .any, .any, .any, .any, .any, .any, .any, .any, .any, .any, .any, .any, .any, .any, .any, .any, .any, .any, .any, .any, .any, .any, .any, .any, .any, .any, .any, .any], [.ex false [.row 100 (.int .i64) t263.1] 3], 0⟩
theorem halterlaw29_AlarmOnce.l4_ok (t263 : (List Int) × (List (Int × Int))) : ∀ (n : Nat) (x266 : Int) (r : (Unit) ⊕ (Unit)), halterlaw29_AlarmOnce.l4 t263 n x266 = some r → TripN cfg (cpath (Try.f3.body.getD .skip) [1, 1, 1, 1, 1, 1, 0, 1, 0, 0]) n (halterlaw29_AlarmOnce.l4_S t263 x266) (halterlaw29_AlarmOnce.l4_Q t263 r) := by
  intro n
  induction n with
  | zero => intro x266 r h; cases h
  | succ n ih =>
    intro x266 r h
    rw [halterlaw29_AlarmOnce.l4] at h
    refine TripN.of_run cfg_ok (k := (.br (.br (.adj [] (.adj [.keep [2], .drop 1] .nil)) (aE 2 (.adj [.keep [3, 4, 15], .drop 1] .nil))) (.adj [.keep [3], .drop 1] .nil))) (to_goal (q := (True) ∧ (((decide (x266 < (100 : Int))) = true → (0 ≤ x266 ∧ x266 < ((100 : Nat) : Int)) ∧ ((0 + (Int.toNat x266)) < 100) ∧ (True) ∧ ((((List.getD t263.1 (0 + (Int.toNat x266)) (0 : Int)) != (0 : Int)) = true → (True ∧ (((True) ∧ (True) ∧ True) ∧ halterlaw29_AlarmOnce.l4_Q t263 r .ret ⟨[.any, .any, .v (.one (.sc (.bool false))), .any, .any, .any, .any, .any, .any, .any, .any, .any, .any, .any, .any, .any, .any, .any, .any, .any, .any, .any, .any, .any, .any, .any, .any, .any, .any, .any, .any, .any, .any, .any, .any, .any, .any, .any, .any, .any, .any, .any, .any, .any, .any, .any, .any, .any, .any, .any, .any, .any, .any, .any, .any, .any, .any, .any, .any, .any, .any, .any, .any, .any, .any, .any, .any, .any, .any, .any, .any, .any, .any, .any, .any, .any, .any, .any, .any, .any, .any, .any, .any, .any, .any, .any, .any, .any, .any, .any, .any, .any, .any, .any, .any, .any, .any, .any, .any, .any, .any, .any, .any, .any, .any, .any, .any, .any, .any, .any, .any, .any, .any, .any, .any, .any, .any, .any, .any, .any, .any, .any, .any, .any, .any, .any, .any, .any, .any, .any, .any, .any, .any], [.ex false [.row 100 (.int .i64) t263.1] 3], 0⟩))) ∧ (((List.getD t263.1 (0 + (Int.toNat x266)) (0 : Int)) != (0 : Int)) = false → (True ∧ (True ∧ (True) ∧ (((True) ∧ (True) ∧ True) ∧ TripN cfg (cpath (Try.f3.body.getD .skip) [1, 1, 1, 1, 1, 1, 0, 1, 0, 0]) n (halterlaw29_AlarmOnce.l4_S t263 (IntKind.wrap .i64 (x266 + (1 : Int)))) (halterlaw29_AlarmOnce.l4_Q t263 r))))))) ∧ ((decide (x266 < (100 : Int))) = false → (((True) ∧ (True) ∧ True) ∧ halterlaw29_AlarmOnce.l4_Q t263 r (.exit 6) ⟨[.any, .any, .any, .v (.one (.fs (.pair (.int .i64) (.int .i64)) t263.2 false)), .any, .any, .any, .any, .any, .any, .any, .any, .any, .any, .any, .any, .any, .any, .any, .any, .any, .any, .any, .any, .any, .any, .any, .any, .any, .any, .any, .any, .any, .any, .any, .any, .any, .any, .any, .any, .any, .any, .any, .any, .any, .any, .any, .any, .any, .any, .any, .any, .any, .any, .any, .any, .any, .any, .any, .any, .any, .any, .any, .any, .any, .any, .any, .any, .any, .any, .any, .any, .any, .any, .any, .any, .any, .any, .any, .any, .any, .any, .any, .any, .any, .any, .any, .any, .any, .any, .any, .any, .any, .any, .any, .any, .any, .any, .any, .any, .any, .any, .any, .any, .any, .any, .any, .any, .any, .any, .any, .any, .any, .any, .any, .any, .any, .any, .any, .any, .any, .any, .any, .any, .any, .any, .any, .any, .any, .any, .any, .any, .any], [.ex false [.row 100 (.int .i64) t263.1] 3], 0⟩)))) (by kernel_rfl) ?_)
    refine ⟨trivial, ?_⟩
    refine ⟨fun b272 => ?_, fun b272 => ?_⟩
    · rw [if_pos (of_decide_eq_true b272)] at h
      obtain ⟨g275, h⟩ := of_guard h
      refine ⟨g275, ?_⟩
      obtain ⟨g274, h⟩ := of_guard h
      refine ⟨g274, ?_⟩
      refine ⟨trivial, ?_⟩
      refine ⟨fun b273 => ?_, fun b273 => ?_⟩
      · rw [if_pos (bne_t b273)] at h
        refine ⟨trivial, ?_⟩
        obtain rfl := Option.some.inj h
        exact ⟨⟨trivial, trivial, trivial⟩, rfl, rfl⟩
      · rw [if_neg (not_not_intro (bne_f b273))] at h
        refine ⟨trivial, trivial, trivial, ?_⟩
        exact ⟨⟨trivial, trivial, trivial⟩, ih (IntKind.wrap .i64 (x266 + (1 : Int))) r h⟩
    · rw [if_neg (of_decide_eq_false b272)] at h
      obtain rfl := Option.some.inj h
      exact ⟨⟨trivial, trivial, trivial⟩, rfl, rfl⟩
def halterlaw29_AlarmOnce.f (a0 : (List Int)) : Option Bool :=
  if (((List.length a0) : Nat) : Int) > (60 : Int) then
    halterlaw29_sure.f.bind fun t2 =>
    some t2
  else
    (halterlaw29_AlarmOnce.l0 a0 FUEL (List.replicate 100 (0 : Int)) ([] : List (Int × Int)) (0 : Int)).bind fun t24 =>
    match t24 with
    | .inl t35 =>
      (halterlaw29_AlarmOnce.l1 FUEL t35.1 t35.2 (1 : Int)).bind fun t160 =>
      match t160 with
      | .inl t263 =>
        (halterlaw29_AlarmOnce.l4 t263 FUEL (0 : Int)).bind fun t271 =>
        match t271 with
        | .inl t276 =>
          if (((List.length t263.2) : Nat) : Int) = (0 : Int) then
            halterlaw29_sure.f.bind fun t278 =>
            some t278
          else
            some false
        | .inr t279 =>
          some false
      | .inr t280 =>
        some false
    | .inr t282 =>
      some false
def halterlaw29_AlarmOnce.R (r : Bool) : Tm := .v (.one (.sc (.bool r)))
theorem halterlaw29_AlarmOnce.fun_ {a0 : (List Int)} {r : Bool} (h : halterlaw29_AlarmOnce.f a0 = some r) : Fun cfg 3 [.one (.fs (.int .u8) a0 false)] [] (halterlaw29_AlarmOnce.R r) [] := by
  unfold halterlaw29_AlarmOnce.f at h
  refine fun_of_run cfg_ok (f := 3) (fn := Try.f3) Try.func3 rfl (by kernel_rfl) (rs := [.tmp 2]) rfl (nt := 133) rfl (l := fin) (k := (.br (.call true [] (Bool) halterlaw29_sure.R (fun t2 => (aE 2 .nil))) (.d .no (aE 2 (.adj [.keep [0, 3, 4, 5], .co 3 true [(.pair (.int .i64) (.int .i64))], .nocap] (.alt (.sub ((List Int) × (List (Int × Int))) (fun _ => (.exit 0)) (fun t35 => ⟨[.any, .any, .any, .v (.one (.fs (.pair (.int .i64) (.int .i64)) t35.2 false)), .v (.one (.os 0 0 0 1 100 none)), .any, .any, .any, .any, .any, .any, .any, .any, .any, .any, .any, .any, .any, .any, .any, .any, .any, .any, .any, .any, .any, .any, .any, .any, .any, .any, .any, .any, .any, .any, .any, .any, .any, .any, .any, .any, .any, .any, .any, .any, .any, .any, .any, .any, .any, .any, .any, .any, .any, .any, .any, .any, .any, .any, .any, .any, .any, .any, .any, .any, .any, .any, .any, .any, .any, .any, .any, .any, .any, .any, .any, .any, .any, .any, .any, .any, .any, .any, .any, .any, .any, .any, .any, .any, .any, .any, .any, .any, .any, .any, .any, .any, .any, .any, .any, .any, .any, .any, .any, .any, .any, .any, .any, .any, .any, .any, .any, .any, .any, .any, .any, .any, .any, .any, .any, .any, .any, .any, .any, .any, .any, .any, .any, .any, .any, .any, .any, .any], [.ex false [.row 100 (.int .i64) t35.1] 3], 0⟩) (fun t35 => (aE 2 (.adj [.keep [3, 4, 10]] (.alt (.sub ((List Int) × (List (Int × Int))) (fun _ => (.exit 2)) (fun t263 => ⟨[.any, .any, .any, .v (.one (.fs (.pair (.int .i64) (.int .i64)) t263.2 false)), .v (.one (.os 0 0 0 1 100 none)), .any, .any, .any, .any, .any, .any, .any, .any, .any, .any, .any, .any, .any, .any, .any, .any, .any, .any, .any, .any, .any, .any, .any, .any, .any, .any, .any, .any, .any, .any, .any, .any, .any, .any, .any, .any, .any, .any, .any, .any, .any, .any, .any, .any, .any, .any, .any, .any, .any, .any, .any, .any, .any, .any, .any, .any, .any, .any, .any, .any, .any, .any, .any, .any, .any, .any, .any, .any, .any, .any, .any, .any, .any, .any, .any, .any, .any, .any, .any, .any, .any, .any, .any, .any, .any, .any, .any, .any, .any, .any, .any, .any, .any, .any, .any, .any, .any, .any, .any, .any, .any, .any, .any, .any, .any, .any, .any, .any, .any, .any, .any, .any, .any, .any, .any, .any, .any, .any, .any, .any, .any, .any, .any, .any, .any, .any, .any, .any], [.ex false [.row 100 (.int .i64) t263.1] 3], 0⟩) (fun t263 => (aE 2 (.adj [.keep [3, 4, 15]] (.alt (.sub (Unit) (fun _ => (.exit 6)) (fun t276 => ⟨[.any, .any, .any, .v (.one (.fs (.pair (.int .i64) (.int .i64)) t263.2 false)), .any, .any, .any, .any, .any, .any, .any, .any, .any, .any, .any, .any, .any, .any, .any, .any, .any, .any, .any, .any, .any, .any, .any, .any, .any, .any, .any, .any, .any, .any, .any, .any, .any, .any, .any, .any, .any, .any, .any, .any, .any, .any, .any, .any, .any, .any, .any, .any, .any, .any, .any, .any, .any, .any, .any, .any, .any, .any, .any, .any, .any, .any, .any, .any, .any, .any, .any, .any, .any, .any, .any, .any, .any, .any, .any, .any, .any, .any, .any, .any, .any, .any, .any, .any, .any, .any, .any, .any, .any, .any, .any, .any, .any, .any, .any, .any, .any, .any, .any, .any, .any, .any, .any, .any, .any, .any, .any, .any, .any, .any, .any, .any, .any, .any, .any, .any, .any, .any, .any, .any, .any, .any, .any, .any, .any, .any, .any, .any, .any], [.ex false [.row 100 (.int .i64) t263.1] 3], 0⟩) (fun t276 => (.br (.call true [] (Bool) halterlaw29_sure.R (fun t278 => (.one true (.adj [] (.adj [.drop 0] .nil))))) (.one false (.adj [] (.adj [.drop 0] .nil)))))) (.sub (Unit) (fun _ => .ret) (fun t279 => ⟨[.any, .any, .v (.one (.sc (.bool false))), .any, .any, .any, .any, .any, .any, .any, .any, .any, .any, .any, .any, .any, .any, .any, .any, .any, .any, .any, .any, .any, .any, .any, .any, .any, .any, .any, .any, .any, .any, .any, .any, .any, .any, .any, .any, .any, .any, .any, .any, .any, .any, .any, .any, .any, .any, .any, .any, .any, .any, .any, .any, .any, .any, .any, .any, .any, .any, .any, .any, .any, .any, .any, .any, .any, .any, .any, .any, .any, .any, .any, .any, .any, .any, .any, .any, .any, .any, .any, .any, .any, .any, .any, .any, .any, .any, .any, .any, .any, .any, .any, .any, .any, .any, .any, .any, .any, .any, .any, .any, .any, .any, .any, .any, .any, .any, .any, .any, .any, .any, .any, .any, .any, .any, .any, .any, .any, .any, .any, .any, .any, .any, .any, .any, .any, .any, .any, .any, .any, .any], [.ex false [.row 100 (.int .i64) t263.1] 3], 0⟩) (fun t279 => (.adj [.drop 0] .nil)))))))) (.sub ((List Int)) (fun _ => .ret) (fun t280 => ⟨[.any, .any, .v (.one (.sc (.bool false))), .any, .any, .any, .any, .any, .any, .any, .any, .any, .any, .any, .any, .any, .any, .any, .any, .any, .any, .any, .any, .any, .any, .any, .any, .any, .any, .any, .any, .any, .any, .any, .any, .any, .any, .any, .any, .any, .any, .any, .any, .any, .any, .any, .any, .any, .any, .any, .any, .any, .any, .any, .any, .any, .any, .any, .any, .any, .any, .any, .any, .any, .any, .any, .any, .any, .any, .any, .any, .any, .any, .any, .any, .any, .any, .any, .any, .any, .any, .any, .any, .any, .any, .any, .any, .any, .any, .any, .any, .any, .any, .any, .any, .any, .any, .any, .any, .any, .any, .any, .any, .any, .any, .any, .any, .any, .any, .any, .any, .any, .any, .any, .any, .any, .any, .any, .any, .any, .any, .any, .any, .any, .any, .any, .any, .any, .any, .any, .any, .any, .any], [.ex false [.row 100 (.int .i64) t280] 3], 0⟩) (fun t280 => (.adj [.drop 0] .nil)))))))) (.sub ((List Int)) (fun _ => .ret) (fun t282 => ⟨[.any, .any, .v (.one (.sc (.bool false))), .any, .any, .any, .any, .any, .any, .any, .any, .any, .any, .any, .any, .any, .any, .any, .any, .any, .any, .any, .any, .any, .any, .any, .any, .any, .any, .any, .any, .any, .any, .any, .any, .any, .any, .any, .any, .any, .any, .any, .any, .any, .any, .any, .any, .any, .any, .any, .any, .any, .any, .any, .any, .any, .any, .any, .any, .any, .any, .any, .any, .any, .any, .any, .any, .any, .any, .any, .any, .any, .any, .any, .any, .any, .any, .any, .any, .any, .any, .any, .any, .any, .any, .any, .any, .any, .any, .any, .any, .any, .any, .any, .any, .any, .any, .any, .any, .any, .any, .any, .any, .any, .any, .any, .any, .any, .any, .any, .any, .any, .any, .any, .any, .any, .any, .any, .any, .any, .any, .any, .any, .any, .any, .any, .any, .any, .any, .any, .any, .any, .any], [.ex false [.row 100 (.int .i64) t282] 3], 0⟩) (fun t282 => (.adj [.drop 0] .nil))))))))) (to_goal (q := (True) ∧ (True) ∧ (((decide ((((List.length a0) : Nat) : Int) > (60 : Int))) = true → (∃ t2 : Bool, (Fun cfg 5 [] [] (halterlaw29_sure.R t2) [] ∧ True) ∧ (True ∧ ((True) ∧ (True) ∧ (.v (.one (.sc (.bool t2))) : Tm) = halterlaw29_AlarmOnce.R r ∧ ([] : List Box) = [])))) ∧ ((decide ((((List.length a0) : Nat) : Int) > (60 : Int))) = false → (0 ≤ (100 : Int) ∧ (100 : Int) = (100 : Int) ∧ (8 : Int) * (100 : Int) ≤ 281474976710656 ∧ (100 : Int) ≤ 9223372036854775807) ∧ (True ∧ (True ∧ (((True) ∧ (True) ∧ (True) ∧ True) ∧ ((∃ t35 : (List Int) × (List (Int × Int)), Trip cfg (.loop (cpath (Try.f3.body.getD .skip) [1, 1, 1, 1, 0, 1, 0, 0])) ⟨[.v (.one (.fs (.int .u8) a0 false)), .any, .any, .v (.one (.fs (.pair (.int .i64) (.int .i64)) ([] : List (Int × Int)) false)), .v (.one (.os 0 0 0 1 100 none)), .v (.one (.sc (.int .i64 (0 : Int)))), .any, .any, .any, .any, .any, .any, .any, .any, .any, .any, .any, .any, .any, .any, .any, .any, .any, .any, .any, .any, .any, .any, .any, .any, .any, .any, .any, .any, .any, .any, .any, .any, .any, .any, .any, .any, .any, .any, .any, .any, .any, .any, .any, .any, .any, .any, .any, .any, .any, .any, .any, .any, .any, .any, .any, .any, .any, .any, .any, .any, .any, .any, .any, .any, .any, .any, .any, .any, .any, .any, .any, .any, .any, .any, .any, .any, .any, .any, .any, .any, .any, .any, .any, .any, .any, .any, .any, .any, .any, .any, .any, .any, .any, .any, .any, .any, .any, .any, .any, .any, .any, .any, .any, .any, .any, .any, .any, .any, .any, .any, .any, .any, .any, .any, .any, .any, .any, .any, .any, .any, .any, .any, .any, .any, .any, .any, .any], [.ex false [.row 100 (.int .i64) (List.replicate 100 (0 : Int))] 3], 0⟩ (fun e s => e = (.exit 0) ∧ s = ⟨[.any, .any, .any, .v (.one (.fs (.pair (.int .i64) (.int .i64)) t35.2 false)), .v (.one (.os 0 0 0 1 100 none)), .any, .any, .any, .any, .any, .any, .any, .any, .any, .any, .any, .any, .any, .any, .any, .any, .any, .any, .any, .any, .any, .any, .any, .any, .any, .any, .any, .any, .any, .any, .any, .any, .any, .any, .any, .any, .any, .any, .any, .any, .any, .any, .any, .any, .any, .any, .any, .any, .any, .any, .any, .any, .any, .any, .any, .any, .any, .any, .any, .any, .any, .any, .any, .any, .any, .any, .any, .any, .any, .any, .any, .any, .any, .any, .any, .any, .any, .any, .any, .any, .any, .any, .any, .any, .any, .any, .any, .any, .any, .any, .any, .any, .any, .any, .any, .any, .any, .any, .any, .any, .any, .any, .any, .any, .any, .any, .any, .any, .any, .any, .any, .any, .any, .any, .any, .any, .any, .any, .any, .any, .any, .any, .any, .any, .any, .any, .any, .any], [.ex false [.row 100 (.int .i64) t35.1] 3], 0⟩) ∧ (True ∧ (True ∧ (((True) ∧ True) ∧ ((∃ t263 : (List Int) × (List (Int × Int)), Trip cfg (.loop (cpath (Try.f3.body.getD .skip) [1, 1, 1, 1, 1, 0, 1, 0, 0])) ⟨[.any, .any, .any, .v (.one (.fs (.pair (.int .i64) (.int .i64)) t35.2 false)), .v (.one (.os 0 0 0 1 100 none)), .any, .any, .any, .any, .any, .v (.one (.sc (.int .i64 (1 : Int)))), .any, .any, .any, .any, .any, .any, .any, .any, .any, .any, .any, .any, .any, .any, .any, .any, .any, .any, .any, .any, .any, .any, .any, .any, .any, .any, .any, .any, .any, .any, .any, .any, .any, .any, .any, .any, .any, .any, .any, .any, .any, .any, .any, .any, .any, .any, .any, .any, .any, .any, .any, .any, .any, .any, .any, .any, .any, .any, .any, .any, .any, .any, .any, .any, .any, .any, .any, .any, .any, .any, .any, .any, .any, .any, .any, .any, .any, .any, .any, .any, .any, .any, .any, .any, .any, .any, .any, .any, .any, .any, .any, .any, .any, .any, .any, .any, .any, .any, .any, .any, .any, .any, .any, .any, .any, .any, .any, .any, .any, .any, .any, .any, .any, .any, .any, .any, .any, .any, .any, .any, .any, .any], [.ex false [.row 100 (.int .i64) t35.1] 3], 0⟩ (fun e s => e = (.exit 2) ∧ s = ⟨[.any, .any, .any, .v (.one (.fs (.pair (.int .i64) (.int .i64)) t263.2 false)), .v (.one (.os 0 0 0 1 100 none)), .any, .any, .any, .any, .any, .any, .any, .any, .any, .any, .any, .any, .any, .any, .any, .any, .any, .any, .any, .any, .any, .any, .any, .any, .any, .any, .any, .any, .any, .any, .any, .any, .any, .any, .any, .any, .any, .any, .any, .any, .any, .any, .any, .any, .any, .any, .any, .any, .any, .any, .any, .any, .any, .any, .any, .any, .any, .any, .any, .any, .any, .any, .any, .any, .any, .any, .any, .any, .any, .any, .any, .any, .any, .any, .any, .any, .any, .any, .any, .any, .any, .any, .any, .any, .any, .any, .any, .any, .any, .any, .any, .any, .any, .any, .any, .any, .any, .any, .any, .any, .any, .any, .any, .any, .any, .any, .any, .any, .any, .any, .any, .any, .any, .any, .any, .any, .any, .any, .any, .any, .any, .any, .any, .any, .any, .any, .any, .any], [.ex false [.row 100 (.int .i64) t263.1] 3], 0⟩) ∧ (True ∧ (True ∧ (((True) ∧ True) ∧ ((∃ t276 : Unit, Trip cfg (.loop (cpath (Try.f3.body.getD .skip) [1, 1, 1, 1, 1, 1, 0, 1, 0, 0])) ⟨[.any, .any, .any, .v (.one (.fs (.pair (.int .i64) (.int .i64)) t263.2 false)), .v (.one (.os 0 0 0 1 100 none)), .any, .any, .any, .any, .any, .any, .any, .any, .any, .any, .v (.one (.sc (.int .i64 (0 : Int)))), .any, .any, .any, .any, .any, .any, .any, .any, .any, .any, .any, .any, .any, .any, .any, .any, .any, .any, .any, .any, .any, .any, .any, .any, .any, .any, .any, .any, .any, .any, .any, .any, .any, .any, .any, .any, .any, .any, .any, .any, .any, .any, .any, .any, .any, .any, .any, .any, .any, .any, .any, .any, .any, .any, .any, .any, .any, .any, .any, .any, .any, .any, .any, .any, .any, .any, .any, .any, .any, .any, .any, .any, .any, .any, .any, .any, .any, .any, .any, .any, .any, .any, .any, .any, .any, .any, .any, .any, .any, .any, .any, .any, .any, .any, .any, .any, .any, .any, .any, .any, .any, .any, .any, .any, .any, .any, .any, .any, .any, .any, .any, .any, .any, .any, .any, .any, .any], [.ex false [.row 100 (.int .i64) t263.1] 3], 0⟩ (fun e s => e = (.exit 6) ∧ s = ⟨[.any, .any, .any, .v (.one (.fs (.pair (.int .i64) (.int .i64)) t263.2 false)), .any, .any, .any, .any, .any, .any, .any, .any, .any, .any, .any, .any, .any, .any, .any, .any, .any, .any, .any, .any, .any, .any, .any, .any, .any, .any, .any, .any, .any, .any, .any, .any, .any, .any, .any, .any, .any, .any, .any, .any, .any, .any, .any, .any, .any, .any, .any, .any, .any, .any, .any, .any, .any, .any, .any, .any, .any, .any, .any, .any, .any, .any, .any, .any, .any, .any, .any, .any, .any, .any, .any, .any, .any, .any, .any, .any, .any, .any, .any, .any, .any, .any, .any, .any, .any, .any, .any, .any, .any, .any, .any, .any, .any, .any, .any, .any, .any, .any, .any, .any, .any, .any, .any, .any, .any, .any, .any, .any, .any, .any, .any, .any, .any, .any, .any, .any, .any, .any, .any, .any, .any, .any, .any, .any, .any, .any, .any, .any, .any], [.ex false [.row 100 (.int .i64) t263.1] 3], 0⟩) ∧ (True) ∧ (True) ∧ ((((((List.length t263.2) : Nat) : Int) == (0 : Int)) = true → (∃ t278 : Bool, (Fun cfg 5 [] [] (halterlaw29_sure.R t278) [] ∧ True) ∧ (((((List.length t263.2) : Nat) : Int) == (0 : Int)) = true ∧ (True ∧ ((True) ∧ ((True) ∧ True) ∧ (.v (.one (.sc (.bool t278))) : Tm) = halterlaw29_AlarmOnce.R r ∧ ([] : List Box) = []))))) ∧ (((((List.length t263.2) : Nat) : Int) == (0 : Int)) = false → (((((List.length t263.2) : Nat) : Int) == (0 : Int)) = false ∧ (True ∧ ((True) ∧ ((True) ∧ True) ∧ (.v (.one (.sc (.bool false))) : Tm) = halterlaw29_AlarmOnce.R r ∧ ([] : List Box) = [])))))) ∨ (∃ t279 : Unit, Trip cfg (.loop (cpath (Try.f3.body.getD .skip) [1, 1, 1, 1, 1, 1, 0, 1, 0, 0])) ⟨[.any, .any, .any, .v (.one (.fs (.pair (.int .i64) (.int .i64)) t263.2 false)), .v (.one (.os 0 0 0 1 100 none)), .any, .any, .any, .any, .any, .any, .any, .any, .any, .any, .v (.one (.sc (.int .i64 (0 : Int)))), .any, .any, .any, .any, .any, .any, .any, .any, .any, .any, .any, .any, .any, .any, .any, .any, .any, .any, .any, .any, .any, .any, .any, .any, .any, .any, .any, .any, .any, .any, .any, .any, .any, .any, .any, .any, .any, .any, .any, .any, .any, .any, .any, .any, .any, .any, .any, .any, .any, .any, .any, .any, .any, .any, .any, .any, .any, .any, .any, .any, .any, .any, .any, .any, .any, .any, .any, .any, .any, .any, .any, .any, .any, .any, .any, .any, .any, .any, .any, .any, .any, .any, .any, .any, .any, .any, .any, .any, .any, .any, .any, .any, .any, .any, .any, .any, .any, .any, .any, .any, .any, .any, .any, .any, .any, .any, .any, .any, .any, .any, .any, .any, .any, .any, .any, .any, .any], [.ex false [.row 100 (.int .i64) t263.1] 3], 0⟩ (fun e s => e = .ret ∧ s = ⟨[.any, .any, .v (.one (.sc (.bool false))), .any, .any, .any, .any, .any, .any, .any, .any, .any, .any, .any, .any, .any, .any, .any, .any, .any, .any, .any, .any, .any, .any, .any, .any, .any, .any, .any, .any, .any, .any, .any, .any, .any, .any, .any, .any, .any, .any, .any, .any, .any, .any, .any, .any, .any, .any, .any, .any, .any, .any, .any, .any, .any, .any, .any, .any, .any, .any, .any, .any, .any, .any, .any, .any, .any, .any, .any, .any, .any, .any, .any, .any, .any, .any, .any, .any, .any, .any, .any, .any, .any, .any, .any, .any, .any, .any, .any, .any, .any, .any, .any, .any, .any, .any, .any, .any, .any, .any, .any, .any, .any, .any, .any, .any, .any, .any, .any, .any, .any, .any, .any, .any, .any, .any, .any, .any, .any, .any, .any, .any, .any, .any, .any, .any, .any, .any, .any, .any, .any, .any], [.ex false [.row 100 (.int .i64) t263.1] 3], 0⟩) ∧ ((True) ∧ ((True) ∧ True) ∧ (.v (.one (.sc (.bool false))) : Tm) = halterlaw29_AlarmOnce.R r ∧ ([] : List Box) = []))))))) ∨ (∃ t280 : (List Int), Trip cfg (.loop (cpath (Try.f3.body.getD .skip) [1, 1, 1, 1, 1, 0, 1, 0, 0])) ⟨[.any, .any, .any, .v (.one (.fs (.pair (.int .i64) (.int .i64)) t35.2 false)), .v (.one (.os 0 0 0 1 100 none)), .any, .any, .any, .any, .any, .v (.one (.sc (.int .i64 (1 : Int)))), .any, .any, .any, .any, .any, .any, .any, .any, .any, .any, .any, .any, .any, .any, .any, .any, .any, .any, .any, .any, .any, .any, .any, .any, .any, .any, .any, .any, .any, .any, .any, .any, .any, .any, .any, .any, .any, .any, .any, .any, .any, .any, .any, .any, .any, .any, .any, .any, .any, .any, .any, .any, .any, .any, .any, .any, .any, .any, .any, .any, .any, .any, .any, .any, .any, .any, .any, .any, .any, .any, .any, .any, .any, .any, .any, .any, .any, .any, .any, .any, .any, .any, .any, .any, .any, .any, .any, .any, .any, .any, .any, .any, .any, .any, .any, .any, .any, .any, .any, .any, .any, .any, .any, .any, .any, .any, .any, .any, .any, .any, .any, .any, .any, .any, .any, .any, .any, .any, .any, .any, .any, .any], [.ex false [.row 100 (.int .i64) t35.1] 3], 0⟩ (fun e s => e = .ret ∧ s = ⟨[.any, .any, .v (.one (.sc (.bool false))), .any, .any, .any, .any, .any, .any, .any, .any, .any, .any, .any, .any, .any, .any, .any, .any, .any, .any, .any, .any, .any, .any, .any, .any, .any, .any, .any, .any, .any, .any, .any, .any, .any, .any, .any, .any, .any, .any, .any, .any, .any, .any, .any, .any, .any, .any, .any, .any, .any, .any, .any, .any, .any, .any, .any, .any, .any, .any, .any, .any, .any, .any, .any, .any, .any, .any, .any, .any, .any, .any, .any, .any, .any, .any, .any, .any, .any, .any, .any, .any, .any, .any, .any, .any, .any, .any, .any, .any, .any, .any, .any, .any, .any, .any, .any, .any, .any, .any, .any, .any, .any, .any, .any, .any, .any, .any, .any, .any, .any, .any, .any, .any, .any, .any, .any, .any, .any, .any, .any, .any, .any, .any, .any, .any, .any, .any, .any, .any, .any, .any], [.ex false [.row 100 (.int .i64) t280] 3], 0⟩) ∧ ((True) ∧ ((True) ∧ True) ∧ (.v (.one (.sc (.bool false))) : Tm) = halterlaw29_AlarmOnce.R r ∧ ([] : List Box) = []))))))) ∨ (∃ t282 : (List Int), Trip cfg (.loop (cpath (Try.f3.body.getD .skip) [1, 1, 1, 1, 0, 1, 0, 0])) ⟨[.v (.one (.fs (.int .u8) a0 false)), .any, .any, .v (.one (.fs (.pair (.int .i64) (.int .i64)) ([] : List (Int × Int)) false)), .v (.one (.os 0 0 0 1 100 none)), .v (.one (.sc (.int .i64 (0 : Int)))), .any, .any, .any, .any, .any, .any, .any, .any, .any, .any, .any, .any, .any, .any, .any, .any, .any, .any, .any, .any, .any, .any, .any, .any, .any, .any, .any, .any, .any, .any, .any, .any, .any, .any, .any, .any, .any, .any, .any, .any, .any, .any, .any, .any, .any, .any, .any, .any, .any, .any, .any, .any, .any, .any, .any, .any, .any, .any, .any, .any, .any, .any, .any, .any, .any, .any, .any, .any, .any, .any, .any, .any, .any, .any, .any, .any, .any, .any, .any, .any, .any, .any, .any, .any, .any, .any, .any, .any, .any, .any, .any, .any, .any, .any, .any, .any, .any, .any, .any, .any, .any, .any, .any, .any, .any, .any, .any, .any, .any, .any, .any, .any, .any, .any, .any, .any, .any, .any, .any, .any, .any, .any, .any, .any, .any, .any, .any], [.ex false [.row 100 (.int .i64) (List.replicate 100 (0 : Int))] 3], 0⟩ (fun e s => e = .ret ∧ s = ⟨[.any, .any, .v (.one (.sc (.bool false))), .any, .any, .any, .any, .any, .any, .any, .any, .any, .any, .any, .any, .any, .any, .any, .any, .any, .any, .any, .any, .any, .any, .any, .any, .any, .any, .any, .any, .any, .any, .any, .any, .any, .any, .any, .any, .any, .any, .any, .any, .any, .any, .any, .any, .any, .any, .any, .any, .any, .any, .any, .any, .any, .any, .any, .any, .any, .any, .any, .any, .any, .any, .any, .any, .any, .any, .any, .any, .any, .any, .any, .any, .any, .any, .any, .any, .any, .any, .any, .any, .any, .any, .any, .any, .any, .any, .any, .any, .any, .any, .any, .any, .any, .any, .any, .any, .any, .any, .any, .any, .any, .any, .any, .any, .any, .any, .any, .any, .any, .any, .any, .any, .any, .any, .any, .any, .any, .any, .any, .any, .any, .any, .any, .any, .any, .any, .any, .any, .any, .any], [.ex false [.row 100 (.int .i64) t282] 3], 0⟩) ∧ ((True) ∧ ((True) ∧ True) ∧ (.v (.one (.sc (.bool false))) : Tm) = halterlaw29_AlarmOnce.R r ∧ ([] : List Box) = []))))))))) (by kernel_rfl) ?_)
  refine ⟨trivial, trivial, ?_⟩
  refine ⟨fun b1 => ?_, fun b1 => ?_⟩
  · rw [if_pos (of_decide_eq_true b1)] at h
    obtain ⟨t2, ht2, h⟩ := of_bind h
    refine ⟨t2, ⟨halterlaw29_sure.fun_ ht2, trivial⟩, ?_⟩
    refine ⟨trivial, ?_⟩
    obtain rfl := Option.some.inj h
    exact ⟨trivial, trivial, rfl, rfl⟩
  · rw [if_neg (of_decide_eq_false b1)] at h
    refine ⟨(by decide), ?_⟩
    refine ⟨trivial, trivial, ?_⟩
    obtain ⟨t24, ht24, h⟩ := of_bind h
    refine ⟨⟨trivial, trivial, trivial, trivial⟩, ?_⟩
    rcases t24 with t35 | t282
    · dsimp only at h
      left
      refine ⟨t35, Trip.loop FUEL (halterlaw29_AlarmOnce.l0_ok a0 FUEL (List.replicate 100 (0 : Int)) ([] : List (Int × Int)) (0 : Int) (.inl t35) ht24), ?_⟩
      refine ⟨trivial, trivial, ?_⟩
      obtain ⟨t160, ht160, h⟩ := of_bind h
      refine ⟨⟨trivial, trivial⟩, ?_⟩
      rcases t160 with t263 | t280
      · dsimp only at h
        left
        refine ⟨t263, Trip.loop FUEL (halterlaw29_AlarmOnce.l1_ok FUEL t35.1 t35.2 (1 : Int) (.inl t263) ht160), ?_⟩
        refine ⟨trivial, trivial, ?_⟩
        obtain ⟨t271, ht271, h⟩ := of_bind h
        refine ⟨⟨trivial, trivial⟩, ?_⟩
        rcases t271 with t276 | t279
        · dsimp only at h
          left
          refine ⟨t276, Trip.loop FUEL (halterlaw29_AlarmOnce.l4_ok t263 FUEL (0 : Int) (.inl t276) ht271), ?_⟩
          refine ⟨trivial, trivial, ?_⟩
          refine ⟨fun b277 => ?_, fun b277 => ?_⟩
          · rw [if_pos (beq_t b277)] at h
            obtain ⟨t278, ht278, h⟩ := of_bind h
            refine ⟨t278, ⟨halterlaw29_sure.fun_ ht278, trivial⟩, ?_⟩
            refine ⟨b277, ?_⟩
            refine ⟨trivial, ?_⟩
            obtain rfl := Option.some.inj h
            exact ⟨trivial, ⟨trivial, trivial⟩, rfl, rfl⟩
          · rw [if_neg (beq_f b277)] at h
            refine ⟨b277, ?_⟩
            refine ⟨trivial, ?_⟩
            obtain rfl := Option.some.inj h
            exact ⟨trivial, ⟨trivial, trivial⟩, rfl, rfl⟩
        · dsimp only at h
          right
          refine ⟨t279, Trip.loop FUEL (halterlaw29_AlarmOnce.l4_ok t263 FUEL (0 : Int) (.inr t279) ht271), ?_⟩
          obtain rfl := Option.some.inj h
          exact ⟨trivial, ⟨trivial, trivial⟩, rfl, rfl⟩
      · dsimp only at h
        right
        refine ⟨t280, Trip.loop FUEL (halterlaw29_AlarmOnce.l1_ok FUEL t35.1 t35.2 (1 : Int) (.inr t280) ht160), ?_⟩
        obtain rfl := Option.some.inj h
        exact ⟨trivial, ⟨trivial, trivial⟩, rfl, rfl⟩
    · dsimp only at h
      right
      refine ⟨t282, Trip.loop FUEL (halterlaw29_AlarmOnce.l0_ok a0 FUEL (List.replicate 100 (0 : Int)) ([] : List (Int × Int)) (0 : Int) (.inr t282) ht24), ?_⟩
      obtain rfl := Option.some.inj h
      exact ⟨trivial, ⟨trivial, trivial⟩, rfl, rfl⟩
end Go.Proofs.YtjpabbkcbohmmaaGAlarmOnce
