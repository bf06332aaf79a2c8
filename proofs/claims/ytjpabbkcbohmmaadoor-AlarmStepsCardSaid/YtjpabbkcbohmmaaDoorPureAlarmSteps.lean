/- The plain law: what the law computes is true, whatever it is handed. -/
import Derived.Test.YtjpabbkcbohmmaaDoorGAlarmSteps
import Derived.Test.YtjpabbkcbohmmaaDoorE16
set_option linter.unusedVariables false
set_option linter.unusedSimpArgs false
set_option linter.unnecessarySimpa false
namespace Go.Proofs.YtjpabbkcbohmmaaDoor.Pure
open Go Go.Proofs.YtjpabbkcbohmmaaDoorE Go.Proofs.YtjpabbkcbohmmaaDoorGAlarmSteps
theorem wu8 (x : Int) : IntKind.wrap .u8 x = x % 256 := by simp [IntKind.wrap, IntKind.bits, IntKind.signed]
theorem wu16 (x : Int) : IntKind.wrap .u16 x = x % 65536 := by simp [IntKind.wrap, IntKind.bits, IntKind.signed]
theorem wu32 (x : Int) : IntKind.wrap .u32 x = x % 4294967296 := by simp [IntKind.wrap, IntKind.bits, IntKind.signed]
theorem wu64 (x : Int) : IntKind.wrap .u64 x = x % 18446744073709551616 := by simp [IntKind.wrap, IntKind.bits, IntKind.signed]
theorem wi64 {x : Int} (h : -9223372036854775808 ≤ x) (h' : x ≤ 9223372036854775807) : IntKind.wrap .i64 x = x := by
  simp [IntKind.wrap, IntKind.bits, IntKind.signed]
  omega
theorem wu8_id {x : Int} (h : 0 ≤ x ∧ x < 256) : IntKind.wrap .u8 x = x := by rw [wu8]; omega
theorem wu32_id {x : Int} (h : 0 ≤ x ∧ x < 4294967296) : IntKind.wrap .u32 x = x := by rw [wu32]; omega
theorem wu64_id {x : Int} (h : 0 ≤ x ∧ x < 18446744073709551616) : IntKind.wrap .u64 x = x := by rw [wu64]; omega
theorem wsucc {i : Nat} (h : i < 9223372036854775807) : IntKind.wrap .i64 ((i : Int) + 1) = ((i + 1 : Nat) : Int) := by rw [wi64 (by omega) (by omega)]; omega
theorem u8_bd {a : Int} (h : (Lit.int .u8 a).wf = true) : 0 ≤ a ∧ a < 256 := by
  simpa [Lit.wf, IntKind.min, IntKind.max, IntKind.signed, IntKind.bits, ← Int.lt_add_one_iff] using h
theorem u32_bd {a : Int} (h : (Lit.int .u32 a).wf = true) : 0 ≤ a ∧ a < 4294967296 := by
  simpa [Lit.wf, IntKind.min, IntKind.max, IntKind.signed, IntKind.bits, ← Int.lt_add_one_iff] using h
theorem u64_bd {a : Int} (h : (Lit.int .u64 a).wf = true) : 0 ≤ a ∧ a < 18446744073709551616 := by
  simpa [Lit.wf, IntKind.min, IntKind.max, IntKind.signed, IntKind.bits, ← Int.lt_add_one_iff] using h
theorem i64_bd {a : Int} (h : (Lit.int .i64 a).wf = true) : -9223372036854775808 ≤ a ∧ a < 9223372036854775808 := by
  simpa [Lit.wf, IntKind.min, IntKind.max, IntKind.signed, IntKind.bits, ← Int.lt_add_one_iff] using h
theorem fuel_gt {n : Nat} (h : n < 18446744073709551616) : n < FUEL := h
theorem bind_go {α β : Type} (a : α) (f : α → Option β) : (some a).bind f = f a := by rw [Option.bind_some]
theorem drop_getD {α : Type} (l : List α) (i : Nat) (d : α) (h : i < l.length) : l.drop i = l.getD i d :: l.drop (i + 1) := by
  rw [List.drop_eq_getElem_cons h, List.getD_eq_getElem?_getD, List.getElem?_eq_getElem h, Option.getD_some]
theorem getD_mem {α : Type} (l : List α) (i : Nat) (d : α) (h : i < l.length) : l.getD i d ∈ l := by
  rw [List.getD_eq_getElem?_getD, List.getElem?_eq_getElem h, Option.getD_some]; exact List.getElem_mem _
theorem toNat_nat (i : Nat) : Int.toNat (i : Int) = i := rfl
/-- A number behind another one: a round of a loop. -/
theorem fuel_step {d n : Nat} (h : d < n) : ∃ m, n = m + 1 := ⟨n - 1, by omega⟩
/-- Where something stands first. -/
def first (v : Int) : List Int → Option Nat
  | [] => none
  | x :: xs => if x = v then some 0 else (first v xs).map (· + 1)
theorem first_none {v : Int} : ∀ {l : List Int}, first v l = none → ∀ z ∈ l, z ≠ v
  | [], _, z, hz => by cases hz
  | x :: xs, h, z, hz => by
    unfold first at h
    split at h
    · cases h
    · rename_i hx
      rcases List.mem_cons.1 hz with rfl | hz
      · exact hx
      · exact first_none (by simpa using h) z hz
theorem first_some {v : Int} : ∀ {l : List Int} {k : Nat}, first v l = some k → k < l.length ∧ l.getD k 0 = v ∧ ∀ j, j < k → l.getD j 0 ≠ v
  | [], _, h => by cases h
  | x :: xs, k, h => by
    unfold first at h
    split at h
    · cases h
      rename_i hx
      exact ⟨by simp, by simpa using hx, fun j hj => by omega⟩
    · rename_i hx
      cases hf : first v xs with
      | none => simp [hf] at h
      | some m =>
        simp [hf] at h
        subst h
        obtain ⟨h1, h2, h3⟩ := first_some hf
        refine ⟨by simp; omega, by simpa using h2, fun j hj => ?_⟩
        cases j with
        | zero => simpa using hx
        | succ j => simpa using h3 j (by omega)

/-- Alarms that may be, behind a number. -/
def chk : Int → List (Int × Int) → Bool
  | _, [] => true
  | p, a :: r => decide (p < a.1 ∧ 1 ≤ a.1 ∧ a.1 ≤ 99 ∧ 1 ≤ a.2 ∧ a.2 ≤ 1099511627776) && chk a.1 r
theorem chk_cons {p : Int} {a : Int × Int} {r : List (Int × Int)} : chk p (a :: r) = true ↔ (p < a.1 ∧ 1 ≤ a.1 ∧ a.1 ≤ 99 ∧ 1 ≤ a.2 ∧ a.2 ≤ 1099511627776) ∧ chk a.1 r = true := by simp [chk]
theorem chk_mem : ∀ {l : List (Int × Int)} {p : Int}, chk p l = true → ∀ a ∈ l, p < a.1 ∧ 1 ≤ a.1 ∧ a.1 ≤ 99 ∧ 1 ≤ a.2 ∧ a.2 ≤ 1099511627776
  | [], _, _, a, ha => by cases ha
  | x :: r, p, h, a, ha => by
    obtain ⟨h1, h2⟩ := chk_cons.1 h
    rcases List.mem_cons.1 ha with rfl | ha
    · exact h1
    · have := chk_mem h2 a ha
      omega
theorem chk_len : ∀ {l : List (Int × Int)} {p : Int}, chk p l = true → 0 ≤ p → p ≤ 99 → (l.length : Int) ≤ 99 - p
  | [], p, _, _, h => by simp; omega
  | x :: r, p, h, h0, _ => by
    obtain ⟨h1, h2⟩ := chk_cons.1 h
    have := chk_len h2 (by omega) (by omega)
    simp; omega
theorem chk_le : ∀ {l : List (Int × Int)} {p q : Int}, chk p l = true → q ≤ p → chk q l = true
  | [], _, _, _, _ => rfl
  | x :: r, p, q, h, hq => by
    obtain ⟨h1, h2⟩ := chk_cons.1 h
    exact chk_cons.2 ⟨by omega, h2⟩
/-- Around a number. -/
theorem chk_split (p : Int) : ∀ {l : List (Int × Int)} {q : Int}, chk q l = true → ∃ A M B, l = A ++ (M ++ B) ∧ (∀ a ∈ A, a.1 < p) ∧ (∀ b ∈ B, p < b.1) ∧ (M = [] ∨ ∃ w, M = [(p, w)])
  | [], _, _ => ⟨[], [], [], rfl, fun _ h => (by cases h), fun _ h => (by cases h), .inl rfl⟩
  | x :: r, q, h => by
    obtain ⟨h1, h2⟩ := chk_cons.1 h
    rcases Int.lt_trichotomy x.1 p with hx | hx | hx
    · obtain ⟨A, M, B, e, hA, hB, hM⟩ := chk_split p h2
      exact ⟨x :: A, M, B, by rw [e]; rfl, fun a ha => by
        rcases List.mem_cons.1 ha with rfl | ha
        · exact hx
        · exact hA a ha, hB, hM⟩
    · refine ⟨[], [x], r, rfl, fun _ h => (by cases h), fun b hb => ?_, .inr ⟨x.2, ?_⟩⟩
      · have := chk_mem h2 b hb; omega
      · rw [← hx]
    · refine ⟨[], [], x :: r, rfl, fun _ h => (by cases h), fun b hb => ?_, .inl rfl⟩
      rcases List.mem_cons.1 hb with rfl | hb
      · exact hx
      · have := chk_mem h2 b hb; omega
theorem chk_join {p : Int} {N : List (Int × Int)} (hN : ∀ q, q < p → ∀ B, (∀ b ∈ B, p < b.1) → chk q B = true → chk q (N ++ B) = true) : ∀ {A M B : List (Int × Int)} {q : Int}, chk q (A ++ (M ++ B)) = true → (∀ a ∈ A, a.1 < p) → (∀ b ∈ B, p < b.1) → q < p → (M = [] ∨ ∃ w, M = [(p, w)]) → chk q (A ++ (N ++ B)) = true
  | [], M, B, q, h, _, hB, hq, hM => by
    refine hN q hq B hB ?_
    rcases hM with rfl | ⟨w, rfl⟩
    · exact h
    · exact chk_le (chk_cons.1 h).2 (by show q ≤ p; omega)
  | x :: A, M, B, q, h, hA, hB, hq, hM => by
    obtain ⟨h1, h2⟩ := chk_cons.1 h
    exact chk_cons.2 ⟨h1, chk_join hN h2 (fun a ha => hA a (List.mem_cons_of_mem _ ha)) hB (hA x (List.mem_cons_self ..)) hM⟩
theorem chk_take : ∀ {A B : List (Int × Int)} {q : Int}, chk q (A ++ B) = true → chk q A = true
  | [], _, _, _ => rfl
  | x :: A, B, q, h => by
    obtain ⟨h1, h2⟩ := chk_cons.1 h
    exact chk_cons.2 ⟨h1, chk_take h2⟩

theorem pids_Check_eq (x : Int) : pids_Check.f x = some (if 1 ≤ x ∧ x ≤ 99 then none else some 22) := by
  unfold pids_Check.f
  by_cases h1 : x < 1
  · rw [if_pos h1, if_neg (by omega)]
  · rw [if_neg h1]
    by_cases h2 : x > 99
    · rw [if_pos h2, if_neg (by omega)]
    · rw [if_neg h2, if_pos (by omega)]

def prevP (l : List (Int × Int)) (i : Nat) : Int := if i = 0 then 0 else (l.getD (i - 1) ((0 : Int), (0 : Int))).1

theorem check_loop (l : List (Int × Int)) (hl : l.length ≤ 1000) : ∀ (d i n : Nat), i + d = l.length → d < n → alarm_Check.l0 l n (i : Int) = some (if chk (prevP l i) (l.drop i) = true then .inl () else .inr ()) := by
  intro d
  induction d with
  | zero =>
    intro i n hi hn
    obtain ⟨m, rfl⟩ := fuel_step hn
    unfold alarm_Check.l0
    rw [if_neg (by omega), List.drop_eq_nil_of_le (by omega)]
    rfl
  | succ d ih =>
    intro i n hi hn
    obtain ⟨m, rfl⟩ := fuel_step hn
    have hlt : i < l.length := by omega
    have ih := ih (i + 1) m (by omega) (by omega)
    unfold alarm_Check.l0
    rw [if_pos (by omega), if_pos (by omega), toNat_nat, pids_Check_eq, bind_go, drop_getD l i ((0 : Int), (0 : Int)) hlt, wsucc (by omega)]
    have hp : prevP l (i + 1) = (l.getD i ((0 : Int), (0 : Int))).1 := by unfold prevP; rw [if_neg (by omega)]; rfl
    rw [hp] at ih
    generalize hx : l.getD i ((0 : Int), (0 : Int)) = x at ih
    by_cases h1 : 1 ≤ x.1 ∧ x.1 ≤ 99
    · rw [if_pos h1, if_neg (fun h => h rfl)]
      by_cases h2 : x.2 < 1
      · rw [if_pos h2, if_neg (fun h => by have := (chk_cons.1 h).1; omega)]
      · rw [if_neg h2]
        by_cases h3 : x.2 > 1099511627776
        · rw [if_pos h3, if_neg (fun h => by have := (chk_cons.1 h).1; omega)]
        · rw [if_neg h3]
          have key : prevP l i < x.1 → alarm_Check.l0 l m ((i + 1 : Nat) : Int) = some (if chk (prevP l i) (x :: l.drop (i + 1)) = true then .inl () else .inr ()) := fun h4 => by
            rw [ih]
            congr 1
            have e : chk (prevP l i) (x :: l.drop (i + 1)) = chk x.1 (l.drop (i + 1)) := by
              show (decide _ && _) = _
              rw [decide_eq_true (by omega), Bool.true_and]
            rw [e]
          by_cases h4 : i = 0
          · rw [if_neg (by omega)]
            exact key (by unfold prevP; rw [if_pos h4]; omega)
          · have hpv : prevP l i = (l.getD (i - 1) ((0 : Int), (0 : Int))).1 := by unfold prevP; rw [if_neg h4]
            have hw : IntKind.wrap .i64 ((i : Int) - 1) = ((i - 1 : Nat) : Int) := by rw [wi64 (by omega) (by omega)]; omega
            rw [if_pos (show (i : Int) > 0 by omega), hw, if_pos (by omega), toNat_nat, ← hpv]
            by_cases h5 : prevP l i ≥ x.1
            · rw [if_pos h5, if_neg (fun h => by have := (chk_cons.1 h).1; omega)]
            · rw [if_neg h5]
              exact key (by omega)
    · rw [if_neg h1, if_pos (by simp), if_neg (fun h => by have := (chk_cons.1 h).1; omega)]

theorem Check_eq (l : List (Int × Int)) (hl : l.length ≤ 1000) : alarm_Check.f l = some (if chk 0 l = true then none else some 22) := by
  unfold alarm_Check.f
  have h : alarm_Check.l0 l FUEL (0 : Int) = some (if chk 0 l = true then .inl () else .inr ()) := check_loop l hl l.length 0 FUEL (by omega) (fuel_gt (by omega))
  rw [h, bind_go]
  by_cases hc : chk 0 l = true
  · rw [if_pos hc]; simp only [if_pos hc]
  · rw [if_neg hc]; simp only [if_neg hc]

theorem timed_eq (x : Int) : alarm_timed.f x = some (decide (0 ≤ x ∧ x ≤ 549755813888)) := by
  unfold alarm_timed.f
  by_cases h : x ≥ 0
  · rw [if_pos h]
    congr 1
    apply decide_eq_decide.2
    omega
  · rw [if_neg h, decide_eq_false (by omega)]

theorem Clone_eq (l : List (Int × Int)) (hl : l.length ≤ 1000) : slices_Clone_alarm_Alarm_alarm_Alarm.f l = some l := by
  unfold slices_Clone_alarm_Alarm_alarm_Alarm.f
  have h : True ∧ 0 = 0 ∧ 0 = 0 ∧ ((0 + l.length) * 16 ≤ 140737488355328 ∧ 0 + l.length ≤ 9223372036854775807) := ⟨trivial, rfl, rfl, by omega, by omega⟩
  rw [if_pos h]
  cases l with
  | nil => rfl
  | cons x r => rw [if_neg (by simp)]; rfl

def max0 (x : Int) : Int := if x > 0 then x else 0

theorem upd_eq (a w p now left : Int) (h1 : 1 ≤ w) (h2 : w ≤ 1099511627776) (h3 : 0 ≤ now) (h4 : now ≤ 549755813888) : alarm_Set_1.f a w p now left = some (a == p, if a = p then max0 (w - now) else left) := by
  unfold alarm_Set_1.f
  rw [wi64 (by omega) (by omega)]
  by_cases h : a = p
  · rw [if_pos h, if_pos h]; rfl
  · rw [if_neg h, if_neg h]

theorem getD_app {α : Type} (C R : List α) (b d : α) : (C ++ b :: R).getD C.length d = b := by simp [List.getD_eq_getElem?_getD]

theorem idx_skip (l : List (Int × Int)) (p now left : Int) (h3 : 0 ≤ now) (h4 : now ≤ 549755813888) (hl : l.length ≤ 1000) : ∀ (D C R : List (Int × Int)) (n : Nat), l = C ++ (D ++ R) → (∀ b ∈ D, b.1 ≠ p ∧ 1 ≤ b.2 ∧ b.2 ≤ 1099511627776) →
    slices_IndexFunc_alarm_Alarm_alarm_Alarm.l0 l p now (n + D.length) left (C.length : Int) = slices_IndexFunc_alarm_Alarm_alarm_Alarm.l0 l p now n left ((C.length + D.length : Nat) : Int)
  | [], C, R, n, _, _ => rfl
  | b :: D, C, R, n, e, hD => by
    have hlt : C.length < l.length := by rw [e]; simp
    obtain ⟨g1, g2, g3⟩ := hD b (List.mem_cons_self ..)
    have hb : l.getD C.length ((0 : Int), (0 : Int)) = b := by rw [e]; exact getD_app C (D ++ R) b _
    rw [show n + (b :: D).length = (n + D.length) + 1 by simp; omega]
    conv => lhs; unfold slices_IndexFunc_alarm_Alarm_alarm_Alarm.l0
    rw [if_pos (by omega), if_pos (by omega), toNat_nat, hb, upd_eq _ _ _ _ _ g2 g3 h3 h4, bind_go]
    rw [if_neg (show ¬ ((b.1 == p) = true) by simpa using g1), if_neg g1, wsucc (by omega)]
    have ih := idx_skip l p now left h3 h4 hl D (C ++ [b]) R n (by rw [e]; simp) (fun c hc => hD c (List.mem_cons_of_mem _ hc))
    rw [List.length_append] at ih
    simp only [List.length_singleton] at ih
    rw [ih]
    congr 2
    simp; omega

theorem Index_none (l : List (Int × Int)) (p now : Int) (h3 : 0 ≤ now) (h4 : now ≤ 549755813888) (hl : l.length ≤ 1000) (hD : ∀ b ∈ l, b.1 ≠ p ∧ 1 ≤ b.2 ∧ b.2 ≤ 1099511627776) : slices_IndexFunc_alarm_Alarm_alarm_Alarm.f l p now 0 = some (-1, 0) := by
  unfold slices_IndexFunc_alarm_Alarm_alarm_Alarm.f
  have h := idx_skip l p now 0 h3 h4 hl l [] [] (FUEL - l.length) (by simp) hD
  rw [Nat.sub_add_cancel (Nat.le_of_lt (fuel_gt (by omega)))] at h
  have h : slices_IndexFunc_alarm_Alarm_alarm_Alarm.l0 l p now FUEL 0 (0 : Int) = _ := h
  rw [h]
  obtain ⟨m, hm⟩ : ∃ m, FUEL - l.length = m + 1 := ⟨FUEL - l.length - 1, by have := fuel_gt (n := l.length) (by omega); omega⟩
  rw [hm]
  unfold slices_IndexFunc_alarm_Alarm_alarm_Alarm.l0
  rw [if_neg (by simp)]
  rfl

theorem Index_some (A B : List (Int × Int)) (p w now : Int) (h1 : 1 ≤ w) (h2 : w ≤ 1099511627776) (h3 : 0 ≤ now) (h4 : now ≤ 549755813888) (hl : (A ++ (p, w) :: B).length ≤ 1000) (hD : ∀ b ∈ A, b.1 ≠ p ∧ 1 ≤ b.2 ∧ b.2 ≤ 1099511627776) : slices_IndexFunc_alarm_Alarm_alarm_Alarm.f (A ++ (p, w) :: B) p now 0 = some ((A.length : Int), max0 (w - now)) := by
  unfold slices_IndexFunc_alarm_Alarm_alarm_Alarm.f
  have h := idx_skip (A ++ (p, w) :: B) p now 0 h3 h4 hl A [] ((p, w) :: B) (FUEL - A.length) (by simp) hD
  have hA : A.length < 1000 := by simp at hl; omega
  rw [Nat.sub_add_cancel (Nat.le_of_lt (fuel_gt (by omega)))] at h
  have h : slices_IndexFunc_alarm_Alarm_alarm_Alarm.l0 (A ++ (p, w) :: B) p now FUEL 0 (0 : Int) = _ := h
  rw [h]
  obtain ⟨m, hm⟩ : ∃ m, FUEL - A.length = m + 1 := ⟨FUEL - A.length - 1, by have := fuel_gt (n := A.length) (by omega); omega⟩
  rw [hm]
  unfold slices_IndexFunc_alarm_Alarm_alarm_Alarm.l0
  have e : ([] : List (Int × Int)).length + A.length = A.length := by simp
  have hlt : A.length < (A ++ (p, w) :: B).length := by simp
  rw [e, if_pos (by omega), if_pos (by omega), toNat_nat, getD_app, upd_eq _ _ _ _ _ h1 h2 h3 h4, bind_go, if_pos (by simp), if_pos rfl]
  rfl

theorem del_loop (a0 : List (Int × Int)) (p now left : Int) (h3 : 0 ≤ now) (h4 : now ≤ 549755813888) (hl : a0.length ≤ 1000) : ∀ (D C : List (Int × Int)) (y : Int × Int) (n : Nat), a0.length = C.length + 1 + D.length → (∀ b ∈ D, b.1 ≠ p ∧ 1 ≤ b.2 ∧ b.2 ≤ 1099511627776) → D.length < n →
    ∃ y', slices_DeleteFunc_alarm_Alarm_alarm_Alarm.l0 a0 p now n (C ++ y :: D) left (C.length : Int) ((C.length + 1 : Nat) : Int) = some ((C ++ D) ++ [y'], left, ((C.length + D.length : Nat) : Int))
  | [], C, y, n, e, _, hn => by
    obtain ⟨m, rfl⟩ := fuel_step hn
    refine ⟨y, ?_⟩
    unfold slices_DeleteFunc_alarm_Alarm_alarm_Alarm.l0
    rw [if_neg (by simp at e; omega)]
    simp
  | b :: D, C, y, n, e, hD, hn => by
    obtain ⟨m, rfl⟩ := fuel_step hn
    obtain ⟨g1, g2, g3⟩ := hD b (List.mem_cons_self ..)
    simp only [List.length_cons] at e hn
    obtain ⟨y', ih⟩ := del_loop a0 p now left h3 h4 hl D (C ++ [b]) b m (by simp; omega) (fun c hc => hD c (List.mem_cons_of_mem _ hc)) (by omega)
    refine ⟨y', ?_⟩
    unfold slices_DeleteFunc_alarm_Alarm_alarm_Alarm.l0
    have hb : (C ++ y :: b :: D).getD (C.length + 1) ((0 : Int), (0 : Int)) = b := by
      have := getD_app (C ++ [y]) D b ((0 : Int), (0 : Int))
      simpa using this
    have hlen : (C ++ y :: b :: D).length = C.length + 2 + D.length := by simp; omega
    have hset : (C ++ y :: b :: D).set C.length b = (C ++ [b]) ++ b :: D := by simp
    rw [if_pos (by omega), if_pos (by omega), toNat_nat, Nat.zero_add, if_pos (by omega), hb, upd_eq _ _ _ _ _ g2 g3 h3 h4, bind_go]
    rw [if_pos (show ¬ ((b.1 == p) = true) by simpa using g1), if_neg g1, if_pos (by omega), toNat_nat, Nat.zero_add, if_pos (by omega), wsucc (by omega), wsucc (by omega)]
    show slices_DeleteFunc_alarm_Alarm_alarm_Alarm.l0 a0 p now m ((C ++ y :: b :: D).set C.length b) left ((C.length + 1 : Nat) : Int) ((C.length + 1 + 1 : Nat) : Int) = _
    rw [hset]
    have e1 : (C ++ [b]).length = C.length + 1 := by simp
    rw [e1] at ih
    rw [ih]
    simp only [List.append_assoc, List.singleton_append, List.length_cons]
    congr 4
    omega

theorem Delete_none (l : List (Int × Int)) (p now : Int) (h3 : 0 ≤ now) (h4 : now ≤ 549755813888) (hl : l.length ≤ 1000) (hD : ∀ b ∈ l, b.1 ≠ p ∧ 1 ≤ b.2 ∧ b.2 ≤ 1099511627776) : slices_DeleteFunc_alarm_Alarm_alarm_Alarm.f l p now 0 = some (.inl (l, 0)) := by
  unfold slices_DeleteFunc_alarm_Alarm_alarm_Alarm.f
  rw [Index_none l p now h3 h4 hl hD, bind_go, if_pos rfl]

theorem Delete_some (A B : List (Int × Int)) (p w now : Int) (h1 : 1 ≤ w) (h2 : w ≤ 1099511627776) (h3 : 0 ≤ now) (h4 : now ≤ 549755813888) (hl : (A ++ (p, w) :: B).length ≤ 1000) (hD : ∀ b ∈ A ++ B, b.1 ≠ p ∧ 1 ≤ b.2 ∧ b.2 ≤ 1099511627776) :
    ∃ y, slices_DeleteFunc_alarm_Alarm_alarm_Alarm.f (A ++ (p, w) :: B) p now 0 = some (.inr (A.length + B.length, (A ++ B) ++ [y], max0 (w - now))) := by
  unfold slices_DeleteFunc_alarm_Alarm_alarm_Alarm.f
  rw [Index_some A B p w now h1 h2 h3 h4 hl (fun b hb => hD b (List.mem_append_left _ hb)), bind_go]
  have hlen : (A ++ (p, w) :: B).length = A.length + 1 + B.length := by simp; omega
  obtain ⟨y', h⟩ := del_loop (A ++ (p, w) :: B) p now (max0 (w - now)) h3 h4 hl B A (p, w) FUEL hlen (fun b hb => hD b (List.mem_append_right _ hb)) (fuel_gt (by omega))
  refine ⟨(0, 0), ?_⟩
  dsimp only
  rw [if_neg (by omega), wsucc (by omega), h, bind_go]
  dsimp only
  rw [toNat_nat, hlen, show A.length + 1 + B.length - (A.length + B.length) = 1 by omega]
  rw [if_pos ⟨trivial, by omega, by omega⟩, if_pos ⟨by omega, (by simp only [List.length_append, List.length_singleton]; omega)⟩, if_pos ⟨⟨by omega, by omega⟩, trivial⟩]
  have e1 : Nat.min (List.replicate 1 ((0 : Int), (0 : Int))).length 1 = 1 := rfl
  have e2 : (0 + (A.length + B.length)) = (A ++ B).length := by simp
  rw [e1, e2, List.take_left, List.drop_eq_nil_of_le (by simp; omega)]
  rfl

theorem shr1 (x : Int) : shr .u64 x 1 = x / 2 := by simp [shr, IntKind.bits]

theorem bs_loop (A B : List (Int × Int)) (p : Int) (hp : 1 ≤ p ∧ p ≤ 99) (hl : (A ++ B).length ≤ 1000) (hA : ∀ a ∈ A, a.1 < p ∧ 1 ≤ a.1) (hB : ∀ b ∈ B, p < b.1 ∧ b.1 ≤ 99) : ∀ (d i j n : Nat), j ≤ i + d → i ≤ A.length → A.length ≤ j → j ≤ (A ++ B).length → d < n →
    slices_BinarySearchFunc_alarm_Alarm_alarm_Alarm_int.l0 (A ++ B) p n (i : Int) (j : Int) = some (A.length : Int) := by
  intro d
  induction d with
  | zero =>
    intro i j n h1 h2 h3 h4 hn
    obtain ⟨m, rfl⟩ := fuel_step hn
    unfold slices_BinarySearchFunc_alarm_Alarm_alarm_Alarm_int.l0
    rw [if_neg (by omega), show i = A.length by omega]
  | succ d ih =>
    intro i j n h1 h2 h3 h4 hn
    obtain ⟨m, rfl⟩ := fuel_step hn
    unfold slices_BinarySearchFunc_alarm_Alarm_alarm_Alarm_int.l0
    by_cases hij : i < j
    · have hh : IntKind.wrap .i64 (shr .u64 (IntKind.wrap .u64 (IntKind.wrap .i64 ((i : Int) + (j : Int)))) 1) = (((i + j) / 2 : Nat) : Int) := by
        rw [wi64 (x := (i : Int) + (j : Int)) (by omega) (by omega), wu64_id (by omega), shr1, wi64 (by omega) (by omega)]
        omega
      rw [if_pos (by omega), hh]
      generalize hk : (i + j) / 2 = k
      have hk1 : i ≤ k := by omega
      have hk2 : k < j := by omega
      rw [if_pos (by omega), toNat_nat]
      have hs : ∀ x : Int × Int, 1 ≤ x.1 → x.1 ≤ 99 → alarm_Set_2.f x.1 x.2 p = some (x.1 - p) := fun x g1 g2 => by
        unfold alarm_Set_2.f; rw [wi64 (by omega) (by omega)]
      by_cases hkA : k < A.length
      · have hm : (A ++ B).getD k ((0 : Int), (0 : Int)) ∈ A := by
          rw [List.getD_eq_getElem?_getD, List.getElem?_append_left hkA, List.getElem?_eq_getElem hkA, Option.getD_some]
          exact List.getElem_mem _
        generalize (A ++ B).getD k ((0 : Int), (0 : Int)) = x at hm
        have := hA x hm
        rw [hs x this.2 (by omega), bind_go, if_pos (by omega), wsucc (by omega)]
        exact ih (k + 1) j m (by omega) (by omega) h3 h4 (by omega)
      · have hm : (A ++ B).getD k ((0 : Int), (0 : Int)) ∈ B := by
          have hkl : k - A.length < B.length := by simp at h4; omega
          rw [List.getD_eq_getElem?_getD, List.getElem?_append_right (by omega), List.getElem?_eq_getElem hkl, Option.getD_some]
          exact List.getElem_mem _
        generalize (A ++ B).getD k ((0 : Int), (0 : Int)) = x at hm
        have := hB x hm
        rw [hs x (by omega) this.2, bind_go, if_neg (by omega)]
        exact ih i k m (by omega) h2 (by omega) (by omega) (by omega)
    · rw [if_neg (by omega), show i = A.length by omega]

theorem Bs_eq (A B : List (Int × Int)) (p : Int) (hp : 1 ≤ p ∧ p ≤ 99) (hl : (A ++ B).length ≤ 1000) (hA : ∀ a ∈ A, a.1 < p ∧ 1 ≤ a.1) (hB : ∀ b ∈ B, p < b.1 ∧ b.1 ≤ 99) : ∃ q, slices_BinarySearchFunc_alarm_Alarm_alarm_Alarm_int.f (A ++ B) p = some ((A.length : Int), q) := by
  unfold slices_BinarySearchFunc_alarm_Alarm_alarm_Alarm_int.f
  have h := bs_loop A B p hp hl hA hB (A ++ B).length 0 (A ++ B).length FUEL (by omega) (by omega) (by simp) (Nat.le_refl _) (fuel_gt (by omega))
  rw [show ((0 : Int)) = ((0 : Nat) : Int) from rfl, h, bind_go]
  by_cases hc : (A.length : Int) < ((A ++ B).length : Int)
  · rw [if_pos hc, if_pos (by omega)]
    unfold alarm_Set_2.f
    exact ⟨_, rfl⟩
  · rw [if_neg hc]
    exact ⟨_, rfl⟩

theorem ins_list (A B : List (Int × Int)) (x : Int × Int) (R : List (Int × Int)) (hl : (A ++ B).length ≤ 1000) : alarm_Insert.f (A.length + B.length) (A.length : Int) (List.take 1 [x]) ((A ++ B) ++ R) = some (A ++ (x :: B)) := by
  have e : List.take (A.length + B.length) ((A ++ B) ++ R) = A ++ B := by rw [← List.length_append, List.take_left]
  show (if _ then _ else _) = _
  simp only [List.length_append] at hl
  rw [if_pos ⟨by omega, (by rw [toNat_nat]; omega), (by simp only [List.length_append]; omega), by omega⟩, toNat_nat, e, List.take_left, List.drop_left]
theorem insT_list (A B : List (Int × Int)) (x : Int × Int) (hl : (A ++ B).length ≤ 1000) : alarm_InsertT.f (A.length : Int) (List.take 1 [x]) (A ++ B) = some (A ++ (x :: B)) := by
  show (if _ then _ else _) = _
  rw [if_pos ⟨by omega, (by rw [toNat_nat, List.length_append]; omega), Nat.le_refl _, by omega⟩, toNat_nat, List.take_length, List.take_left, List.drop_left]

/-- What an alarm had to go. -/
def leftOf (now : Int) : List (Int × Int) → Int
  | [] => 0
  | x :: _ => max0 (x.2 - now)
/-- What is laid down anew. -/
def newOf (p now after : Int) : List (Int × Int) := if after > 0 then [(p, now + after)] else []

theorem Set_ok (A M B : List (Int × Int)) (p now after : Int) (hc : chk 0 (A ++ (M ++ B)) = true) (hA : ∀ a ∈ A, a.1 < p) (hB : ∀ b ∈ B, p < b.1) (hM : M = [] ∨ ∃ w, M = [(p, w)]) (hp : 1 ≤ p ∧ p ≤ 99) (hn : 0 ≤ now ∧ now ≤ 549755813888) (ha : 0 ≤ after ∧ after ≤ 4294967296) :
    alarm_Set.f (A ++ (M ++ B)) p now after = some (A ++ (newOf p now after ++ B), leftOf now M, none) := by
  have hl : (A ++ (M ++ B)).length ≤ 1000 := by have := chk_len hc (by omega) (by omega); omega
  have hm := chk_mem hc
  have hAB : (A ++ B).length ≤ 1000 := by simp at hl ⊢; omega
  have hA2 : ∀ a ∈ A, a.1 < p ∧ 1 ≤ a.1 := fun a h => ⟨hA a h, (hm a (List.mem_append_left _ h)).2.1⟩
  have hB2 : ∀ b ∈ B, p < b.1 ∧ b.1 ≤ 99 := fun b h => ⟨hB b h, (hm b (List.mem_append_right _ (List.mem_append_right _ h))).2.2.1⟩
  have hD : ∀ b ∈ A ++ B, b.1 ≠ p ∧ 1 ≤ b.2 ∧ b.2 ≤ 1099511627776 := fun b h => by
    rcases List.mem_append.1 h with h | h
    · have := hA b h; have := hm b (List.mem_append_left _ h); exact ⟨by omega, by omega, by omega⟩
    · have := hB b h; have := hm b (List.mem_append_right _ (List.mem_append_right _ h)); exact ⟨by omega, by omega, by omega⟩
  obtain ⟨q, hbs⟩ := Bs_eq A B p hp hAB hA2 hB2
  unfold alarm_Set.f
  rw [Check_eq _ hl, bind_go, if_pos hc, if_neg (fun h => h rfl), timed_eq, bind_go, if_neg (by simpa using hn), pids_Check_eq, bind_go, if_pos hp, if_neg (fun h => h rfl), if_neg (by omega), if_neg (by omega), Clone_eq _ hl, bind_go]
  have hw : IntKind.wrap .i64 (now + after) = now + after := wi64 (by omega) (by omega)
  rcases hM with rfl | ⟨w, rfl⟩
  · rw [List.nil_append, Delete_none (A ++ B) p now hn.1 hn.2 hAB hD, bind_go]
    dsimp only
    unfold newOf
    by_cases h0 : after > 0
    · rw [if_pos h0, if_pos h0, hbs, bind_go, hw, insT_list A B _ hAB, bind_go]
      rfl
    · rw [if_neg h0, if_neg h0]
      rfl
  · have hw1 := hm (p, w) (by simp)
    obtain ⟨y, hd⟩ := Delete_some A B p w now hw1.2.2.2.1 hw1.2.2.2.2 hn.1 hn.2 (by simpa using hl) hD
    rw [show A ++ ([(p, w)] ++ B) = A ++ (p, w) :: B from rfl, hd, bind_go]
    dsimp only
    have ht : List.take (A.length + B.length) ((A ++ B) ++ [y]) = A ++ B := by rw [← List.length_append, List.take_left]
    unfold newOf
    by_cases h0 : after > 0
    · rw [if_pos h0, if_pos h0, if_pos (by simp), ht, hbs, bind_go, hw, ins_list A B _ _ hAB, bind_go]
      rfl
    · rw [if_neg h0, if_neg h0, if_pos ⟨by simp, trivial⟩, ht]
      rfl

theorem Set_bad (l : List (Int × Int)) (p now after : Int) (hl : l.length ≤ 1000) (h : ¬ (chk 0 l = true ∧ (0 ≤ now ∧ now ≤ 549755813888) ∧ (1 ≤ p ∧ p ≤ 99) ∧ 0 ≤ after ∧ after ≤ 4294967296)) : alarm_Set.f l p now after = some ([], 0, some 22) := by
  unfold alarm_Set.f
  rw [Check_eq _ hl, bind_go]
  by_cases h1 : chk 0 l = true
  · rw [if_pos h1, if_neg (fun h => h rfl), timed_eq, bind_go]
    by_cases h2 : 0 ≤ now ∧ now ≤ 549755813888
    · rw [if_neg (by simpa using h2), pids_Check_eq, bind_go]
      by_cases h3 : 1 ≤ p ∧ p ≤ 99
      · rw [if_pos h3, if_neg (fun h => h rfl)]
        by_cases h4 : after < 0
        · rw [if_pos h4]
        · rw [if_neg h4, if_pos (Classical.byContradiction fun h5 => h ⟨h1, h2, h3, by omega, by omega⟩)]
      · rw [if_neg h3, if_pos (by simp)]
    · rw [if_pos (by simpa using h2)]
  · rw [if_neg h1, if_pos (by simp)]

theorem chk_new {p now after : Int} (hp : 1 ≤ p ∧ p ≤ 99) (hn : 0 ≤ now ∧ now ≤ 549755813888) (ha : 0 ≤ after ∧ after ≤ 4294967296) {A M B : List (Int × Int)} (hc : chk 0 (A ++ (M ++ B)) = true) (hA : ∀ a ∈ A, a.1 < p) (hB : ∀ b ∈ B, p < b.1) (hM : M = [] ∨ ∃ w, M = [(p, w)]) : chk 0 (A ++ (newOf p now after ++ B)) = true := by
  refine chk_join (p := p) (fun q hq B hB h => ?_) hc hA hB (by omega) hM
  unfold newOf
  split
  · refine chk_cons.2 ⟨⟨hq, hp.1, hp.2, by dsimp only; omega, by dsimp only; omega⟩, ?_⟩
    cases B with
    | nil => rfl
    | cons b r =>
      obtain ⟨h1, h2⟩ := chk_cons.1 h
      exact chk_cons.2 ⟨⟨hB b (List.mem_cons_self ..), h1.2⟩, h2⟩
  · exact h

/-- When a process is woken; 0: it is not. -/
def look (q : Int) : List (Int × Int) → Int
  | [] => 0
  | x :: r => if x.1 = q then x.2 else look q r
theorem look_none {q : Int} : ∀ {l : List (Int × Int)}, (∀ a ∈ l, a.1 ≠ q) → look q l = 0
  | [], _ => rfl
  | x :: r, h => by
    unfold look
    rw [if_neg (h x (List.mem_cons_self ..)), look_none fun a ha => h a (List.mem_cons_of_mem _ ha)]
theorem look_behind {q : Int} {R : List (Int × Int)} : ∀ {A : List (Int × Int)}, (∀ a ∈ A, a.1 ≠ q) → look q (A ++ R) = look q R
  | [], _ => rfl
  | x :: r, h => by
    show (if x.1 = q then x.2 else look q (r ++ R)) = _
    rw [if_neg (h x (List.mem_cons_self ..)), look_behind fun a ha => h a (List.mem_cons_of_mem _ ha)]
theorem look_skip {q : Int} {M B : List (Int × Int)} (hM : ∀ a ∈ M, a.1 ≠ q) : ∀ {A : List (Int × Int)}, look q (A ++ (M ++ B)) = look q (A ++ B)
  | [] => look_behind hM
  | x :: r => by
    show (if x.1 = q then x.2 else look q (r ++ (M ++ B))) = (if x.1 = q then x.2 else look q (r ++ B))
    rw [look_skip hM]
theorem look_mem : ∀ {l : List (Int × Int)} {p : Int}, chk p l = true → ∀ a ∈ l, look a.1 l = a.2
  | [], _, _, a, ha => by cases ha
  | x :: r, p, h, a, ha => by
    obtain ⟨h1, h2⟩ := chk_cons.1 h
    unfold look
    rcases List.mem_cons.1 ha with rfl | ha
    · rw [if_pos rfl]
    · have := chk_mem h2 a ha
      rw [if_neg (by omega)]
      exact look_mem h2 a ha
theorem look_pos : ∀ {l : List (Int × Int)} {p q : Int}, chk p l = true → 0 ≤ look q l
  | [], _, _, _ => Int.le_refl _
  | x :: r, p, q, h => by
    obtain ⟨h1, h2⟩ := chk_cons.1 h
    unfold look
    split
    · omega
    · exact look_pos h2
theorem look_cases : ∀ (l : List (Int × Int)) (q : Int), look q l = 0 ∨ ∃ a ∈ l, a.1 = q ∧ look q l = a.2
  | [], _ => .inl rfl
  | x :: r, q => by
    unfold look
    split
    · rename_i h
      exact .inr ⟨x, List.mem_cons_self .., h, rfl⟩
    · rcases look_cases r q with h | ⟨a, h1, h2, h3⟩
      · exact .inl h
      · exact .inr ⟨a, List.mem_cons_of_mem _ h1, h2, h3⟩

theorem Set_tab {l : List (Int × Int)} {p now after : Int} (hc : chk 0 l = true) (hp : 1 ≤ p ∧ p ≤ 99) (hn : 0 ≤ now ∧ now ≤ 549755813888) (ha : 0 ≤ after ∧ after ≤ 4294967296) :
    ∃ l2, alarm_Set.f l p now after = some (l2, max0 (look p l - now), none) ∧ chk 0 l2 = true ∧ ∀ q, look q l2 = if q = p then (if after > 0 then now + after else 0) else look q l := by
  obtain ⟨A, M, B, rfl, hA, hB, hM⟩ := chk_split p hc
  have hAp : ∀ a ∈ A, a.1 ≠ p := fun a h => by have := hA a h; omega
  have hBp : ∀ a ∈ B, a.1 ≠ p := fun a h => by have := hB a h; omega
  have hl : leftOf now M = max0 (look p (A ++ (M ++ B)) - now) := by
    rw [look_behind hAp]
    rcases hM with rfl | ⟨w, rfl⟩
    · rw [List.nil_append, look_none hBp]
      show (0 : Int) = if _ then _ else _
      rw [if_neg (by omega)]
    · show max0 (w - now) = max0 ((if p = p then w else _) - now)
      rw [if_pos rfl]
  refine ⟨A ++ (newOf p now after ++ B), by rw [Set_ok A M B p now after hc hA hB hM hp hn ha, hl], chk_new hp hn ha hc hA hB hM, fun q => ?_⟩
  by_cases hq : q = p
  · subst hq
    rw [if_pos rfl, look_behind hAp]
    unfold newOf
    split
    · show (if q = q then now + after else _) = _
      rw [if_pos rfl]
    · exact look_none hBp
  · rw [if_neg hq, look_skip, look_skip]
    · intro a h
      rcases hM with rfl | ⟨w, rfl⟩
      · cases h
      · rw [List.mem_singleton] at h
        subst h
        exact fun e => hq e.symm
    · intro a h
      unfold newOf at h
      split at h
      · rw [List.mem_singleton] at h
        subst h
        exact fun e => hq e.symm
      · cases h

def dues (now : Int) : List (Int × Int) → List Int
  | [] => []
  | x :: r => if x.2 ≤ now then x.1 :: dues now r else dues now r
def rests (now : Int) : List (Int × Int) → List (Int × Int)
  | [] => []
  | x :: r => if x.2 ≤ now then rests now r else x :: rests now r

theorem dues_in {now : Int} {x : Int × Int} {r : List (Int × Int)} (h : x.2 ≤ now) : dues now (x :: r) = x.1 :: dues now r := if_pos h
theorem dues_out {now : Int} {x : Int × Int} {r : List (Int × Int)} (h : ¬ x.2 ≤ now) : dues now (x :: r) = dues now r := if_neg h
theorem rests_in {now : Int} {x : Int × Int} {r : List (Int × Int)} (h : x.2 ≤ now) : rests now (x :: r) = rests now r := if_pos h
theorem rests_out {now : Int} {x : Int × Int} {r : List (Int × Int)} (h : ¬ x.2 ≤ now) : rests now (x :: r) = x :: rests now r := if_neg h

theorem due_loop (l : List (Int × Int)) (now : Int) (hl : l.length ≤ 1000) : ∀ (d i n : Nat) (D : List Int) (R : List (Int × Int)), i + d = l.length → d < n → D.length ≤ i → R.length ≤ i → alarm_Due.l0 l now n D R (i : Int) = some (D ++ dues now (l.drop i), R ++ rests now (l.drop i)) := by
  intro d
  induction d with
  | zero =>
    intro i n D R hi hn _ _
    obtain ⟨m, rfl⟩ := fuel_step hn
    unfold alarm_Due.l0
    rw [if_neg (by omega), List.drop_eq_nil_of_le (by omega)]
    simp [dues, rests]
  | succ d ih =>
    intro i n D R hi hn hD hR
    obtain ⟨m, rfl⟩ := fuel_step hn
    have hlt : i < l.length := by omega
    unfold alarm_Due.l0
    rw [if_pos (by omega), if_pos (by omega), toNat_nat, drop_getD l i ((0 : Int), (0 : Int)) hlt, wsucc (by omega)]
    generalize l.getD i ((0 : Int), (0 : Int)) = x
    have t1 : List.take 1 [x.1] = [x.1] := rfl
    have t2 : List.take 1 [(x.1, x.2)] = [x] := rfl
    rw [t1, t2]
    by_cases h : x.2 ≤ now
    · rw [if_pos h, if_pos ⟨by omega, rfl, rfl, by simp; omega, by simp; omega⟩, ih (i + 1) m (D ++ [x.1]) R (by omega) (by omega) (by simp; omega) (by omega)]
      rw [dues_in h, rests_in h]
      simp
    · rw [if_neg h, if_pos ⟨by omega, rfl, rfl, by simp; omega, by simp; omega⟩, ih (i + 1) m D (R ++ [x]) (by omega) (by omega) (by omega) (by simp; omega)]
      rw [dues_out h, rests_out h]
      simp

theorem Due_ok {l : List (Int × Int)} {now : Int} (hc : chk 0 l = true) (hn : 0 ≤ now ∧ now ≤ 549755813888) : alarm_Due.f l now = some (dues now l, rests now l, none) := by
  have hl : l.length ≤ 1000 := by have := chk_len hc (by omega) (by omega); omega
  unfold alarm_Due.f
  rw [Check_eq _ hl, bind_go, if_pos hc, if_neg (fun h => h rfl), timed_eq, bind_go, if_neg (by simpa using hn)]
  have h : alarm_Due.l0 l now FUEL [] [] (0 : Int) = _ := due_loop l now hl l.length 0 FUEL [] [] (by omega) (fuel_gt (by omega)) (Nat.le_refl _) (Nat.le_refl _)
  rw [h, bind_go]
  rfl
theorem Due_bad (l : List (Int × Int)) (now : Int) (hl : l.length ≤ 1000) (h : ¬ (chk 0 l = true ∧ (0 ≤ now ∧ now ≤ 549755813888))) : alarm_Due.f l now = some ([], [], some 22) := by
  unfold alarm_Due.f
  rw [Check_eq _ hl, bind_go]
  by_cases h1 : chk 0 l = true
  · rw [if_pos h1, if_neg (fun h => h rfl), timed_eq, bind_go, if_pos (by simpa using fun h2 => h ⟨h1, h2⟩)]
  · rw [if_neg h1, if_pos (by simp)]

theorem rests_mem (now : Int) : ∀ {l : List (Int × Int)} {a : Int × Int}, a ∈ rests now l ↔ a ∈ l ∧ now < a.2
  | [], a => by simp [rests]
  | x :: r, a => by
    unfold rests
    split
    · rename_i h
      rw [rests_mem now, List.mem_cons]
      constructor
      · exact fun ⟨h1, h2⟩ => ⟨.inr h1, h2⟩
      · rintro ⟨h1 | h1, h2⟩
        · subst h1; omega
        · exact ⟨h1, h2⟩
    · rename_i h
      rw [List.mem_cons, rests_mem now, List.mem_cons]
      constructor
      · rintro (h1 | ⟨h1, h2⟩)
        · subst h1; exact ⟨.inl rfl, by omega⟩
        · exact ⟨.inr h1, h2⟩
      · rintro ⟨h1 | h1, h2⟩
        · exact .inl h1
        · exact .inr ⟨h1, h2⟩
theorem dues_mem (now : Int) : ∀ {l : List (Int × Int)} {d : Int}, d ∈ dues now l ↔ ∃ a ∈ l, a.1 = d ∧ a.2 ≤ now
  | [], a => by simp [dues]
  | x :: r, a => by
    unfold dues
    split
    · rename_i h
      rw [List.mem_cons, dues_mem now]
      constructor
      · rintro (h1 | ⟨b, h1, h2, h3⟩)
        · exact ⟨x, List.mem_cons_self .., h1.symm, h⟩
        · exact ⟨b, List.mem_cons_of_mem _ h1, h2, h3⟩
      · rintro ⟨b, h1, h2, h3⟩
        rcases List.mem_cons.1 h1 with h1 | h1
        · subst h1; exact .inl h2.symm
        · exact .inr ⟨b, h1, h2, h3⟩
    · rename_i h
      rw [dues_mem now]
      constructor
      · exact fun ⟨b, h1, h2, h3⟩ => ⟨b, List.mem_cons_of_mem _ h1, h2, h3⟩
      · rintro ⟨b, h1, h2, h3⟩
        rcases List.mem_cons.1 h1 with h1 | h1
        · subst h1; omega
        · exact ⟨b, h1, h2, h3⟩
theorem chk_rests (now : Int) : ∀ {l : List (Int × Int)} {p : Int}, chk p l = true → chk p (rests now l) = true
  | [], _, _ => rfl
  | x :: r, p, h => by
    obtain ⟨h1, h2⟩ := chk_cons.1 h
    unfold rests
    split
    · exact chk_le (chk_rests now h2) (by omega)
    · exact chk_cons.2 ⟨h1, chk_rests now h2⟩
theorem look_rests (now : Int) {q : Int} (hn : 0 ≤ now) : ∀ {l : List (Int × Int)} {p : Int}, chk p l = true → look q (rests now l) = if look q l ≤ now then 0 else look q l
  | [], _, _ => by
    show (0 : Int) = if (0 : Int) ≤ now then 0 else 0
    rw [if_pos hn]
  | x :: r, p, h => by
    obtain ⟨h1, h2⟩ := chk_cons.1 h
    have hne : x.1 = q → ∀ a ∈ r, a.1 ≠ q := fun e a ha => by have := chk_mem h2 a ha; omega
    unfold rests
    split
    · rename_i hx
      rw [look_rests now hn h2]
      conv => rhs; unfold look
      by_cases e : x.1 = q
      · rw [if_pos e, if_pos hx, look_none (hne e), if_pos hn]
      · rw [if_neg e]
    · rename_i hx
      show (if x.1 = q then x.2 else look q (rests now r)) = if (if x.1 = q then x.2 else look q r) ≤ now then 0 else (if x.1 = q then x.2 else look q r)
      by_cases e : x.1 = q
      · rw [if_pos e, if_pos e, if_neg hx]
      · rw [if_neg e, if_neg e, look_rests now hn h2]

/-- Numbers that ascend, behind one. -/
def asc : Int → List Int → Prop
  | _, [] => True
  | p, d :: r => (p < d ∧ 1 ≤ d ∧ d ≤ 99) ∧ asc d r
theorem asc_le : ∀ {l : List Int} {p q : Int}, asc p l → q ≤ p → asc q l
  | [], _, _, _, _ => trivial
  | x :: r, p, q, h, hq => ⟨⟨by have := h.1.1; omega, h.1.2⟩, h.2⟩
theorem asc_mem : ∀ {l : List Int} {p : Int}, asc p l → ∀ d ∈ l, p < d ∧ 1 ≤ d ∧ d ≤ 99
  | [], _, _, d, h => by cases h
  | x :: r, p, h, d, hd => by
    rcases List.mem_cons.1 hd with rfl | hd
    · exact h.1
    · have := asc_mem h.2 d hd
      have := h.1
      omega
theorem asc_dues (now : Int) : ∀ {l : List (Int × Int)} {p : Int}, chk p l = true → asc p (dues now l)
  | [], _, _ => trivial
  | x :: r, p, h => by
    obtain ⟨h1, h2⟩ := chk_cons.1 h
    unfold dues
    split
    · exact ⟨⟨h1.1, h1.2.1, h1.2.2.1⟩, asc_dues now h2⟩
    · exact asc_le (asc_dues now h2) (by omega)
theorem getD_set {α : Type} (l : List α) (i j : Nat) (v d : α) (hi : i < l.length) : (l.set i v).getD j d = if i = j then v else l.getD j d := by
  rw [List.getD_eq_getElem?_getD, List.getD_eq_getElem?_getD, List.getElem?_set]
  by_cases h : i = j
  · rw [if_pos h, if_pos hi, if_pos h]; rfl
  · rw [if_neg h, if_neg h]

theorem sure_eq : halterlaw29_sure.f = some true := by kernel_rfl

theorem give_loop (l : List (Int × Int)) (hl : l.length ≤ 1000) : ∀ (d i n : Nat) (o : List (Int × Int)), i + d = l.length → d < n → o.length ≤ i → halterlaw29_give.l0 l n o (i : Int) = some (o ++ l.drop i) := by
  intro d
  induction d with
  | zero =>
    intro i n o hi hn _
    obtain ⟨m, rfl⟩ := fuel_step hn
    unfold halterlaw29_give.l0
    rw [if_neg (by omega), List.drop_eq_nil_of_le (by omega), List.append_nil]
  | succ d ih =>
    intro i n o hi hn ho
    obtain ⟨m, rfl⟩ := fuel_step hn
    have hlt : i < l.length := by omega
    unfold halterlaw29_give.l0
    rw [if_pos (by omega), if_pos (by omega), toNat_nat, drop_getD l i ((0 : Int), (0 : Int)) hlt, wsucc (by omega)]
    generalize l.getD i ((0 : Int), (0 : Int)) = x
    have t2 : List.take 1 [(x.1, x.2)] = [x] := rfl
    rw [t2, if_pos ⟨by omega, rfl, rfl, by simp; omega, by simp; omega⟩, ih (i + 1) m (o ++ [x]) (by omega) (by omega) (by simp; omega)]
    simp
theorem give_eq (l : List (Int × Int)) (hl : l.length ≤ 1000) : halterlaw29_give.f l = some l := by
  unfold halterlaw29_give.f
  have h : halterlaw29_give.l0 l FUEL [] (0 : Int) = _ := give_loop l hl l.length 0 FUEL [] (by omega) (fuel_gt (by omega)) (Nat.le_refl _)
  rw [h, bind_go]
  rfl

theorem may_loop (l : List (Int × Int)) (hl : l.length ≤ 1000) : ∀ (d i n : Nat) (p : Int), i + d = l.length → d < n → 0 ≤ p → halterref29_May.l0 l n p (i : Int) = some (if chk p (l.drop i) = true then .inl () else .inr ()) := by
  intro d
  induction d with
  | zero =>
    intro i n p hi hn _
    obtain ⟨m, rfl⟩ := fuel_step hn
    unfold halterref29_May.l0
    rw [if_neg (by omega), List.drop_eq_nil_of_le (by omega)]
    rfl
  | succ d ih =>
    intro i n p hi hn hp
    obtain ⟨m, rfl⟩ := fuel_step hn
    have hlt : i < l.length := by omega
    have hb : 0 ≤ (i : Int) ∧ (i : Int) < (l.length : Int) := by omega
    unfold halterref29_May.l0
    rw [if_pos (by omega), if_pos hb, toNat_nat, drop_getD l i ((0 : Int), (0 : Int)) hlt, wsucc (by omega)]
    generalize l.getD i ((0 : Int), (0 : Int)) = x
    by_cases h1 : x.1 ≤ p
    · rw [if_pos h1, if_neg (fun h => by have := (chk_cons.1 h).1; omega)]
    · rw [if_neg h1, if_pos hb]
      by_cases h2 : x.1 > 99
      · rw [if_pos h2, if_neg (fun h => by have := (chk_cons.1 h).1; omega)]
      · rw [if_neg h2, if_pos hb]
        by_cases h3 : x.2 < 1
        · rw [if_pos h3, if_neg (fun h => by have := (chk_cons.1 h).1; omega)]
        · rw [if_neg h3, if_pos hb]
          by_cases h4 : x.2 > 1099511627776
          · rw [if_pos h4, if_neg (fun h => by have := (chk_cons.1 h).1; omega)]
          · rw [if_neg h4, if_pos hb, ih (i + 1) m x.1 (by omega) (by omega) (by omega)]
            have e : chk p (x :: l.drop (i + 1)) = chk x.1 (l.drop (i + 1)) := by
              show (decide _ && _) = _
              rw [decide_eq_true (by omega), Bool.true_and]
            rw [e]
theorem May_eq (l : List (Int × Int)) (hl : l.length ≤ 1000) : halterref29_May.f l = some (chk 0 l) := by
  unfold halterref29_May.f
  have h : halterref29_May.l0 l FUEL 0 (0 : Int) = some (if chk 0 l = true then .inl () else .inr ()) := may_loop l hl l.length 0 FUEL 0 (by omega) (fuel_gt (by omega)) (Int.le_refl _)
  rw [h, bind_go]
  cases chk 0 l <;> rfl

theorem whens_loop (l : List (Int × Int)) (hl : l.length ≤ 1000) : ∀ (R C : List (Int × Int)) (p : Int) (n : Nat) (w : List Int), l = C ++ R → chk p R = true → R.length < n → w.length = 100 → ∃ w2, halterref29_whens.l0 l n w (C.length : Int) = some w2 ∧ w2.length = 100 ∧ ∀ q : Nat, w2.getD q 0 = if look (q : Int) R > 0 then look (q : Int) R else w.getD q 0
  | [], C, p, n, w, e, _, hn, hw => by
    obtain ⟨m, rfl⟩ := fuel_step hn
    refine ⟨w, ?_, hw, fun q => (if_neg (Int.lt_irrefl 0)).symm⟩
    unfold halterref29_whens.l0
    rw [if_neg (by rw [e]; simp)]
  | x :: R, C, p, n, w, e, hc, hn, hw => by
    obtain ⟨m, rfl⟩ := fuel_step hn
    obtain ⟨h1, h2⟩ := chk_cons.1 hc
    have hlen : l.length = C.length + 1 + R.length := by rw [e]; simp; omega
    have hb : l.getD C.length ((0 : Int), (0 : Int)) = x := by rw [e]; exact getD_app C R x _
    obtain ⟨k, hk⟩ : ∃ k : Nat, x.1 = (k : Int) := ⟨x.1.toNat, by omega⟩
    have hkn : x.1.toNat = k := by omega
    obtain ⟨w2, g1, g2, g3⟩ := whens_loop l hl R (C ++ [x]) x.1 m (w.set k x.2) (by rw [e]; simp) h2 (by simp at hn; omega) (by rw [List.length_set]; exact hw)
    refine ⟨w2, ?_, g2, fun q => ?_⟩
    · unfold halterref29_whens.l0
      rw [if_pos (by omega), if_pos (by omega), if_pos (by omega), toNat_nat, hb, hkn, Nat.zero_add, if_pos (by omega), if_pos (by omega), wsucc (by omega)]
      rw [List.length_append] at g1
      exact g1
    · rw [g3 q, getD_set _ _ _ _ _ (by omega)]
      show _ = if (if x.1 = (q : Int) then x.2 else look (q : Int) R) > 0 then (if x.1 = (q : Int) then x.2 else look (q : Int) R) else w.getD q 0
      by_cases e1 : k = q
      · have e2 : x.1 = (q : Int) := by omega
        have e3 : look (q : Int) R = 0 := look_none fun a ha => by have := chk_mem h2 a ha; omega
        rw [if_pos e2, if_pos e1, e3, if_neg (by omega), if_pos (by omega)]
      · have e2 : ¬ x.1 = (q : Int) := by omega
        rw [if_neg e2, if_neg e1]
theorem whens_eq (l : List (Int × Int)) (hc : chk 0 l = true) : ∃ w, halterref29_whens.f l = some w ∧ w.length = 100 ∧ ∀ q : Nat, q < 100 → w.getD q 0 = look (q : Int) l := by
  have hl : l.length ≤ 1000 := by have := chk_len hc (by omega) (by omega); omega
  obtain ⟨w, h1, h2, h3⟩ := whens_loop l hl l [] 0 FUEL (List.replicate 100 0) rfl hc (fuel_gt (by omega)) (by simp)
  refine ⟨w, ?_, h2, fun q hq => ?_⟩
  · unfold halterref29_whens.f
    have h1 : halterref29_whens.l0 l FUEL (List.replicate 100 0) (0 : Int) = _ := h1
    rw [h1, bind_go]
  · rw [h3 q]
    have := look_pos (q := (q : Int)) hc
    split
    · rfl
    · rw [List.getD_eq_getElem?_getD, List.getElem?_replicate, if_pos hq]
      show (0 : Int) = _
      omega

theorem list_loop (w : List Int) (hw : w.length = 100) : ∀ (d p n : Nat) (o r : List (Int × Int)), p + d = 100 → d < n → 1 ≤ p → chk ((p : Int) - 1) r = true → (∀ q : Nat, p ≤ q → q < 100 → w.getD q 0 = look (q : Int) r) → o.length ≤ p → halterref29_list.l0 w n o (p : Int) = some (o ++ r) := by
  intro d
  induction d with
  | zero =>
    intro p n o r hp hn _ hc _ _
    obtain ⟨m, rfl⟩ := fuel_step hn
    have hr : r = [] := by
      cases r with
      | nil => rfl
      | cons x r => have := (chk_cons.1 hc).1; omega
    unfold halterref29_list.l0
    rw [if_neg (by omega), hr, List.append_nil]
  | succ d ih =>
    intro p n o r hp hn h1 hc hq ho
    obtain ⟨m, rfl⟩ := fuel_step hn
    have hwp := hq p (Nat.le_refl _) (by omega)
    unfold halterref29_list.l0
    rw [if_pos (by omega), if_pos (by omega), toNat_nat, hwp, wsucc (by omega)]
    have skip : chk (p : Int) r = true → halterref29_list.l0 w m o ((p + 1 : Nat) : Int) = some (o ++ r) := fun hc2 => by
      refine ih (p + 1) m o r (by omega) (by omega) (by omega) ?_ (fun q h2 h3 => hq q (by omega) h3) (by omega)
      rw [show ((p + 1 : Nat) : Int) - 1 = (p : Int) by omega]
      exact hc2
    cases r with
    | nil =>
      have e : look (p : Int) [] = 0 := rfl
      rw [e, if_neg (by omega)]
      exact skip rfl
    | cons x r =>
      obtain ⟨g1, g2⟩ := chk_cons.1 hc
      by_cases hx : x.1 = (p : Int)
      · have e : look (p : Int) (x :: r) = x.2 := if_pos hx
        have t2 : List.take 1 [((p : Int), x.2)] = [x] := by rw [← hx]; rfl
        rw [e, if_pos (by omega), if_pos (by omega), t2, if_pos ⟨by omega, rfl, rfl, by simp; omega, by simp; omega⟩]
        rw [ih (p + 1) m (o ++ [x]) r (by omega) (by omega) (by omega) (by
          rw [show ((p + 1 : Nat) : Int) - 1 = x.1 by omega]; exact g2) (fun q h2 h3 => by
          rw [hq q (by omega) h3]
          show (if x.1 = (q : Int) then _ else _) = _
          rw [if_neg (by omega)]) (by simp; omega)]
        simp
      · have e : look (p : Int) (x :: r) = 0 := look_none fun a ha => by
          rcases List.mem_cons.1 ha with rfl | ha
          · exact hx
          · have := chk_mem g2 a ha; omega
        rw [e, if_neg (by omega)]
        exact skip (chk_cons.2 ⟨by omega, g2⟩)
theorem list_eq (w : List Int) (hw : w.length = 100) (l : List (Int × Int)) (hc : chk 0 l = true) (hq : ∀ q : Nat, 1 ≤ q → q < 100 → w.getD q 0 = look (q : Int) l) : halterref29_list.f (List.take 100 w) = some l := by
  rw [List.take_of_length_le (by omega)]
  unfold halterref29_list.f
  have h : halterref29_list.l0 w FUEL [] (1 : Int) = _ := list_loop w hw 99 1 FUEL [] l rfl (fuel_gt (by omega)) (Nat.le_refl _) hc hq (by simp)
  rw [h, bind_go]
  rfl

theorem RSet_ok {l l2 : List (Int × Int)} {p now after : Int} (hc : chk 0 l = true) (hp : 1 ≤ p ∧ p ≤ 99) (hn : 0 ≤ now ∧ now ≤ 549755813888) (ha : 0 ≤ after ∧ after ≤ 4294967296) (hc2 : chk 0 l2 = true) (ht : ∀ q, look q l2 = if q = p then (if after > 0 then now + after else 0) else look q l) :
    halterref29_Set.f l p now after = some (l2, max0 (look p l - now), 0) := by
  have hl : l.length ≤ 1000 := by have := chk_len hc (by omega) (by omega); omega
  obtain ⟨w, hw1, hw2, hw3⟩ := whens_eq l hc
  obtain ⟨k, rfl⟩ : ∃ k : Nat, p = (k : Int) := ⟨p.toNat, by omega⟩
  have hb : 0 ≤ (k : Int) ∧ (k : Int) < ((100 : Nat) : Int) := by omega
  have hk : k < 100 := by omega
  have hlk : look (k : Int) l ≤ 1099511627776 := by
    rcases look_cases l (k : Int) with h | ⟨a, h1, _, h⟩
    · omega
    · have := chk_mem hc a h1; omega
  have hw : IntKind.wrap .i64 (now + after) = now + after := wi64 (by omega) (by omega)
  have hlp := look_pos (q := (k : Int)) hc
  have hwl : IntKind.wrap .i64 (look (k : Int) l - now) = look (k : Int) l - now := wi64 (by omega) (by omega)
  have key1 : after > 0 → halterref29_list.f (List.take 100 (List.set (List.set w k 0) k (now + after))) = some l2 := fun h0 => list_eq _ (by simp [hw2]) l2 hc2 fun q h1 h2 => by
    rw [List.set_set, getD_set _ _ _ _ _ (by omega), ht, if_pos h0, hw3 q h2]
    by_cases e : k = q
    · rw [if_pos e, if_pos (by omega)]
    · rw [if_neg e, if_neg (by omega)]
  have key2 : ¬ after > 0 → halterref29_list.f (List.take 100 (List.set w k 0)) = some l2 := fun h0 => list_eq _ (by simp [hw2]) l2 hc2 fun q h1 h2 => by
    rw [getD_set _ _ _ _ _ (by omega), ht, if_neg h0, hw3 q h2]
    by_cases e : k = q
    · rw [if_pos e, if_pos (by omega)]
    · rw [if_neg e, if_neg (by omega)]
  unfold halterref29_Set.f
  rw [May_eq l hl, bind_go, hc, if_neg (fun h => h rfl), if_neg (by omega), if_neg (by omega), if_neg (by omega), if_neg (by omega), if_neg (by omega), if_neg (by omega), hw1, bind_go]
  rw [toNat_nat, Nat.zero_add, if_pos hb, if_pos hk, hw3 k hk, hw, hwl]
  unfold max0
  by_cases h1 : look (k : Int) l > now
  · rw [if_pos h1, if_pos (show look (k : Int) l - now > 0 by omega), if_pos hb, if_pos hk, if_pos hb, if_pos hk]
    by_cases h0 : after > 0
    · rw [if_pos h0, if_pos hb, if_pos hk, key1 h0, bind_go]
    · rw [if_neg h0, key2 h0, bind_go]
  · rw [if_neg h1, if_neg (show ¬ look (k : Int) l - now > 0 by omega), if_pos hb, if_pos hk]
    by_cases h0 : after > 0
    · rw [if_pos h0, if_pos hb, if_pos hk, key1 h0, bind_go]
    · rw [if_neg h0, key2 h0, bind_go]

theorem RSet_bad (l : List (Int × Int)) (p now after : Int) (hl : l.length ≤ 1000) (h : ¬ (chk 0 l = true ∧ (0 ≤ now ∧ now ≤ 549755813888) ∧ (1 ≤ p ∧ p ≤ 99) ∧ 0 ≤ after ∧ after ≤ 4294967296)) : halterref29_Set.f l p now after = some ([], 0, 22) := by
  unfold halterref29_Set.f
  rw [May_eq l hl, bind_go]
  by_cases h1 : chk 0 l = true
  · rw [h1, if_neg (fun h => h rfl)]
    by_cases h2 : now < 0
    · rw [if_pos h2]
    · rw [if_neg h2]
      by_cases h3 : now > 549755813888
      · rw [if_pos h3]
      · rw [if_neg h3]
        by_cases h4 : p < 1
        · rw [if_pos h4]
        · rw [if_neg h4]
          by_cases h5 : p > 99
          · rw [if_pos h5]
          · rw [if_neg h5]
            by_cases h6 : after < 0
            · rw [if_pos h6]
            · rw [if_neg h6, if_pos (Classical.byContradiction fun h7 => h ⟨h1, by omega, by omega, by omega, by omega⟩)]
  · rw [if_pos h1]

theorem rdue_loop (now : Int) (hn : 0 ≤ now) : ∀ (d p n : Nat) (w D : List Int) (r : List (Int × Int)), p + d = 100 → d < n → 1 ≤ p → w.length = 100 → chk ((p : Int) - 1) r = true → (∀ q : Nat, p ≤ q → q < 100 → w.getD q 0 = look (q : Int) r) → D.length ≤ p →
    ∃ w2, halterref29_Due.l0 now n w D (p : Int) = some (w2, D ++ dues now r) ∧ w2.length = 100 ∧ ∀ q : Nat, q < 100 → w2.getD q 0 = if q < p then w.getD q 0 else if look (q : Int) r ≤ now then 0 else look (q : Int) r := by
  intro d
  induction d with
  | zero =>
    intro p n w D r hp hn' _ hw hc _ _
    obtain ⟨m, rfl⟩ := fuel_step hn'
    have hr : r = [] := by
      cases r with
      | nil => rfl
      | cons x r => have := (chk_cons.1 hc).1; omega
    refine ⟨w, ?_, hw, fun q hq => by rw [if_pos (by omega)]⟩
    unfold halterref29_Due.l0
    rw [if_neg (by omega), hr]
    simp [dues]
  | succ d ih =>
    intro p n w D r hp hn' h1 hw hc hq hD
    obtain ⟨m, rfl⟩ := fuel_step hn'
    have hb : 0 ≤ (p : Int) ∧ (p : Int) < ((100 : Nat) : Int) := by omega
    have hk : p < 100 := by omega
    have hwp := hq p (Nat.le_refl _) hk
    unfold halterref29_Due.l0
    rw [if_pos (by omega), if_pos hb, toNat_nat, Nat.zero_add, if_pos hk, hwp, wsucc (by omega)]
    have skip : chk (p : Int) r = true → look (p : Int) r = 0 → ∃ w2, halterref29_Due.l0 now m w D ((p + 1 : Nat) : Int) = some (w2, D ++ dues now r) ∧ w2.length = 100 ∧ ∀ q : Nat, q < 100 → w2.getD q 0 = if q < p then w.getD q 0 else if look (q : Int) r ≤ now then 0 else look (q : Int) r := fun hc2 h0 => by
      obtain ⟨w2, g1, g2, g3⟩ := ih (p + 1) m w D r (by omega) (by omega) (by omega) hw (by
        rw [show ((p + 1 : Nat) : Int) - 1 = (p : Int) by omega]; exact hc2) (fun q h2 h3 => hq q (by omega) h3) (by omega)
      refine ⟨w2, g1, g2, fun q hq' => ?_⟩
      rw [g3 q hq']
      by_cases e : q = p
      · subst e
        rw [if_pos (by omega), if_neg (by omega), hwp, h0, if_pos hn]
      · by_cases e2 : q < p
        · rw [if_pos (by omega), if_pos e2]
        · rw [if_neg (by omega), if_neg e2]
    cases r with
    | nil =>
      have e : look (p : Int) [] = 0 := rfl
      rw [e, if_neg (by omega)]
      exact skip rfl rfl
    | cons x r =>
      obtain ⟨g1, g2⟩ := chk_cons.1 hc
      by_cases hx : x.1 = (p : Int)
      · have e : look (p : Int) (x :: r) = x.2 := if_pos hx
        have hne : look (p : Int) r = 0 := look_none fun a ha => by have := chk_mem g2 a ha; omega
        have hlk : ∀ q : Nat, q ≠ p → look (q : Int) (x :: r) = look (q : Int) r := fun q hqp => by
          show (if x.1 = (q : Int) then _ else _) = _
          rw [if_neg (by omega)]
        have hc3 : chk (((p + 1 : Nat) : Int) - 1) r = true := by rw [show ((p + 1 : Nat) : Int) - 1 = x.1 by omega]; exact g2
        rw [e, if_pos (by omega), if_pos hb, if_pos hk]
        by_cases hle : x.2 ≤ now
        · rw [if_pos hle, if_pos ⟨⟨rfl, rfl⟩, rfl, rfl, by omega, by omega⟩, if_pos hb, if_pos hk]
          obtain ⟨w2, k1, k2, k3⟩ := ih (p + 1) m (w.set p 0) (D ++ [(p : Int)]) r (by omega) (by omega) (by omega) (by rw [List.length_set]; exact hw) hc3 (fun q h2 h3 => by
            rw [getD_set _ _ _ _ _ (by omega), if_neg (by omega), hq q (by omega) h3, hlk q (by omega)]) (by simp; omega)
          refine ⟨w2, by rw [k1, dues_in hle, hx]; simp, k2, fun q hq' => ?_⟩
          rw [k3 q hq', getD_set _ _ _ _ _ (by omega)]
          by_cases e1 : q = p
          · subst e1
            rw [if_pos (by omega), if_pos rfl, if_neg (by omega), e, if_pos hle]
          · by_cases e2 : q < p
            · rw [if_pos (by omega), if_neg (by omega), if_pos e2]
            · rw [if_neg (by omega), if_neg e2, hlk q e1]
        · rw [if_neg hle]
          obtain ⟨w2, k1, k2, k3⟩ := ih (p + 1) m w D r (by omega) (by omega) (by omega) hw hc3 (fun q h2 h3 => by
            rw [hq q (by omega) h3, hlk q (by omega)]) (by omega)
          refine ⟨w2, by rw [k1, dues_out hle], k2, fun q hq' => ?_⟩
          rw [k3 q hq']
          by_cases e1 : q = p
          · subst e1
            rw [if_pos (by omega), if_neg (by omega), hwp, e, if_neg hle]
          · by_cases e2 : q < p
            · rw [if_pos (by omega), if_pos e2]
            · rw [if_neg (by omega), if_neg e2, hlk q e1]
      · have e : look (p : Int) (x :: r) = 0 := look_none fun a ha => by
          rcases List.mem_cons.1 ha with rfl | ha
          · exact hx
          · have := chk_mem g2 a ha; omega
        rw [e, if_neg (by omega)]
        exact skip (chk_cons.2 ⟨by omega, g2⟩) e

theorem RDue_ok {l : List (Int × Int)} {now : Int} (hc : chk 0 l = true) (hn : 0 ≤ now ∧ now ≤ 549755813888) : halterref29_Due.f l now = some (dues now l, rests now l, 0) := by
  have hl : l.length ≤ 1000 := by have := chk_len hc (by omega) (by omega); omega
  obtain ⟨w, hw1, hw2, hw3⟩ := whens_eq l hc
  obtain ⟨w2, g1, g2, g3⟩ := rdue_loop now hn.1 99 1 FUEL w [] l rfl (fuel_gt (by omega)) (Nat.le_refl _) hw2 hc (fun q _ h2 => hw3 q h2) (by simp)
  have g1 : halterref29_Due.l0 now FUEL w [] (1 : Int) = _ := g1
  unfold halterref29_Due.f
  rw [May_eq l hl, bind_go, hc, if_neg (fun h => h rfl), if_neg (by omega), if_neg (by omega), hw1, bind_go, g1, bind_go]
  dsimp only
  rw [list_eq w2 g2 (rests now l) (chk_rests now hc) fun q h1 h2 => by
    rw [g3 q h2, if_neg (by omega), look_rests now hn.1 hc], bind_go]
  rfl
theorem RDue_bad (l : List (Int × Int)) (now : Int) (hl : l.length ≤ 1000) (h : ¬ (chk 0 l = true ∧ (0 ≤ now ∧ now ≤ 549755813888))) : halterref29_Due.f l now = some ([], [], 22) := by
  unfold halterref29_Due.f
  rw [May_eq l hl, bind_go]
  by_cases h1 : chk 0 l = true
  · rw [h1, if_neg (fun h => h rfl)]
    by_cases h2 : now < 0
    · rw [if_pos h2]
    · rw [if_neg h2, if_pos (Classical.byContradiction fun h3 => h ⟨h1, by omega, by omega⟩)]
  · rw [if_pos h1]

theorem same_loop (l : List (Int × Int)) (hl : l.length ≤ 1000) : ∀ (d i n : Nat), i + d = l.length → d < n → halterlaw29_same.l0 l l n (i : Int) = some (.inl ()) := by
  intro d
  induction d with
  | zero =>
    intro i n hi hn
    obtain ⟨m, rfl⟩ := fuel_step hn
    unfold halterlaw29_same.l0
    rw [if_neg (by omega)]
  | succ d ih =>
    intro i n hi hn
    obtain ⟨m, rfl⟩ := fuel_step hn
    unfold halterlaw29_same.l0
    rw [if_pos (by omega), if_pos (by omega), if_pos (by omega), if_neg (fun h => h ⟨rfl, rfl⟩), wsucc (by omega)]
    exact ih (i + 1) m (by omega) (by omega)
theorem same_eq (l : List (Int × Int)) (hl : l.length ≤ 1000) : halterlaw29_same.f l l = some true := by
  unfold halterlaw29_same.f
  have h : halterlaw29_same.l0 l l FUEL (0 : Int) = _ := same_loop l hl l.length 0 FUEL (by omega) (fuel_gt (by omega))
  rw [if_neg (fun h => h rfl), h, bind_go]
theorem ints_loop (l : List Int) (hl : l.length ≤ 1000) : ∀ (d i n : Nat), i + d = l.length → d < n → halterlaw29_ints.l0 l l n (i : Int) = some (.inl ()) := by
  intro d
  induction d with
  | zero =>
    intro i n hi hn
    obtain ⟨m, rfl⟩ := fuel_step hn
    unfold halterlaw29_ints.l0
    rw [if_neg (by omega)]
  | succ d ih =>
    intro i n hi hn
    obtain ⟨m, rfl⟩ := fuel_step hn
    unfold halterlaw29_ints.l0
    rw [if_pos (by omega), if_pos (by omega), if_pos (by omega), if_neg (fun h => h rfl), wsucc (by omega)]
    exact ih (i + 1) m (by omega) (by omega)
theorem ints_eq (l : List Int) (hl : l.length ≤ 1000) : halterlaw29_ints.f l l = some true := by
  unfold halterlaw29_ints.f
  have h : halterlaw29_ints.l0 l l FUEL (0 : Int) = _ := ints_loop l hl l.length 0 FUEL (by omega) (fuel_gt (by omega))
  rw [if_neg (fun h => h rfl), h, bind_go]

theorem dues_len (now : Int) : ∀ l : List (Int × Int), (dues now l).length ≤ l.length
  | [] => Nat.le_refl _
  | x :: r => by
    have := dues_len now r
    unfold dues; split <;> simp <;> omega
theorem rests_len (now : Int) : ∀ l : List (Int × Int), (rests now l).length ≤ l.length
  | [] => Nat.le_refl _
  | x :: r => by
    have := rests_len now r
    unfold rests; split <;> simp <;> omega

/-- What both say. -/
theorem both_set (l : List (Int × Int)) (p now after : Int) (hl : l.length ≤ 200) : ∃ l2 n e, l2.length ≤ 1000 ∧ alarm_Set.f l p now after = some (l2, n, e) ∧ halterref29_Set.f l p now after = some (l2, n, e.getD 0) := by
  by_cases h : chk 0 l = true ∧ (0 ≤ now ∧ now ≤ 549755813888) ∧ (1 ≤ p ∧ p ≤ 99) ∧ 0 ≤ after ∧ after ≤ 4294967296
  · obtain ⟨hc, hn, hp, ha⟩ := h
    obtain ⟨l2, h1, h2, h3⟩ := Set_tab hc hp hn ha
    exact ⟨l2, _, _, by have := chk_len h2 (by omega) (by omega); omega, h1, RSet_ok hc hp hn ha h2 h3⟩
  · exact ⟨[], 0, some 22, by simp, Set_bad l p now after (by omega) h, RSet_bad l p now after (by omega) h⟩
theorem both_due (l : List (Int × Int)) (now : Int) (hl : l.length ≤ 200) : ∃ d r e, d.length ≤ 1000 ∧ r.length ≤ 1000 ∧ alarm_Due.f l now = some (d, r, e) ∧ halterref29_Due.f l now = some (d, r, e.getD 0) := by
  by_cases h : chk 0 l = true ∧ (0 ≤ now ∧ now ≤ 549755813888)
  · exact ⟨_, _, none, by have := dues_len now l; omega, by have := rests_len now l; omega, Due_ok h.1 h.2, RDue_ok h.1 h.2⟩
  · exact ⟨[], [], some 22, by simp, by simp, Due_bad l now (by omega) h, RDue_bad l now (by omega) h⟩

theorem AlarmSteps (a0 : (List (Int × Int))) (a1 : (List Int)) (h0 : List.length a0 * 16 ≤ reachBytes) (h1 : ∀ z : (Int × Int), z ∈ a0 → goodT (.pair (.int .i64) (.int .i64)) z) (h2 : List.length a1 = 3) (h3 : ∀ z ∈ a1, (Lit.int .i64 z).wf = true) : halterlaw29_AlarmSteps.f a0 a1 = some true := by
  unfold halterlaw29_AlarmSteps.f
  by_cases hl : a0.length ≤ 120
  · rw [if_neg (by omega), give_eq a0 (by omega), bind_go]
    obtain ⟨l2, n, e, hl2, s1, s2⟩ := both_set a0 (a1.getD 0 0) (a1.getD 1 0) (a1.getD 2 0) (by omega)
    obtain ⟨d, r, f, hd, hr, s3, s4⟩ := both_due a0 (a1.getD 1 0) (by omega)
    rw [s1, bind_go, s2, bind_go, s3, bind_go, s4, bind_go]
    dsimp only
    have hnum : ∀ e : Option Int, num.f e = some (e.getD 0) := fun _ => rfl
    rw [same_eq l2 hl2, bind_go, if_pos rfl, if_pos rfl, hnum, bind_go, if_pos rfl, ints_eq d hd, bind_go, if_pos rfl, same_eq r hr, bind_go, if_pos rfl, hnum, bind_go, if_pos rfl, same_eq a0 (by omega), bind_go, if_pos rfl, Check_eq a0 (by omega), bind_go, May_eq a0 (by omega), bind_go]
    rw [if_pos (by cases chk 0 a0 <;> rfl), sure_eq]
    rfl
  · rw [if_pos (by omega), sure_eq]
    rfl

end Go.Proofs.YtjpabbkcbohmmaaDoor.Pure
