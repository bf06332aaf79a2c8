/- The plain law: what the law computes is true, whatever it is handed. -/
import Derived.Test.YtaiedgjhgkhigaaDoorGImageBack
import Derived.Test.YtaiedgjhgkhigaaDoorE16
import Derived.Laws.BitsAllLaws
set_option linter.unusedVariables false
set_option linter.unusedSimpArgs false
set_option linter.unnecessarySimpa false
namespace Go.Proofs.YtaiedgjhgkhigaaDoor.Pure
open Go Go.Proofs.YtaiedgjhgkhigaaDoorE Go.Proofs.YtaiedgjhgkhigaaDoorGImageBack
theorem wu8 (x : Int) : IntKind.wrap .u8 x = x % 256 := by simp [IntKind.wrap, IntKind.bits, IntKind.signed]
theorem wu16 (x : Int) : IntKind.wrap .u16 x = x % 65536 := by simp [IntKind.wrap, IntKind.bits, IntKind.signed]
theorem wu32 (x : Int) : IntKind.wrap .u32 x = x % 4294967296 := by simp [IntKind.wrap, IntKind.bits, IntKind.signed]
theorem wu64 (x : Int) : IntKind.wrap .u64 x = x % 18446744073709551616 := by simp [IntKind.wrap, IntKind.bits, IntKind.signed]
theorem wi64 {x : Int} (h : -9223372036854775808 ≤ x) (h' : x ≤ 9223372036854775807) : IntKind.wrap .i64 x = x := by
  simp [IntKind.wrap, IntKind.bits, IntKind.signed]
  omega
theorem wu8_id {x : Int} (h : 0 ≤ x ∧ x < 256) : IntKind.wrap .u8 x = x := by rw [wu8]; omega
theorem wu32_id {x : Int} (h : 0 ≤ x ∧ x < 4294967296) : IntKind.wrap .u32 x = x := by rw [wu32]; omega
theorem wu64_id {x : Int} (h : 0 ≤ x ∧ x < 18446744073709551616) : IntKind.wrap .u64 x = x := by rw [wu64]; omega
theorem wsucc {i : Nat} (h : i < 9223372036854775807) : IntKind.wrap .i64 ((i : Int) + 1) = ((i + 1 : Nat) : Int) := by rw [wi64 (by omega) (by omega)]; omega
theorem u8_bd {a : Int} (h : (Lit.int .u8 a).wf = true) : 0 ≤ a ∧ a < 256 := by
  simpa [Lit.wf, IntKind.min, IntKind.max, IntKind.signed, IntKind.bits, ← Int.lt_add_one_iff] using h
theorem u32_bd {a : Int} (h : (Lit.int .u32 a).wf = true) : 0 ≤ a ∧ a < 4294967296 := by
  simpa [Lit.wf, IntKind.min, IntKind.max, IntKind.signed, IntKind.bits, ← Int.lt_add_one_iff] using h
theorem u64_bd {a : Int} (h : (Lit.int .u64 a).wf = true) : 0 ≤ a ∧ a < 18446744073709551616 := by
  simpa [Lit.wf, IntKind.min, IntKind.max, IntKind.signed, IntKind.bits, ← Int.lt_add_one_iff] using h
theorem i64_bd {a : Int} (h : (Lit.int .i64 a).wf = true) : -9223372036854775808 ≤ a ∧ a < 9223372036854775808 := by
  simpa [Lit.wf, IntKind.min, IntKind.max, IntKind.signed, IntKind.bits, ← Int.lt_add_one_iff] using h
theorem fuel_gt {n : Nat} (h : n < 18446744073709551616) : n < FUEL := h
theorem bind_go {α β : Type} (a : α) (f : α → Option β) : (some a).bind f = f a := by rw [Option.bind_some]
theorem drop_getD {α : Type} (l : List α) (i : Nat) (d : α) (h : i < l.length) : l.drop i = l.getD i d :: l.drop (i + 1) := by
  rw [List.drop_eq_getElem_cons h, List.getD_eq_getElem?_getD, List.getElem?_eq_getElem h, Option.getD_some]
theorem getD_mem {α : Type} (l : List α) (i : Nat) (d : α) (h : i < l.length) : l.getD i d ∈ l := by
  rw [List.getD_eq_getElem?_getD, List.getElem?_eq_getElem h, Option.getD_some]; exact List.getElem_mem _
theorem toNat_nat (i : Nat) : Int.toNat (i : Int) = i := rfl
/-- A number behind another one: a round of a loop. -/
theorem fuel_step {d n : Nat} (h : d < n) : ∃ m, n = m + 1 := ⟨n - 1, by omega⟩
/-- Where something stands first. -/
def first (v : Int) : List Int → Option Nat
  | [] => none
  | x :: xs => if x = v then some 0 else (first v xs).map (· + 1)
theorem first_none {v : Int} : ∀ {l : List Int}, first v l = none → ∀ z ∈ l, z ≠ v
  | [], _, z, hz => by cases hz
  | x :: xs, h, z, hz => by
    unfold first at h
    split at h
    · cases h
    · rename_i hx
      rcases List.mem_cons.1 hz with rfl | hz
      · exact hx
      · exact first_none (by simpa using h) z hz
theorem first_some {v : Int} : ∀ {l : List Int} {k : Nat}, first v l = some k → k < l.length ∧ l.getD k 0 = v ∧ ∀ j, j < k → l.getD j 0 ≠ v
  | [], _, h => by cases h
  | x :: xs, k, h => by
    unfold first at h
    split at h
    · cases h
      rename_i hx
      exact ⟨by simp, by simpa using hx, fun j hj => by omega⟩
    · rename_i hx
      cases hf : first v xs with
      | none => simp [hf] at h
      | some m =>
        simp [hf] at h
        subst h
        obtain ⟨h1, h2, h3⟩ := first_some hf
        refine ⟨by simp; omega, by simpa using h2, fun j hj => ?_⟩
        cases j with
        | zero => simpa using hx
        | succ j => simpa using h3 j (by omega)

theorem ofInt_i64 (a : Nat) (ha : a < 18446744073709551616) : (BitVec.ofInt 64 (a : Int)).toNat = a := by
  rw [BitVec.ofInt_natCast, BitVec.toNat_ofNat]; exact Nat.mod_eq_of_lt (by omega)
theorem i64_and (a b : Nat) (ha : a < 9223372036854775808) (hb : b < 9223372036854775808) : bits .and .i64 (a : Int) (b : Int) = ((a &&& b : Nat) : Int) := by
  have hx : a &&& b < 2 ^ 63 := Nat.and_lt_two_pow _ (by omega)
  show IntKind.i64.wrap ((BitVec.ofInt 64 (a : Int) &&& BitVec.ofInt 64 (b : Int)).toNat : Int) = _
  rw [BitVec.toNat_and, ofInt_i64 a (by omega), ofInt_i64 b (by omega), wi64 (by omega) (by omega)]
theorem i64_or (a b : Nat) (ha : a < 9223372036854775808) (hb : b < 9223372036854775808) : bits .or .i64 (a : Int) (b : Int) = ((a ||| b : Nat) : Int) := by
  have hx : a ||| b < 2 ^ 63 := Nat.or_lt_two_pow (by omega) (by omega)
  show IntKind.i64.wrap ((BitVec.ofInt 64 (a : Int) ||| BitVec.ofInt 64 (b : Int)).toNat : Int) = _
  rw [BitVec.toNat_or, ofInt_i64 a (by omega), ofInt_i64 b (by omega), wi64 (by omega) (by omega)]
theorem i64_andNot (a b : Nat) (ha : a < 9223372036854775808) (hb : b < 9223372036854775808) : bits .andNot .i64 (a : Int) (b : Int) = ((a &&& (18446744073709551615 - b) : Nat) : Int) := by
  have hx : a &&& (18446744073709551615 - b) < 2 ^ 63 := Nat.lt_of_le_of_lt Nat.and_le_left (by omega)
  show IntKind.i64.wrap ((BitVec.ofInt 64 (a : Int) &&& ~~~BitVec.ofInt 64 (b : Int)).toNat : Int) = _
  rw [BitVec.toNat_and, BitVec.toNat_not, ofInt_i64 a (by omega), ofInt_i64 b (by omega)]
  have e : 2 ^ 64 - 1 - b = 18446744073709551615 - b := by omega
  rw [e, wi64 (by omega) (by omega)]
/-- A bit taken away. -/
theorem nat_unbit (i x w : Nat) (hi : i < w) (hx : x < 2 ^ w) : x &&& (2 ^ w - 1 - 2 ^ i) = x - x / 2 ^ i % 2 * 2 ^ i := by
  have hp : (2 : Nat) ^ (i + 1) = 2 * 2 ^ i := by rw [Nat.pow_succ]; omega
  have e : x - x / 2 ^ i % 2 * 2 ^ i = 2 ^ (i + 1) * (x / 2 ^ (i + 1)) + x % 2 ^ i := by
    have h1 := Nat.div_add_mod x (2 ^ i)
    have h2 := Nat.div_add_mod (x / 2 ^ i) 2
    have h3 : x / 2 ^ (i + 1) = x / 2 ^ i / 2 := by rw [Nat.pow_succ, Nat.div_div_eq_div_mul]
    rw [h3, hp]
    generalize x / 2 ^ i = q at *
    generalize x % 2 ^ i = r at *
    generalize 2 ^ i = P at *
    have h4 : 2 * P * (q / 2) = P * (2 * (q / 2)) := by rw [Nat.mul_comm 2 P, Nat.mul_assoc]
    have h5 : P * q = P * (2 * (q / 2)) + P * (q % 2) := by rw [← Nat.mul_add, h2]
    rw [h4, Nat.mul_comm (q % 2) P]
    omega
  have hr : x % 2 ^ i < 2 ^ (i + 1) := by
    have := Nat.mod_lt x (Nat.two_pow_pos i)
    omega
  rw [e]
  apply Nat.eq_of_testBit_eq
  intro j
  rw [Nat.sub_sub, Nat.add_comm 1 (2 ^ i), Nat.testBit_and, Nat.testBit_two_pow_sub_succ (Nat.pow_lt_pow_right (by omega) hi), Nat.testBit_two_pow, Nat.testBit_two_pow_mul_add _ hr]
  by_cases hj : j < i + 1
  · rw [if_pos hj, Nat.testBit_mod_two_pow]
    by_cases h2 : j = i
    · subst h2; simp
    · have h3 : j < i := by omega
      have h4 : j < w := by omega
      simp [h3, h4, Ne.symm h2]
  · rw [if_neg hj, Nat.testBit_div_two_pow, show j - (i + 1) + (i + 1) = j by omega]
    have h2 : ¬ i = j := by omega
    by_cases hw : j < w
    · simp [hw, h2]
    · have : x.testBit j = false := Nat.testBit_lt_two_pow (Nat.lt_of_lt_of_le hx (Nat.pow_le_pow_right (by omega) (by omega)))
      simp [this]

abbrev Sg := Int × (Int × (Int × (List Int)))
abbrev dS : Sg := ((0 : Int), ((0 : Int), ((0 : Int), ([] : List Int))))
def MayS (s : Sg) : Prop := 0 ≤ s.1 ∧ s.1 < s.2.1 ∧ s.2.1 ≤ 4080 ∧ s.2.2.1 ≤ 7 ∧ ((s.2.2.2.length : Nat) : Int) ≤ 65535 ∧ ((s.2.2.2.length : Nat) : Int) ≤ (s.2.1 - s.1) * 256
instance (s : Sg) : Decidable (MayS s) := by unfold MayS; infer_instance
def chk : Int → List Sg → Bool
  | _, [] => true
  | p, s :: r => decide (MayS s) && decide (p ≤ s.1) && chk s.2.1 r
theorem chk_cons (p : Int) (s : Sg) (r : List Sg) : chk p (s :: r) = (decide (MayS s) && decide (p ≤ s.1) && chk s.2.1 r) := rfl
def runsB (e : Int) (s : Sg) : Bool := decide (4 ≤ s.2.2.1 % 8 ∧ s.1 ≤ e / 256 ∧ e / 256 < s.2.1)
def okI (e : Int) (l : List Sg) : Bool := decide (1 ≤ l.length ∧ l.length ≤ 8 ∧ e % 4 = 0) && chk 0 l && l.any (runsB e)
/-- Uses are bytes. -/
def PermB (s : Sg) : Prop := 0 ≤ s.2.2.1 ∧ s.2.2.1 < 256
theorem may_eq (s : Sg) : image_Seg_may.f s.1 s.2.1 s.2.2.1 s.2.2.2 = some (decide (MayS s)) := by
  unfold image_Seg_may.f
  by_cases h1 : s.1 ≥ 0
  · by_cases h2 : s.1 < s.2.1
    · by_cases h3 : s.2.1 ≤ 4080
      · by_cases h4 : s.2.2.1 ≤ 7
        · rw [if_pos h1, if_pos h2, if_pos h3, if_pos h4, wi64 (x := s.2.1 - s.1) (by omega) (by omega), wi64 (by omega) (by omega)]
          congr 1
          refine decide_eq_decide.2 ?_
          unfold MayS
          split <;> omega
        · rw [if_pos h1, if_pos h2, if_pos h3, if_neg h4, decide_eq_false (show ¬ MayS s from fun h => by unfold MayS at h; omega)]
      · rw [if_pos h1, if_pos h2, if_neg h3, decide_eq_false (show ¬ MayS s from fun h => by unfold MayS at h; omega)]
    · rw [if_pos h1, if_neg h2, decide_eq_false (show ¬ MayS s from fun h => by unfold MayS at h; omega)]
  · rw [if_neg h1, decide_eq_false (show ¬ MayS s from fun h => by unfold MayS at h; omega)]
theorem and4 : ∀ n : Fin 256, (bits .and .u8 ((n.val : Nat) : Int) 4 = 0 ↔ n.val % 8 < 4) := by decide +kernel
theorem and4_i {x : Int} (h : 0 ≤ x ∧ x < 256) : (bits .and .u8 x 4 = 0 ↔ x % 8 < 4) := by
  have := and4 ⟨x.toNat, by omega⟩
  simp only at this
  rw [show ((x.toNat : Nat) : Int) = x by omega] at this
  rw [this]
  omega
theorem runs_eq (s : Sg) (hp : PermB s) (e : Int) (he : 0 ≤ e ∧ e < 4294967296) : image_Seg_runs.f s.1 s.2.1 s.2.2.1 s.2.2.2 e = some (runsB e s) := by
  unfold image_Seg_runs.f runsB
  have hd : Int.tdiv e 256 = e / 256 := Int.tdiv_eq_ediv_of_nonneg he.1
  have hw : IntKind.wrap .i64 (IntKind.wrap .u32 (Int.tdiv e 256)) = e / 256 := by rw [hd, wu32_id (by omega), wi64 (by omega) (by omega)]
  rw [hw]
  have h4 := and4_i hp
  by_cases h1 : bits .and .u8 s.2.2.1 4 = 0
  · rw [if_neg (by simpa using h1), decide_eq_false]
    have := h4.1 h1
    omega
  · have h8 : ¬ s.2.2.1 % 8 < 4 := fun h => h1 (h4.2 h)
    rw [if_pos h1]
    by_cases h2 : e / 256 ≥ s.1
    · rw [if_pos h2]
      congr 1
      rw [decide_eq_decide]
      omega
    · rw [if_neg h2, decide_eq_false (by omega)]
theorem index_loop (l : List Sg) (hl : ∀ s ∈ l, PermB s) (hn : l.length ≤ 9223372036854775807) (e : Int) (he : 0 ≤ e ∧ e < 4294967296) (z : List Sg) : ∀ (d n k : Nat), l.length - k = d → d < n → k ≤ l.length → ∃ r : Unit ⊕ Int, slices_IndexFunc_image_Seg_image_Seg.l0 l e z n (k : Int) = some r ∧ (match r with | .inl _ => (l.drop k).any (runsB e) = false | .inr j => (l.drop k).any (runsB e) = true ∧ 0 ≤ j) := by
  intro d
  induction d with
  | zero =>
    intro n k hk hd hle
    obtain ⟨n, rfl⟩ := fuel_step hd
    have : k = l.length := by omega
    subst this
    unfold slices_IndexFunc_image_Seg_image_Seg.l0
    rw [if_neg (by omega)]
    exact ⟨_, rfl, by rw [List.drop_length, List.any_nil]⟩
  | succ d ih =>
    intro n k hk hd hle
    obtain ⟨n, rfl⟩ := fuel_step hd
    unfold slices_IndexFunc_image_Seg_image_Seg.l0
    have hr : image_Check_1.f (List.getD l (Int.toNat (k : Int)) dS).1 (List.getD l (Int.toNat (k : Int)) dS).2.1 (List.getD l (Int.toNat (k : Int)) dS).2.2.1 (List.getD l (Int.toNat (k : Int)) dS).2.2.2 e z = some (runsB e (l.getD k dS)) := by
      unfold image_Check_1.f
      rw [toNat_nat, runs_eq _ (hl _ (getD_mem l k dS (by omega))) e he, bind_go]
    rw [if_pos (by omega), if_pos ⟨by omega, by omega⟩, hr, bind_go, drop_getD l k dS (by omega), List.any_cons, wsucc (by omega)]
    obtain ⟨r, h1, h2⟩ := ih n (k + 1) (by omega) (by omega) (by omega)
    cases hb : runsB e (l.getD k dS)
    · rw [if_neg (by simp)]
      refine ⟨r, h1, ?_⟩
      cases r with
      | inl u => simpa using h2
      | inr j => simpa using h2
    · rw [if_pos rfl]
      exact ⟨_, rfl, by simp⟩
theorem contains_eq (l : List Sg) (hl : ∀ s ∈ l, PermB s) (hn : l.length ≤ 9223372036854775807) (e : Int) (he : 0 ≤ e ∧ e < 4294967296) (z : List Sg) : slices_ContainsFunc_image_Seg_image_Seg.f l e z = some (l.any (runsB e)) := by
  obtain ⟨r, h, h2⟩ := index_loop l hl hn e he z _ FUEL 0 rfl (fuel_gt (by omega)) (by omega)
  rw [List.drop_zero] at h2
  have h : slices_IndexFunc_image_Seg_image_Seg.l0 l e z FUEL (0 : Int) = _ := h
  unfold slices_ContainsFunc_image_Seg_image_Seg.f slices_IndexFunc_image_Seg_image_Seg.f
  rw [h, bind_go]
  cases r with
  | inl u =>
    simp only at h2
    rw [h2]; rfl
  | inr j =>
    simp only at h2
    rw [h2.1]
    simp [h2.2]
def prevT (l : List Sg) : Nat → Int
  | 0 => 0
  | j + 1 => (l.getD j dS).2.1
theorem check_loop (e : Int) (l : List Sg) (hn : l.length ≤ 8) : ∀ (d n k : Nat), l.length - k = d → d < n → k ≤ l.length → image_Check.l0 e l n (k : Int) = some (if chk (prevT l k) (l.drop k) then .inl () else .inr ()) := by
  intro d
  induction d with
  | zero =>
    intro n k hk hd hle
    obtain ⟨n, rfl⟩ := fuel_step hd
    have : k = l.length := by omega
    subst this
    unfold image_Check.l0
    rw [if_neg (by omega), List.drop_length]
    rfl
  | succ d ih =>
    intro n k hk hd hle
    obtain ⟨n, rfl⟩ := fuel_step hd
    unfold image_Check.l0
    have hm := may_eq (l.getD k dS)
    have hs := ih n (k + 1) (by omega) (by omega) (by omega)
    rw [← wsucc (by omega)] at hs
    rw [if_pos (by omega), if_pos ⟨by omega, by omega⟩, toNat_nat, hm, bind_go, drop_getD l k dS (by omega), hs, chk_cons]
    by_cases h1 : MayS (l.getD k dS)
    · rw [decide_eq_true h1, if_neg (by simp)]
      simp only [Bool.true_and]
      cases k with
      | zero =>
        rw [if_neg (by simp)]
        have : (0 : Int) ≤ (l.getD 0 dS).1 := h1.1
        rw [show prevT l 0 = 0 from rfl, decide_eq_true this]
        rfl
      | succ j =>
        rw [if_pos (by omega)]
        have hj : IntKind.wrap .i64 (((j + 1 : Nat) : Int) - 1) = (j : Int) := by rw [wi64 (by omega) (by omega)]; omega
        rw [hj, if_pos ⟨by omega, by omega⟩, toNat_nat]
        by_cases h2 : (l.getD j dS).2.1 > (l.getD (j + 1) dS).1
        · rw [if_pos h2, show prevT l (j + 1) = (l.getD j dS).2.1 from rfl, decide_eq_false (by omega)]
          rfl
        · rw [if_neg h2, show prevT l (j + 1) = (l.getD j dS).2.1 from rfl, decide_eq_true (show (l.getD j dS).2.1 ≤ (l.getD (j + 1) dS).1 by omega)]
          rfl
    · rw [decide_eq_false h1, if_pos (by simp)]
      rfl
theorem check_eq (e : Int) (he : 0 ≤ e ∧ e < 4294967296) (l : List Sg) (hl : ∀ s ∈ l, PermB s) (hn : l.length ≤ 9223372036854775807) : image_Check.f e l = some (if okI e l then none else some 8) := by
  unfold image_Check.f okI
  have hm : Int.tmod e 4 = e % 4 := Int.tmod_eq_emod_of_nonneg he.1
  rw [hm]
  by_cases h1 : ((l.length : Nat) : Int) < 1
  · rw [if_pos h1, decide_eq_false (by omega)]; rfl
  by_cases h2 : ((l.length : Nat) : Int) > 8
  · rw [if_neg h1, if_pos h2, decide_eq_false (by omega)]; rfl
  by_cases h3 : e % 4 = 0
  · rw [if_neg h1, if_neg h2, if_neg (by simpa using h3), decide_eq_true (by omega)]
    have h := check_loop e l (by omega) _ FUEL 0 rfl (fuel_gt (by omega)) (by omega)
    have h : image_Check.l0 e l FUEL (0 : Int) = _ := h
    rw [h, bind_go, List.drop_zero, show prevT l 0 = 0 from rfl]
    cases chk 0 l
    · rfl
    · simp only [if_true, Bool.true_and]
      rw [contains_eq l hl hn e he l, bind_go]
      cases l.any (runsB e) <;> rfl
  · rw [if_neg h1, if_neg h2, if_pos h3, decide_eq_false (by omega)]; rfl
theorem chk_may : ∀ (l : List Sg) (p : Int), chk p l = true → ∀ s ∈ l, MayS s
  | [], _, _, s, hs => (List.not_mem_nil hs).elim
  | a :: l, p, h, s, hs => by
    unfold chk at h
    simp only [Bool.and_eq_true, decide_eq_true_eq] at h
    rcases List.mem_cons.1 hs with rfl | hs
    · exact h.1.1
    · exact chk_may l _ h.2 s hs
theorem okI_parts {e : Int} {l : List Sg} (h : okI e l = true) : 1 ≤ l.length ∧ l.length ≤ 8 ∧ e % 4 = 0 ∧ chk 0 l = true ∧ l.any (runsB e) = true := by
  unfold okI at h
  simp only [Bool.and_eq_true, decide_eq_true_eq] at h
  exact ⟨h.1.1.1, h.1.1.2.1, h.1.1.2.2, h.1.2, h.2⟩
theorem encode_bad (e : Int) (he : 0 ≤ e ∧ e < 4294967296) (l : List Sg) (hl : ∀ s ∈ l, PermB s) (hn : l.length ≤ 9223372036854775807) (h : okI e l = false) : image_Encode.f e l = some (some 8, []) := by
  unfold image_Encode.f
  rw [check_eq e he l hl hn, h, bind_go]
  rfl
theorem sure_ok : halterlaw21_sure.f = some true := by kernel_rfl
theorem give_loop (e : Int) (l : List Sg) (hn : l.length * 48 ≤ 140737488351232) : ∀ (d n k : Nat), l.length - k = d → d < n → k ≤ l.length → halterlaw21_giveImage.l0 e l n (l.take k) (k : Int) = some l := by
  intro d
  induction d with
  | zero =>
    intro n k hk hd hle
    obtain ⟨n, rfl⟩ := fuel_step hd
    have : k = l.length := by omega
    subst this
    unfold halterlaw21_giveImage.l0
    rw [if_neg (by omega), List.take_length]
  | succ d ih =>
    intro n k hk hd hle
    obtain ⟨n, rfl⟩ := fuel_step hd
    unfold halterlaw21_giveImage.l0
    have hs := ih n (k + 1) (by omega) (by omega) (by omega)
    rw [← wsucc (by omega)] at hs
    have ht : l.take k ++ List.take 1 [((l.getD k dS).1, ((l.getD k dS).2.1, ((l.getD k dS).2.2.1, (l.getD k dS).2.2.2)))] = l.take (k + 1) := by
      rw [List.take_succ_eq_append_getElem (show k < l.length by omega), List.getD_eq_getElem?_getD, List.getElem?_eq_getElem (show k < l.length by omega)]
      rfl
    rw [if_pos (by omega), if_pos ⟨by omega, by omega⟩, toNat_nat, ht]
    rw [if_pos]
    · exact hs
    · refine ⟨by omega, rfl, rfl, ?_⟩
      simp only [List.length_take, List.length_cons, List.length_nil]
      omega
theorem give_eq (e : Int) (l : List Sg) (hn : l.length * 48 ≤ 140737488351232) : halterlaw21_giveImage.f e l = some (e, l) := by
  unfold halterlaw21_giveImage.f
  have h := give_loop e l hn _ FUEL 0 rfl (fuel_gt (by omega)) (by omega)
  have h : halterlaw21_giveImage.l0 e l FUEL [] (0 : Int) = _ := h
  rw [h]
  rfl

/-- A number's bytes, the least ahead. -/
def le : Nat → Int → List Int
  | 0, _ => []
  | n + 1, v => v % 256 :: le n (v / 256)
theorem le_length : ∀ (n : Nat) (v : Int), (le n v).length = n
  | 0, _ => rfl
  | n + 1, v => by simp [le, le_length n]
theorem shr8_32 (x : Int) : shr .u32 x 8 = x / 256 := by simp [shr, IntKind.bits]
theorem shr8_64 (x : Int) : shr .i64 x 8 = x / 256 := by simp [shr, IntKind.bits]
theorem two_eq (v : Int) (hv : 0 ≤ v ∧ v < 9223372036854775808) : image_two.f v = some (le 2 v) := by
  unfold image_two.f
  rw [shr8_64, wu8, wu8]
  simp [le]
theorem store_loop (N : Nat) (hN : N ≤ 1000) : ∀ (d n k : Nat) (v : Int) (pre : List Int), pre.length = k → N - k = d → d < n → k ≤ N → 0 ≤ v ∧ v < 4294967296 → word_Store.l0 (N : Int) n pre v (k : Int) = some (pre ++ le d v) := by
  intro d
  induction d with
  | zero =>
    intro n k v pre hp hk hd hle hv
    obtain ⟨n, rfl⟩ := fuel_step hd
    unfold word_Store.l0
    rw [if_neg (by omega)]
    simp [le]
  | succ d ih =>
    intro n k v pre hp hk hd hle hv
    obtain ⟨n, rfl⟩ := fuel_step hd
    unfold word_Store.l0
    rw [if_pos (by omega), if_pos ⟨⟨rfl, rfl⟩, rfl, rfl, by omega, by omega⟩, wu8, shr8_32, wsucc (by omega),
      ih n (k + 1) (v / 256) (pre ++ [v % 256]) (by simp [hp]) (by omega) (by omega) (by omega) (by omega)]
    simp [le]
theorem store_eq (v : Int) (hv : 0 ≤ v ∧ v < 4294967296) : word_Store.f v 4 = some (le 4 v, none) := by
  unfold word_Store.f word_sized.f
  have h := store_loop 4 (by omega) 4 FUEL 0 v [] rfl rfl (fuel_gt (by omega)) (by omega) hv
  have h : word_Store.l0 (4 : Int) FUEL [] v (0 : Int) = _ := h
  rw [if_neg (by omega), if_neg (by omega), bind_go, if_neg (by simp), if_pos ⟨rfl, by omega, by omega, by omega⟩, h]
  rfl
/-! Lists behind each other. -/
theorem sum_loop (ps : List (List Int)) (hb : ps.flatten.length ≤ 140737488355328) (hn : ps.length ≤ 1000) : ∀ (d n k : Nat), ps.length - k = d → d < n → k ≤ ps.length → slices_Concat_byte_byte.l0 ps n (((ps.take k).flatten.length : Nat) : Int) (k : Int) = some ((ps.flatten.length : Nat) : Int) := by
  intro d
  induction d with
  | zero =>
    intro n k hk hd hle
    obtain ⟨n, rfl⟩ := fuel_step hd
    have : k = ps.length := by omega
    subst this
    unfold slices_Concat_byte_byte.l0
    rw [if_neg (by omega), List.take_length]
  | succ d ih =>
    intro n k hk hd hle
    obtain ⟨n, rfl⟩ := fuel_step hd
    unfold slices_Concat_byte_byte.l0
    have hs := ih n (k + 1) (by omega) (by omega) (by omega)
    have ht : (ps.take (k + 1)).flatten = (ps.take k).flatten ++ ps.getD k [] := by
      rw [List.take_succ_eq_append_getElem (show k < ps.length by omega), List.flatten_append, List.getD_eq_getElem?_getD, List.getElem?_eq_getElem (show k < ps.length by omega)]
      simp
    have hb2 : (ps.take (k + 1)).flatten.length ≤ ps.flatten.length := by
      have : ps.flatten = (ps.take (k + 1)).flatten ++ (ps.drop (k + 1)).flatten := by rw [← List.flatten_append, List.take_append_drop]
      rw [this, List.length_append]
      omega
    rw [ht, List.length_append] at hs hb2
    rw [if_pos (by omega), if_pos ⟨by omega, by omega⟩, toNat_nat, wi64 (by omega) (by omega), if_neg (by omega), wsucc (by omega), show (((ps.take k).flatten.length : Nat) : Int) + (((ps.getD k []).length : Nat) : Int) = (((ps.take k).flatten.length + (ps.getD k []).length : Nat) : Int) by omega, hs]
theorem concat_loop (ps : List (List Int)) (hb : ps.flatten.length ≤ 140737488355328) (hn : ps.length ≤ 1000) : ∀ (d n k : Nat), ps.length - k = d → d < n → k ≤ ps.length → slices_Concat_byte_byte.l1 ps n ((ps.take k).flatten) (k : Int) = some ps.flatten := by
  intro d
  induction d with
  | zero =>
    intro n k hk hd hle
    obtain ⟨n, rfl⟩ := fuel_step hd
    have : k = ps.length := by omega
    subst this
    unfold slices_Concat_byte_byte.l1
    rw [if_neg (by omega), List.take_length]
  | succ d ih =>
    intro n k hk hd hle
    obtain ⟨n, rfl⟩ := fuel_step hd
    unfold slices_Concat_byte_byte.l1
    have hs := ih n (k + 1) (by omega) (by omega) (by omega)
    have ht : (ps.take (k + 1)).flatten = (ps.take k).flatten ++ ps.getD k [] := by
      rw [List.take_succ_eq_append_getElem (show k < ps.length by omega), List.flatten_append, List.getD_eq_getElem?_getD, List.getElem?_eq_getElem (show k < ps.length by omega)]
      simp
    have hb2 : (ps.take (k + 1)).flatten.length ≤ ps.flatten.length := by
      have : ps.flatten = (ps.take (k + 1)).flatten ++ (ps.drop (k + 1)).flatten := by rw [← List.flatten_append, List.take_append_drop]
      rw [this, List.length_append]
      omega
    rw [ht] at hs hb2
    rw [List.length_append] at hb2
    rw [if_pos (by omega), if_pos ⟨by omega, by omega⟩, toNat_nat, if_pos ⟨trivial, rfl, rfl, by omega, by omega⟩, wsucc (by omega), hs]
theorem grow_eq (n : Nat) (h : n ≤ 140737488355328) : slices_Grow_byte_byte.f (n : Int) = some [] := by
  unfold slices_Grow_byte_byte.f
  rw [if_neg (by omega), Int.sub_zero, wi64 (by omega) (by omega)]
  by_cases h0 : (n : Int) > 0
  · rw [if_pos h0, if_pos ⟨by omega, by omega, by omega⟩, if_pos ⟨⟨by omega, by omega⟩, trivial⟩]
  · rw [if_neg h0]
theorem concat_eq (ps : List (List Int)) (hb : ps.flatten.length ≤ 140737488355328) (hn : ps.length ≤ 1000) : slices_Concat_byte_byte.f ps = some ps.flatten := by
  unfold slices_Concat_byte_byte.f
  have h := sum_loop ps hb hn _ FUEL 0 rfl (fuel_gt (by omega)) (by omega)
  have h : slices_Concat_byte_byte.l0 ps FUEL (0 : Int) (0 : Int) = _ := h
  have h2 := concat_loop ps hb hn _ FUEL 0 rfl (fuel_gt (by omega)) (by omega)
  have h2 : slices_Concat_byte_byte.l1 ps FUEL [] (0 : Int) = _ := h2
  rw [h, bind_go, grow_eq _ hb, bind_go, h2, bind_go]

def encS (s : Sg) : List Int := le 2 s.1 ++ (le 2 s.2.1 ++ ([s.2.2.1] ++ (le 2 ((s.2.2.2.length : Nat) : Int) ++ s.2.2.2)))
def heads (e : Int) (l : List Sg) : List Int := [104, 120, 48, 49] ++ (le 4 e ++ [((l.length : Nat) : Int) % 256])
def img (e : Int) (l : List Sg) : List Int := heads e l ++ l.flatMap encS
theorem encS_len (s : Sg) (h : MayS s) : (encS s).length ≤ 65542 := by
  have := h.2.2.2.2.1
  unfold encS
  simp only [List.length_append, le_length, List.length_cons, List.length_nil]
  omega
theorem enc_len : ∀ (l : List Sg), (∀ s ∈ l, MayS s) → (l.flatMap encS).length ≤ l.length * 65542
  | [], _ => by simp
  | s :: l, h => by
    have h1 := encS_len s (h s (by simp))
    have h2 := enc_len l (fun z hz => h z (by simp [hz]))
    rw [List.flatMap_cons, List.length_append, List.length_cons]
    omega
theorem heads_len (e : Int) (l : List Sg) : (heads e l).length = 9 := by simp [heads, le_length]
theorem take_enc (l : List Sg) (k : Nat) (h : k < l.length) : (l.take (k + 1)).flatMap encS = (l.take k).flatMap encS ++ encS (l.getD k dS) := by
  rw [List.take_succ_eq_append_getElem h, List.flatMap_append, List.getD_eq_getElem?_getD, List.getElem?_eq_getElem h]
  simp
theorem enc_loop (t3 : List Int × Option Int) (e : Int) (l : List Sg) (hm : ∀ s ∈ l, MayS s) (hn : l.length ≤ 8) (hd0 : List Int) (hh : hd0.length = 9) : ∀ (d n k : Nat), l.length - k = d → d < n → k ≤ l.length → image_Encode.l0 t3 e l n (hd0 ++ (l.take k).flatMap encS) (k : Int) = some (hd0 ++ l.flatMap encS) := by
  intro d
  induction d with
  | zero =>
    intro n k hk hd hle
    obtain ⟨n, rfl⟩ := fuel_step hd
    have : k = l.length := by omega
    subst this
    unfold image_Encode.l0
    rw [if_neg (by omega), List.take_length]
  | succ d ih =>
    intro n k hk hd hle
    obtain ⟨n, rfl⟩ := fuel_step hd
    unfold image_Encode.l0
    have hs := ih n (k + 1) (by omega) (by omega) (by omega)
    rw [take_enc l k (by omega)] at hs
    have hM := hm _ (getD_mem l k dS (by omega))
    have hl := enc_len (l.take k) (fun s hs => hm s (List.mem_of_mem_take hs))
    have hl2 := encS_len _ hM
    rw [List.length_take, Nat.min_eq_left (by omega)] at hl
    rw [if_pos (by omega), if_pos ⟨by omega, by omega⟩, toNat_nat]
    generalize l.getD k dS = s at hM hl2 hs ⊢
    unfold MayS at hM
    have hf : (List.take 6 [hd0 ++ (l.take k).flatMap encS, le 2 s.1, le 2 s.2.1, [s.2.2.1], le 2 ((s.2.2.2.length : Nat) : Int), s.2.2.2]).flatten = hd0 ++ ((l.take k).flatMap encS ++ encS s) := by
      simp [encS, List.append_assoc]
    rw [two_eq s.1 (by omega), bind_go, two_eq s.2.1 (by omega), bind_go, two_eq _ (by omega), bind_go, concat_eq _ (by rw [hf, List.length_append, List.length_append]; omega) (by simp), bind_go, hf, wsucc (by omega), hs]
theorem Encode_eq (e : Int) (he : 0 ≤ e ∧ e < 4294967296) (l : List Sg) (hl : ∀ s ∈ l, PermB s) (hn : l.length ≤ 9223372036854775807) : image_Encode.f e l = some (if okI e l then (none, img e l) else (some 8, [])) := by
  cases hok : okI e l with
  | false => rw [encode_bad e he l hl hn hok]; rfl
  | true =>
    obtain ⟨p1, p2, p3, p4, p5⟩ := okI_parts hok
    have hm := chk_may l 0 p4
    unfold image_Encode.f
    rw [check_eq e he l hl hn, hok, bind_go, if_pos rfl, if_neg (by simp), store_eq e he, bind_go, if_neg (by simp)]
    have hf : (List.take 3 [[(104 : Int), 120, 48, 49], le 4 e, [IntKind.wrap .u8 ((l.length : Nat) : Int)]]).flatten = heads e l := by
      rw [wu8]; simp [heads]
    rw [concat_eq _ (by rw [hf, heads_len]; omega) (by simp), bind_go, hf]
    have h := enc_loop (le 4 e, none) e l hm p2 (heads e l) (heads_len e l) _ FUEL 0 rfl (fuel_gt (by omega)) (by omega)
    rw [List.take_zero, List.flatMap_nil, List.append_nil] at h
    have h : image_Encode.l0 (le 4 e, none) e l FUEL (heads e l) (0 : Int) = _ := h
    rw [h]
    rfl

theorem bytes_of (l : List Int) (h : ∀ z ∈ l, 0 ≤ z ∧ z < 256) : bytesOf (strOfNums l) = l := by
  unfold bytesOf
  rw [strOfNums_data, List.map_map]
  conv => rhs; rw [← List.map_id l]
  apply List.map_congr_left
  intro z hz
  have := h z hz
  show ((UInt8.ofNat z.toNat).toNat : Int) = z
  rw [UInt8.toNat_ofNat']
  omega

def levN : List Int → Nat
  | [] => 0
  | c :: r => c.toNat + 256 * levN r
def Bytes (l : List Int) : Prop := ∀ z ∈ l, 0 ≤ z ∧ z < 256
theorem Bytes.take {l : List Int} (h : Bytes l) (n : Nat) : Bytes (l.take n) := fun z hz => h z (List.mem_of_mem_take hz)
theorem Bytes.drop {l : List Int} (h : Bytes l) (n : Nat) : Bytes (l.drop n) := fun z hz => h z (List.mem_of_mem_drop hz)
theorem levN_lt : ∀ (l : List Int), Bytes l → levN l < 256 ^ l.length
  | [], _ => by simp [levN]
  | c :: r, h => by
    have h1 := h c (by simp)
    have h2 := levN_lt r (fun z hz => h z (by simp [hz]))
    simp only [levN, List.length_cons, Nat.pow_succ]
    omega
theorem levN_lt4 {l : List Int} (h : Bytes l) (hl : l.length ≤ 4) : levN l < 4294967296 :=
  Nat.lt_of_lt_of_le (levN_lt l h) (Nat.le_trans (Nat.pow_le_pow_right (by decide) hl) (by decide))
theorem levN_lt2 {l : List Int} (h : Bytes l) (hl : l.length ≤ 2) : levN l < 65536 :=
  Nat.lt_of_lt_of_le (levN_lt l h) (Nat.le_trans (Nat.pow_le_pow_right (by decide) hl) (by decide))
theorem levN_lt3 {l : List Int} (h : Bytes l) (hl : l.length ≤ 3) : levN l < 16777216 :=
  Nat.lt_of_lt_of_le (levN_lt l h) (Nat.le_trans (Nat.pow_le_pow_right (by decide) hl) (by decide))
theorem levN_snoc : ∀ (l : List Int) (c : Int), levN (l ++ [c]) = levN l + c.toNat * 256 ^ l.length
  | [], c => by simp [levN]
  | x :: l, c => by
    simp only [List.cons_append, levN, levN_snoc l c, List.length_cons, Nat.pow_succ, Nat.mul_add]
    rw [show c.toNat * (256 ^ l.length * 256) = 256 * (c.toNat * 256 ^ l.length) by rw [← Nat.mul_assoc, Nat.mul_comm]]
    omega
theorem levN_zeros : ∀ n, levN (List.replicate n (0 : Int)) = 0
  | 0 => rfl
  | n + 1 => by simp [List.replicate_succ, levN, levN_zeros n]
theorem or_add (a c k : Nat) (ha : a < 2 ^ k) : a ||| (c * 2 ^ k) = a + c * 2 ^ k := by
  rw [Nat.or_comm, ← Nat.shiftLeft_eq, ← Nat.shiftLeft_add_eq_or_of_lt ha, Nat.add_comm]
theorem num_loop (t1 : List Int × List Int × Bool) (L : List Int) (hL : t1.1 = L) (hb : Bytes L) (h4 : L.length ≤ 4) : ∀ (d n k : Nat), L.length - k = d → d < n → k ≤ L.length → image_reader_number_v1.l0 t1 n ((levN (L.take k) : Nat) : Int) (k : Int) = some ((levN L : Nat) : Int) := by
  intro d
  induction d with
  | zero =>
    intro n k hk hd hle
    obtain ⟨n, rfl⟩ := fuel_step hd
    have : k = L.length := by omega
    subst this
    unfold image_reader_number_v1.l0
    rw [hL, if_neg (by omega), List.take_length]
  | succ d ih =>
    intro n k hk hd hle
    obtain ⟨n, rfl⟩ := fuel_step hd
    unfold image_reader_number_v1.l0
    have hs := ih n (k + 1) (by omega) (by omega) (by omega)
    have hc := hb _ (getD_mem L k 0 (by omega))
    have ht : L.take (k + 1) = L.take k ++ [L.getD k 0] := by
      rw [List.take_succ_eq_append_getElem (show k < L.length by omega), List.getD_eq_getElem?_getD, List.getElem?_eq_getElem (show k < L.length by omega)]
      rfl
    have hlen : (L.take k).length = k := by rw [List.length_take]; omega
    have hlt := levN_lt (L.take k) (hb.take k)
    rw [hlen] at hlt
    rw [ht, levN_snoc, hlen] at hs
    rw [hL, if_pos (by omega), if_pos ⟨by omega, by omega⟩, toNat_nat, wi64 (x := 8 * (k : Int)) (by omega) (by omega), if_pos (by omega)]
    generalize L.getD k 0 = c at hc hs ⊢
    have hP : 256 ^ k = 2 ^ (8 * k) := by rw [show (256 : Nat) = 2 ^ 8 from rfl, ← Nat.pow_mul]
    have hPb : 2 ^ (8 * k) ≤ 2 ^ 24 := Nat.pow_le_pow_right (by decide) (by omega)
    rw [hP] at hlt hs
    have hcn : c.toNat * 2 ^ (8 * k) ≤ 255 * 2 ^ (8 * k) := Nat.mul_le_mul_right _ (by omega)
    have hshl : shl .i64 (IntKind.wrap .i64 c) (8 * (k : Int)) = ((c.toNat * 2 ^ (8 * k) : Nat) : Int) := by
      rw [wi64 (x := c) (by omega) (by omega)]
      unfold shl
      have hm : min (Int.toNat (8 * (k : Int))) (IntKind.bits .i64) = 8 * k := by
        rw [show Int.toNat (8 * (k : Int)) = 8 * k by omega, show IntKind.bits .i64 = 64 from rfl]
        omega
      rw [hm, show c * 2 ^ (8 * k) = ((c.toNat * 2 ^ (8 * k) : Nat) : Int) by
        rw [Int.natCast_mul, Int.toNat_of_nonneg hc.1, Int.natCast_pow]; rfl]
      rw [wi64 (by omega) (by omega)]
    rw [hshl, i64_or _ _ (by omega) (by omega), or_add _ _ _ hlt, wsucc (by omega), hs]
theorem clone_eq (l : List Int) (h : l.length ≤ 140737488355328) : slices_Clone_byte_byte_v1.f l = some l := by
  unfold slices_Clone_byte_byte_v1.f
  by_cases h0 : l.length = 0
  · rw [if_pos h0]
    unfold same
    have : l = [] := List.length_eq_zero_iff.1 h0
    subst this
    rfl
  · rw [if_neg h0, if_pos ⟨trivial, rfl, rfl, by omega, by omega⟩, List.nil_append]
theorem take_bad (n : Nat) (b : List Int) (bad : Bool) (hn : n ≤ 65535) (h : bad = true ∨ b.length < n) : image_reader_take_v1.f (n : Int) b bad = some (List.replicate n 0, b, true) := by
  unfold image_reader_take_v1.f
  have e : List.take n (List.replicate n (0 : Int)) = List.replicate n 0 := List.take_of_length_le (by simp)
  cases bad with
  | true => rw [if_pos rfl, if_pos ⟨by omega, rfl, by omega, by omega⟩, toNat_nat, if_pos ⟨by omega, trivial⟩, e]
  | false =>
    have h : b.length < n := by simpa using h
    rw [if_neg (by simp), if_pos (by omega), if_pos ⟨by omega, rfl, by omega, by omega⟩, toNat_nat, if_pos ⟨by omega, trivial⟩, e]
theorem take_ok (n : Nat) (b : List Int) (hb : b.length ≤ 140737488355328) (h : n ≤ b.length) : image_reader_take_v1.f (n : Int) b false = some (b.take n, b.drop n, false) := by
  unfold image_reader_take_v1.f
  rw [if_neg (by simp), if_neg (by omega), if_pos ⟨by omega, by omega⟩, toNat_nat, clone_eq _ (by rw [List.length_take]; omega), bind_go, if_pos ⟨trivial, by omega, by omega⟩]
theorem num_bad (n : Nat) (b : List Int) (bad : Bool) (hn : n ≤ 4) (h : bad = true ∨ b.length < n) : image_reader_number_v1.f (n : Int) b bad = some (0, b, true) := by
  unfold image_reader_number_v1.f
  rw [take_bad n b bad (by omega) h, bind_go]
  have h := num_loop (List.replicate n 0, b, true) (List.replicate n 0) rfl (fun z hz => by have := List.eq_of_mem_replicate hz; omega) (by rw [List.length_replicate]; exact hn) _ FUEL 0 rfl (fuel_gt (by rw [List.length_replicate]; omega)) (by omega)
  rw [levN_zeros, List.take_zero] at h
  have h : image_reader_number_v1.l0 (List.replicate n 0, b, true) FUEL (0 : Int) (0 : Int) = some 0 := h
  rw [h]
  rfl
theorem num_ok (n : Nat) (b : List Int) (hb : b.length ≤ 140737488355328) (hB : Bytes b) (hn : n ≤ 4) (h : n ≤ b.length) : image_reader_number_v1.f (n : Int) b false = some (((levN (b.take n) : Nat) : Int), b.drop n, false) := by
  unfold image_reader_number_v1.f
  rw [take_ok n b hb h, bind_go]
  have h := num_loop (b.take n, b.drop n, false) (b.take n) rfl (hB.take n) (by rw [List.length_take]; omega) _ FUEL 0 rfl (fuel_gt (by rw [List.length_take]; omega)) (by omega)
  rw [List.take_zero] at h
  have h : image_reader_number_v1.l0 (b.take n, b.drop n, false) FUEL (0 : Int) (0 : Int) = _ := h
  rw [h]
  rfl
theorem seg_ok (b : List Int) (hb : b.length ≤ 140737488355328) (hB : Bytes b) (h7 : 7 ≤ b.length) (hn : levN ((b.drop 5).take 2) ≤ b.length - 7) :
    image_reader_seg_v1.f b false = some (((levN (b.take 2) : Nat) : Int), ((levN ((b.drop 2).take 2) : Nat) : Int), IntKind.wrap .u8 ((levN ((b.drop 4).take 1) : Nat) : Int), (b.drop 7).take (levN ((b.drop 5).take 2)), b.drop (7 + levN ((b.drop 5).take 2)), false) := by
  unfold image_reader_seg_v1.f
  have e1 := num_ok 2 b hb hB (by omega) (by omega)
  have e2 := num_ok 2 (b.drop 2) (by rw [List.length_drop]; omega) (hB.drop 2) (by omega) (by rw [List.length_drop]; omega)
  have e3 := num_ok 1 (b.drop 4) (by rw [List.length_drop]; omega) (hB.drop 4) (by omega) (by rw [List.length_drop]; omega)
  have e4 := num_ok 2 (b.drop 5) (by rw [List.length_drop]; omega) (hB.drop 5) (by omega) (by rw [List.length_drop]; omega)
  have e5 := take_ok (levN ((b.drop 5).take 2)) (b.drop 7) (by rw [List.length_drop]; omega) (by rw [List.length_drop]; omega)
  rw [List.drop_drop] at e2 e3 e4 e5
  have e1 : image_reader_number_v1.f (2 : Int) b false = _ := e1
  have e2 : image_reader_number_v1.f (2 : Int) (b.drop 2) false = _ := e2
  have e3 : image_reader_number_v1.f (1 : Int) (b.drop 4) false = _ := e3
  have e4 : image_reader_number_v1.f (2 : Int) (b.drop 5) false = _ := e4
  rw [e1, bind_go]
  simp only
  rw [e2, bind_go]
  simp only
  rw [e3, bind_go]
  simp only
  rw [e4, bind_go]
  simp only
  rw [e5, bind_go]
theorem seg_bad (b : List Int) (hb : b.length ≤ 140737488355328) (hB : Bytes b) (h : b.length < 7 ∨ b.length - 7 < levN ((b.drop 5).take 2)) :
    ∃ x1 x2 x3 x4 x5, image_reader_seg_v1.f b false = some (x1, x2, x3, x4, x5, true) := by
  have B : ∀ (x : List Int), image_reader_number_v1.f (2 : Int) x true = some (0, x, true) := fun x => num_bad 2 x true (by omega) (.inl rfl)
  have B1 : ∀ (x : List Int), image_reader_number_v1.f (1 : Int) x true = some (0, x, true) := fun x => num_bad 1 x true (by omega) (.inl rfl)
  have T : ∀ (x : List Int), image_reader_take_v1.f (0 : Int) x true = some ([], x, true) := fun x => take_bad 0 x true (by omega) (.inl rfl)
  unfold image_reader_seg_v1.f
  by_cases h2 : b.length < 2
  · have e1 : image_reader_number_v1.f (2 : Int) b false = _ := num_bad 2 b false (by omega) (.inr h2)
    rw [e1, bind_go]; simp only; rw [B, bind_go]; simp only; rw [B1, bind_go]; simp only; rw [B, bind_go]; simp only; rw [T]
    exact ⟨_, _, _, _, _, rfl⟩
  have e1 : image_reader_number_v1.f (2 : Int) b false = _ := num_ok 2 b hb hB (by omega) (by omega)
  rw [e1, bind_go]; simp only
  by_cases h4 : b.length < 4
  · have e2 : image_reader_number_v1.f (2 : Int) (b.drop 2) false = _ := num_bad 2 (b.drop 2) false (by omega) (.inr (by rw [List.length_drop]; omega))
    rw [e2, bind_go]; simp only; rw [B1, bind_go]; simp only; rw [B, bind_go]; simp only; rw [T]
    exact ⟨_, _, _, _, _, rfl⟩
  have e2 : image_reader_number_v1.f (2 : Int) (b.drop 2) false = _ := num_ok 2 (b.drop 2) (by rw [List.length_drop]; omega) (hB.drop 2) (by omega) (by rw [List.length_drop]; omega)
  rw [List.drop_drop] at e2
  rw [e2, bind_go]; simp only
  by_cases h5 : b.length < 5
  · have e3 : image_reader_number_v1.f (1 : Int) (b.drop 4) false = _ := num_bad 1 (b.drop 4) false (by omega) (.inr (by rw [List.length_drop]; omega))
    rw [e3, bind_go]; simp only; rw [B, bind_go]; simp only; rw [T]
    exact ⟨_, _, _, _, _, rfl⟩
  have e3 : image_reader_number_v1.f (1 : Int) (b.drop 4) false = _ := num_ok 1 (b.drop 4) (by rw [List.length_drop]; omega) (hB.drop 4) (by omega) (by rw [List.length_drop]; omega)
  rw [List.drop_drop] at e3
  rw [e3, bind_go]; simp only
  by_cases h7 : b.length < 7
  · have e4 : image_reader_number_v1.f (2 : Int) (b.drop 5) false = _ := num_bad 2 (b.drop 5) false (by omega) (.inr (by rw [List.length_drop]; omega))
    rw [e4, bind_go]; simp only; rw [T]
    exact ⟨_, _, _, _, _, rfl⟩
  have e4 : image_reader_number_v1.f (2 : Int) (b.drop 5) false = _ := num_ok 2 (b.drop 5) (by rw [List.length_drop]; omega) (hB.drop 5) (by omega) (by rw [List.length_drop]; omega)
  rw [List.drop_drop] at e4
  rw [e4, bind_go]; simp only
  have hlt := levN_lt2 ((hB.drop 5).take 2) (by rw [List.length_take]; omega)
  have e5 : image_reader_take_v1.f ((levN ((b.drop 5).take 2) : Nat) : Int) (b.drop 7) false = _ := take_bad (levN ((b.drop 5).take 2)) (b.drop 7) false (by omega) (.inr (by rw [List.length_drop]; omega))
  rw [e5]
  exact ⟨_, _, _, _, _, rfl⟩

/-- What a reader that looks at a row's part still has. -/
def V (L : List Int) (lo len : Nat) : List Int := (L.drop lo).take len
theorem V_len {L : List Int} {lo len : Nat} (h : lo + len ≤ L.length) : (V L lo len).length = len := by unfold V; rw [List.length_take, List.length_drop]; omega
theorem V_drop (L : List Int) (lo len k : Nat) : V L (lo + k) (len - k) = (V L lo len).drop k := by
  unfold V; rw [List.drop_take, List.drop_drop]
theorem V_take (L : List Int) (lo len k : Nat) (h : k ≤ len) : (L.drop lo).take k = (V L lo len).take k := by
  unfold V; rw [List.take_take, Nat.min_eq_left h]
theorem V_bytes {L : List Int} (h : Bytes L) (lo len : Nat) : Bytes (V L lo len) := (h.drop lo).take len

theorem fclone_eq (L : List Int) (lo k : Nat) (hL : L.length ≤ 140737488355328) (h : lo + k ≤ L.length) : slices_Clone_byte_byte.f lo k L = some ((L.drop lo).take k) := by
  unfold slices_Clone_byte_byte.f
  have hl : ((L.drop lo).take k).length = k := by rw [List.length_take, List.length_drop]; omega
  by_cases h0 : k = 0
  · rw [if_pos h0]
    subst h0
    have h2 : lo + 0 ≤ L.length ∧ 0 = 0 ∧ 0 = 0 ∧ ((0 + (List.take 0 (L.drop lo)).length) * 1 ≤ 140737488355328 ∧ 0 + (List.take 0 (L.drop lo)).length ≤ 9223372036854775807) := ⟨by omega, rfl, rfl, by simp, by simp⟩
    rw [if_pos h2]
    unfold same
    simp
  · rw [if_neg h0, if_pos ⟨by omega, rfl, rfl, by rw [hl]; omega, by rw [hl]; omega⟩, List.nil_append]
theorem ftake_bad (n : Nat) (L : List Int) (lo len : Nat) (bad : Bool) (hn : n ≤ 65535) (h : bad = true ∨ len < n) : image_reader_take.f (n : Int) lo len bad L = some (List.replicate n 0, lo, len, true) := by
  unfold image_reader_take.f
  have e : List.take n (List.replicate n (0 : Int)) = List.replicate n 0 := List.take_of_length_le (by simp)
  cases bad with
  | true => rw [if_pos rfl, if_pos ⟨by omega, rfl, by omega, by omega⟩, toNat_nat, if_pos ⟨by omega, trivial⟩, e]
  | false =>
    have h : len < n := by simpa using h
    rw [if_neg (by simp), if_pos (by omega), if_pos ⟨by omega, rfl, by omega, by omega⟩, toNat_nat, if_pos ⟨by omega, trivial⟩, e]
theorem ftake_ok (n : Nat) (L : List Int) (lo len : Nat) (hL : L.length ≤ 140737488355328) (hl : lo + len ≤ L.length) (h : n ≤ len) : image_reader_take.f (n : Int) lo len false L = some ((V L lo len).take n, lo + n, len - n, false) := by
  unfold image_reader_take.f
  rw [if_neg (by simp), if_neg (by omega), if_pos ⟨⟨by omega, by omega⟩, trivial⟩, toNat_nat, fclone_eq _ _ _ hL (by omega), bind_go, if_pos ⟨trivial, by omega, by omega⟩, V_take L lo len n h]
theorem fnum_loop (t1 : List Int × Nat × Nat × Bool) (a4 : List Int) (L : List Int) (hL : t1.1 = L) (hb : Bytes L) (h4 : L.length ≤ 4) : ∀ (d n k : Nat), L.length - k = d → d < n → k ≤ L.length → image_reader_number.l0 t1 a4 n ((levN (L.take k) : Nat) : Int) (k : Int) = some ((levN L : Nat) : Int) := by
  have key : ∀ (n : Nat) (x y : Int), image_reader_number.l0 t1 a4 n x y = image_reader_number_v1.l0 (L, [], false) n x y := by
    intro n
    induction n with
    | zero => intro x y; rfl
    | succ n ih =>
      intro x y
      unfold image_reader_number.l0 image_reader_number_v1.l0
      rw [hL]
      split
      · split
        · split
          · exact ih _ _
          · rfl
        · rfl
      · rfl
  intro d n k h1 h2 h3
  rw [key]
  exact num_loop (L, [], false) L rfl hb h4 d n k h1 h2 h3
theorem fnum_bad (n : Nat) (L : List Int) (lo len : Nat) (bad : Bool) (hn : n ≤ 4) (h : bad = true ∨ len < n) : image_reader_number.f (n : Int) lo len bad L = some (0, lo, len, true) := by
  unfold image_reader_number.f
  rw [ftake_bad n L lo len bad (by omega) h, bind_go]
  have h := fnum_loop (List.replicate n 0, lo, len, true) L (List.replicate n 0) rfl (fun z hz => by have := List.eq_of_mem_replicate hz; omega) (by rw [List.length_replicate]; exact hn) _ FUEL 0 rfl (fuel_gt (by rw [List.length_replicate]; omega)) (by omega)
  rw [levN_zeros, List.take_zero] at h
  have h : image_reader_number.l0 (List.replicate n 0, lo, len, true) L FUEL (0 : Int) (0 : Int) = some 0 := h
  rw [h]
  rfl
theorem fnum_ok (n : Nat) (L : List Int) (lo len : Nat) (hL : L.length ≤ 140737488355328) (hl : lo + len ≤ L.length) (hB : Bytes L) (hn : n ≤ 4) (h : n ≤ len) : image_reader_number.f (n : Int) lo len false L = some (((levN ((V L lo len).take n) : Nat) : Int), lo + n, len - n, false) := by
  unfold image_reader_number.f
  rw [ftake_ok n L lo len hL hl h, bind_go]
  have h := fnum_loop ((V L lo len).take n, lo + n, len - n, false) L ((V L lo len).take n) rfl ((V_bytes hB lo len).take n) (by rw [List.length_take]; omega) _ FUEL 0 rfl (fuel_gt (by rw [List.length_take]; omega)) (by omega)
  rw [List.take_zero] at h
  have h : image_reader_number.l0 ((V L lo len).take n, lo + n, len - n, false) L FUEL (0 : Int) (0 : Int) = _ := h
  rw [h]
  rfl

/-- The next pages, and what is left. -/
def segM (b : List Int) : Option (Sg × List Int) :=
  if 7 ≤ b.length ∧ levN ((b.drop 5).take 2) ≤ b.length - 7 then
    some ((((levN (b.take 2) : Nat) : Int), (((levN ((b.drop 2).take 2) : Nat) : Int), (IntKind.wrap .u8 ((levN ((b.drop 4).take 1) : Nat) : Int), (b.drop 7).take (levN ((b.drop 5).take 2))))), b.drop (7 + levN ((b.drop 5).take 2)))
  else none
def segsM : Nat → List Int → Option (List Sg × List Int)
  | 0, b => some ([], b)
  | n + 1, b => match segM b with
    | some (s, r) => (match segsM n r with | some (l, q) => some (s :: l, q) | none => none)
    | none => none
theorem segsM_some {n : Nat} {b r q : List Int} {s : Sg} {l : List Sg} (h1 : segM b = some (s, r)) (h2 : segsM n r = some (l, q)) : segsM (n + 1) b = some (s :: l, q) := by
  unfold segsM; rw [h1]; simp only; rw [h2]
theorem segsM_none1 {n : Nat} {b : List Int} (h1 : segM b = none) : segsM (n + 1) b = none := by unfold segsM; rw [h1]
theorem segsM_none2 {n : Nat} {b r : List Int} {s : Sg} (h1 : segM b = some (s, r)) (h2 : segsM n r = none) : segsM (n + 1) b = none := by
  unfold segsM; rw [h1]; simp only; rw [h2]

theorem seg_some {b r : List Int} {s : Sg} (hb : b.length ≤ 140737488355328) (hB : Bytes b) (h : segM b = some (s, r)) : image_reader_seg_v1.f b false = some (s.1, s.2.1, s.2.2.1, s.2.2.2, r, false) := by
  unfold segM at h
  split at h
  · rename_i hc
    cases h
    exact seg_ok b hb hB hc.1 hc.2
  · cases h
theorem seg_none {b : List Int} (hb : b.length ≤ 140737488355328) (hB : Bytes b) (h : segM b = none) : ∃ x1 x2 x3 x4 x5, image_reader_seg_v1.f b false = some (x1, x2, x3, x4, x5, true) := by
  unfold segM at h
  split at h
  · cases h
  · rename_i hc
    exact seg_bad b hb hB (by omega)

theorem fseg_some {L : List Int} {lo len : Nat} {r : List Int} {s : Sg} (hL : L.length ≤ 140737488355328) (hl : lo + len ≤ L.length) (hB : Bytes L) (h : segM (V L lo len) = some (s, r)) :
    ∃ lo' len', image_reader_seg.f lo len false L = some (s.1, s.2.1, s.2.2.1, s.2.2.2, lo', len', false) ∧ V L lo' len' = r ∧ lo' + len' ≤ L.length := by
  unfold segM at h
  rw [V_len hl] at h
  split at h
  · rename_i hc
    obtain ⟨h7, hn⟩ := hc
    generalize hN : levN (((V L lo len).drop 5).take 2) = N at h hn
    cases h
    refine ⟨lo + (7 + N), len - (7 + N), ?_, by rw [V_drop], by omega⟩
    unfold image_reader_seg.f
    have e1 : image_reader_number.f (2 : Int) lo len false L = _ := fnum_ok 2 L lo len hL hl hB (by omega) (by omega)
    have e2 : image_reader_number.f (2 : Int) (lo + 2) (len - 2) false L = _ := fnum_ok 2 L (lo + 2) (len - 2) hL (by omega) hB (by omega) (by omega)
    have e3 : image_reader_number.f (1 : Int) (lo + 4) (len - 4) false L = _ := fnum_ok 1 L (lo + 4) (len - 4) hL (by omega) hB (by omega) (by omega)
    have e4 : image_reader_number.f (2 : Int) (lo + 5) (len - 5) false L = _ := fnum_ok 2 L (lo + 5) (len - 5) hL (by omega) hB (by omega) (by omega)
    have e5 := ftake_ok N L (lo + 7) (len - 7) hL (by omega) (by omega)
    rw [V_drop] at e2 e3 e4 e5
    rw [hN] at e4
    rw [e1, bind_go]
    simp only
    rw [e2, bind_go]
    simp only
    rw [show lo + 2 + 2 = lo + 4 by omega, show len - 2 - 2 = len - 4 by omega, e3, bind_go]
    simp only
    rw [show lo + 4 + 1 = lo + 5 by omega, show len - 4 - 1 = len - 5 by omega, e4, bind_go]
    simp only
    rw [show lo + 5 + 2 = lo + 7 by omega, show len - 5 - 2 = len - 7 by omega, e5, bind_go]
    simp only
    rw [show lo + 7 + N = lo + (7 + N) by omega, show len - 7 - N = len - (7 + N) by omega]
  · cases h
theorem fseg_none {L : List Int} {lo len : Nat} (hL : L.length ≤ 140737488355328) (hl : lo + len ≤ L.length) (hB : Bytes L) (h : segM (V L lo len) = none) :
    ∃ x1 x2 x3 x4 x5 x6, image_reader_seg.f lo len false L = some (x1, x2, x3, x4, x5, x6, true) := by
  unfold segM at h
  rw [V_len hl] at h
  split at h
  · cases h
  · rename_i hc
    have B : ∀ (x y : Nat), image_reader_number.f (2 : Int) x y true L = some (0, x, y, true) := fun x y => fnum_bad 2 L x y true (by omega) (.inl rfl)
    have B1 : ∀ (x y : Nat), image_reader_number.f (1 : Int) x y true L = some (0, x, y, true) := fun x y => fnum_bad 1 L x y true (by omega) (.inl rfl)
    have T : ∀ (x y : Nat), image_reader_take.f (0 : Int) x y true L = some ([], x, y, true) := fun x y => ftake_bad 0 L x y true (by omega) (.inl rfl)
    unfold image_reader_seg.f
    by_cases h2 : len < 2
    · have e1 : image_reader_number.f (2 : Int) lo len false L = _ := fnum_bad 2 L lo len false (by omega) (.inr h2)
      rw [e1, bind_go]; simp only; rw [B, bind_go]; simp only; rw [B1, bind_go]; simp only; rw [B, bind_go]; simp only; rw [T]
      exact ⟨_, _, _, _, _, _, rfl⟩
    have e1 : image_reader_number.f (2 : Int) lo len false L = _ := fnum_ok 2 L lo len hL hl hB (by omega) (by omega)
    rw [e1, bind_go]; simp only
    by_cases h4 : len < 4
    · have e2 : image_reader_number.f (2 : Int) (lo + 2) (len - 2) false L = _ := fnum_bad 2 L (lo + 2) (len - 2) false (by omega) (.inr (by omega))
      rw [e2, bind_go]; simp only; rw [B1, bind_go]; simp only; rw [B, bind_go]; simp only; rw [T]
      exact ⟨_, _, _, _, _, _, rfl⟩
    have e2 : image_reader_number.f (2 : Int) (lo + 2) (len - 2) false L = _ := fnum_ok 2 L (lo + 2) (len - 2) hL (by omega) hB (by omega) (by omega)
    rw [e2, bind_go]; simp only
    rw [show lo + 2 + 2 = lo + 4 by omega, show len - 2 - 2 = len - 4 by omega]
    by_cases h5 : len < 5
    · have e3 : image_reader_number.f (1 : Int) (lo + 4) (len - 4) false L = _ := fnum_bad 1 L (lo + 4) (len - 4) false (by omega) (.inr (by omega))
      rw [e3, bind_go]; simp only; rw [B, bind_go]; simp only; rw [T]
      exact ⟨_, _, _, _, _, _, rfl⟩
    have e3 : image_reader_number.f (1 : Int) (lo + 4) (len - 4) false L = _ := fnum_ok 1 L (lo + 4) (len - 4) hL (by omega) hB (by omega) (by omega)
    rw [e3, bind_go]; simp only
    rw [show lo + 4 + 1 = lo + 5 by omega, show len - 4 - 1 = len - 5 by omega]
    by_cases h7 : len < 7
    · have e4 : image_reader_number.f (2 : Int) (lo + 5) (len - 5) false L = _ := fnum_bad 2 L (lo + 5) (len - 5) false (by omega) (.inr (by omega))
      rw [e4, bind_go]; simp only; rw [T]
      exact ⟨_, _, _, _, _, _, rfl⟩
    have e4 : image_reader_number.f (2 : Int) (lo + 5) (len - 5) false L = _ := fnum_ok 2 L (lo + 5) (len - 5) hL (by omega) hB (by omega) (by omega)
    rw [V_drop] at e4
    have hlt := levN_lt2 (((V_bytes hB lo len).drop 5).take 2) (by rw [List.length_take]; omega)
    generalize levN (((V L lo len).drop 5).take 2) = N at e4 hlt hc
    rw [e4, bind_go]; simp only
    have e5 : image_reader_take.f ((N : Nat) : Int) (lo + 5 + 2) (len - 5 - 2) false L = _ := ftake_bad N L (lo + 5 + 2) (len - 5 - 2) false (by omega) (.inr (by omega))
    rw [e5]
    exact ⟨_, _, _, _, _, _, rfl⟩

theorem segM_len {b r : List Int} {s : Sg} (h : segM b = some (s, r)) : r.length ≤ b.length := by
  unfold segM at h
  split at h
  · cases h; rw [List.length_drop]; omega
  · cases h
theorem segM_bytes {b r : List Int} {s : Sg} (hB : Bytes b) (h : segM b = some (s, r)) : Bytes r := by
  unfold segM at h
  split at h
  · cases h; exact hB.drop _
  · cases h

theorem pair4 (s : Sg) : List.take 1 [(s.1, (s.2.1, (s.2.2.1, s.2.2.2)))] = [s] := rfl
theorem bad_stop (t3 : Int × List Int × Bool) (n : Nat) (x : List Int) (o : List Sg) (c : Int) : image_Decode_v1.l0 t3 (n + 1) x true o c = some (x, true, o) := by
  unfold image_Decode_v1.l0
  split
  · rw [if_neg (by simp)]
  · rfl
theorem fbad_stop (t3 : Int × Nat × Nat × Bool) (L : List Int) (n x y : Nat) (o : List Sg) (c : Int) : image_Decode.l0 t3 L (n + 1) x y true o c = some (x, y, true, o) := by
  unfold image_Decode.l0
  split
  · rw [if_neg (by simp)]
  · rfl
theorem dec_loop1 (t3 : Int × List Int × Bool) : ∀ (c n : Nat) (b : List Int) (out : List Sg), Bytes b → b.length ≤ 140737488355328 → c + 1 < n → out.length + c ≤ 255 →
    match segsM c b with
    | some (l, q) => image_Decode_v1.l0 t3 n b false out (c : Int) = some (q, false, out ++ l)
    | none => ∃ x y, image_Decode_v1.l0 t3 n b false out (c : Int) = some (x, true, y)
  | 0, n, b, out, _, _, hn, _ => by
    obtain ⟨m, rfl⟩ := fuel_step hn
    show image_Decode_v1.l0 t3 (m + 1) b false out ((0 : Nat) : Int) = some (b, false, out ++ [])
    unfold image_Decode_v1.l0
    rw [if_neg (by omega), List.append_nil]
  | c + 1, n, b, out, hB, hb, hn, ho => by
    obtain ⟨m, rfl⟩ := fuel_step hn
    have hw : IntKind.wrap .i64 (((c + 1 : Nat) : Int) - 1) = (c : Int) := by rw [wi64 (by omega) (by omega)]; omega
    have step : ∀ (s : Sg) (r : List Int) (bad : Bool), image_reader_seg_v1.f b false = some (s.1, s.2.1, s.2.2.1, s.2.2.2, r, bad) → image_Decode_v1.l0 t3 (m + 1) b false out ((c + 1 : Nat) : Int) = image_Decode_v1.l0 t3 m r bad (out ++ [s]) (c : Int) := fun s r bad hs => by
      conv => lhs; unfold image_Decode_v1.l0
      rw [if_pos (by omega), if_pos (by simp), hs, bind_go]
      simp only
      rw [pair4, if_pos ⟨by omega, by trivial, by trivial, by simp; omega, by simp; omega⟩, hw]
    cases hs : segM b with
    | none =>
      rw [segsM_none1 hs]
      obtain ⟨x1, x2, x3, x4, x5, h⟩ := seg_none hb hB hs
      rw [step (x1, (x2, (x3, x4))) x5 true h]
      obtain ⟨k, rfl⟩ : ∃ k, m = k + 1 := ⟨m - 1, by omega⟩
      exact ⟨_, _, bad_stop _ _ _ _ _⟩
    | some p =>
      obtain ⟨s, r⟩ := p
      have ih := dec_loop1 t3 c m r (out ++ [s]) (segM_bytes hB hs) (Nat.le_trans (segM_len hs) hb) (by omega) (by simp; omega)
      rw [step s r false (seg_some hb hB hs)]
      cases h2 : segsM c r with
      | none =>
        rw [segsM_none2 hs h2]
        rw [h2] at ih
        exact ih
      | some p2 =>
        obtain ⟨l, q⟩ := p2
        rw [segsM_some hs h2]
        rw [h2] at ih
        simp only at ih ⊢
        rw [ih, List.append_assoc]
        rfl
theorem fdec_loop (t3 : Int × Nat × Nat × Bool) (L : List Int) (hB : Bytes L) (hL : L.length ≤ 140737488355328) : ∀ (c n lo len : Nat) (out : List Sg), lo + len ≤ L.length → c + 1 < n → out.length + c ≤ 255 →
    match segsM c (V L lo len) with
    | some (l, q) => ∃ lo' len', image_Decode.l0 t3 L n lo len false out (c : Int) = some (lo', len', false, out ++ l) ∧ len' = q.length
    | none => ∃ x y z, image_Decode.l0 t3 L n lo len false out (c : Int) = some (x, y, true, z)
  | 0, n, lo, len, out, hl, hn, _ => by
    obtain ⟨m, rfl⟩ := fuel_step hn
    show ∃ lo' len', image_Decode.l0 t3 L (m + 1) lo len false out ((0 : Nat) : Int) = some (lo', len', false, out ++ []) ∧ len' = (V L lo len).length
    refine ⟨lo, len, ?_, (V_len hl).symm⟩
    unfold image_Decode.l0
    rw [if_neg (by omega), List.append_nil]
  | c + 1, n, lo, len, out, hl, hn, ho => by
    obtain ⟨m, rfl⟩ := fuel_step hn
    have hw : IntKind.wrap .i64 (((c + 1 : Nat) : Int) - 1) = (c : Int) := by rw [wi64 (by omega) (by omega)]; omega
    have step : ∀ (s : Sg) (x y : Nat) (bad : Bool), image_reader_seg.f lo len false L = some (s.1, s.2.1, s.2.2.1, s.2.2.2, x, y, bad) → image_Decode.l0 t3 L (m + 1) lo len false out ((c + 1 : Nat) : Int) = image_Decode.l0 t3 L m x y bad (out ++ [s]) (c : Int) := fun s x y bad hs => by
      conv => lhs; unfold image_Decode.l0
      rw [if_pos (by omega), if_pos (by simp), hs, bind_go]
      simp only
      rw [pair4, if_pos ⟨by omega, by trivial, by trivial, by simp; omega, by simp; omega⟩, hw]
    cases hs : segM (V L lo len) with
    | none =>
      rw [segsM_none1 hs]
      obtain ⟨x1, x2, x3, x4, x5, x6, h⟩ := fseg_none hL hl hB hs
      rw [step (x1, (x2, (x3, x4))) x5 x6 true h]
      obtain ⟨k, rfl⟩ : ∃ k, m = k + 1 := ⟨m - 1, by omega⟩
      exact ⟨_, _, _, fbad_stop _ _ _ _ _ _ _⟩
    | some p =>
      obtain ⟨s, r⟩ := p
      obtain ⟨lo', len', h, hV, hl'⟩ := fseg_some hL hl hB hs
      have ih := fdec_loop t3 L hB hL c m lo' len' (out ++ [s]) hl' (by omega) (by simp; omega)
      rw [hV] at ih
      rw [step s lo' len' false h]
      cases h2 : segsM c r with
      | none =>
        rw [segsM_none2 hs h2]
        rw [h2] at ih
        exact ih
      | some p2 =>
        obtain ⟨l, q⟩ := p2
        rw [segsM_some hs h2]
        rw [h2] at ih
        simp only at ih ⊢
        rw [List.append_assoc] at ih
        exact ih

/-- The program of bytes. -/
def decM (b : List Int) : Option (Int × List Sg) :=
  if b.take 4 = [104, 120, 48, 49] ∧ 9 ≤ b.length then
    (match segsM (b.getD 8 0).toNat (b.drop 9) with
    | some (l, q) => if q = [] ∧ okI ((levN ((b.drop 4).take 4) : Nat) : Int) l = true then some (((levN ((b.drop 4).take 4) : Nat) : Int), l) else none
    | none => none)
  else none
def DecR (b : List Int) : Int × List Sg × Option Int := match decM b with
  | some (e, l) => (e, l, none)
  | none => (0, [], some 8)

theorem segM_perm {b r : List Int} {s : Sg} (h : segM b = some (s, r)) : PermB s := by
  unfold segM at h
  split at h
  · cases h
    show 0 ≤ IntKind.wrap .u8 ((levN ((b.drop 4).take 1) : Nat) : Int) ∧ IntKind.wrap .u8 ((levN ((b.drop 4).take 1) : Nat) : Int) < 256
    rw [wu8]
    omega
  · cases h
theorem segsM_perm : ∀ {c : Nat} {b q : List Int} {l : List Sg}, segsM c b = some (l, q) → ∀ s ∈ l, PermB s
  | 0, b, q, l, h, s, hs => by cases h; cases hs
  | c + 1, b, q, l, h, s, hs => by
    unfold segsM at h
    split at h
    · rename_i s0 r h1
      split at h
      · rename_i l0 q0 h2
        cases h
        rcases List.mem_cons.1 hs with rfl | hs
        · exact segM_perm h1
        · exact segsM_perm h2 s hs
      · cases h
    · cases h
theorem segsM_len : ∀ {c : Nat} {b q : List Int} {l : List Sg}, segsM c b = some (l, q) → l.length = c
  | 0, b, q, l, h => by cases h; rfl
  | c + 1, b, q, l, h => by
    unfold segsM at h
    split at h
    · rename_i s0 r h1
      split at h
      · rename_i l0 q0 h2
        cases h
        rw [List.length_cons, segsM_len h2]
      · cases h
    · cases h

theorem magic_eq {b : List Int} (hB : Bytes b) : strOfNums (b.take 4) = (⟨#[104, 120, 48, 49]⟩ : ByteArray) ↔ b.take 4 = [104, 120, 48, 49] := by
  constructor
  · intro hm
    rw [← bytes_of (b.take 4) (hB.take 4), hm]
    rfl
  · intro h
    rw [h]
    decide +kernel
theorem levN_one {b : List Int} (hB : Bytes b) (h : 9 ≤ b.length) : ((levN ((b.drop 8).take 1) : Nat) : Int) = (((b.getD 8 0).toNat : Nat) : Int) ∧ (b.getD 8 0).toNat < 256 := by
  have hc := hB _ (getD_mem b 8 0 (by omega))
  rw [drop_getD b 8 0 (by omega), List.take_succ_cons, List.take_zero]
  simp only [levN]
  omega

theorem Dec1_eq (b : List Int) (hB : Bytes b) (hb : b.length ≤ 140737488355328) : image_Decode_v1.f b = some (DecR b) := by
  unfold image_Decode_v1.f DecR decM
  obtain ⟨m, hm⟩ : ∃ m, FUEL = m + 1 := ⟨18446744073709551615, rfl⟩
  by_cases h4 : b.length < 4
  · have e1 : image_reader_take_v1.f (4 : Int) b false = _ := take_bad 4 b false (by omega) (.inr h4)
    rw [e1, bind_go, if_pos (show ¬ strOfNums (List.replicate 4 (0 : Int)) = (⟨#[104, 120, 48, 49]⟩ : ByteArray) by decide +kernel), if_neg (fun h => by omega)]
  have e1 : image_reader_take_v1.f (4 : Int) b false = _ := take_ok 4 b hb (by omega)
  rw [e1, bind_go]
  simp only
  by_cases hmg : b.take 4 = [104, 120, 48, 49]
  · rw [if_neg (not_not_intro ((magic_eq hB).2 hmg))]
    by_cases h8 : b.length < 8
    · have e2 : image_reader_number_v1.f (4 : Int) (b.drop 4) false = _ := num_bad 4 (b.drop 4) false (by omega) (.inr (by rw [List.length_drop]; omega))
      have e3 : image_reader_number_v1.f (1 : Int) (b.drop 4) true = _ := num_bad 1 (b.drop 4) true (by omega) (.inl rfl)
      rw [e2, bind_go]; simp only; rw [e3, bind_go]; simp only
      rw [hm, bad_stop, bind_go, if_pos rfl, if_neg (fun h => by omega)]
    have e2 : image_reader_number_v1.f (4 : Int) (b.drop 4) false = _ := num_ok 4 (b.drop 4) (by rw [List.length_drop]; omega) (hB.drop 4) (by omega) (by rw [List.length_drop]; omega)
    rw [List.drop_drop] at e2
    rw [e2, bind_go]; simp only
    by_cases h9 : b.length < 9
    · have e3 : image_reader_number_v1.f (1 : Int) (b.drop 8) false = _ := num_bad 1 (b.drop 8) false (by omega) (.inr (by rw [List.length_drop]; omega))
      rw [e3, bind_go]; simp only
      rw [hm, bad_stop, bind_go, if_pos rfl, if_neg (fun h => by omega)]
    have e3 : image_reader_number_v1.f (1 : Int) (b.drop 8) false = _ := num_ok 1 (b.drop 8) (by rw [List.length_drop]; omega) (hB.drop 8) (by omega) (by rw [List.length_drop]; omega)
    rw [List.drop_drop] at e3
    obtain ⟨g1, g2⟩ := levN_one hB (by omega)
    rw [g1] at e3
    rw [e3, bind_go]; simp only
    rw [if_pos ⟨hmg, by omega⟩]
    have hlt := levN_lt4 ((hB.drop 4).take 4) (by rw [List.length_take]; omega)
    generalize levN ((b.drop 4).take 4) = E at hlt ⊢
    have hw : IntKind.wrap .u32 ((E : Nat) : Int) = (E : Int) := wu32_id (by omega)
    have hl := dec_loop1 (((E : Nat) : Int), b.drop 8, false) (b.getD 8 0).toNat FUEL (b.drop 9) [] (hB.drop 9) (by rw [List.length_drop]; omega) (by show _ + 1 < 18446744073709551616; omega) (by rw [List.length_nil]; omega)
    cases hs : segsM (b.getD 8 0).toNat (b.drop 9) with
    | none =>
      rw [hs] at hl
      obtain ⟨x, y, hl⟩ := hl
      rw [hl, bind_go, if_pos rfl]
    | some p =>
      obtain ⟨l, q⟩ := p
      rw [hs] at hl
      simp only at hl
      rw [hl, bind_go]
      simp only
      have hlen := segsM_len hs
      rw [if_neg (by simp), hw, List.nil_append]
      cases q with
      | cons z zs => rw [if_pos (by simp only [List.length_cons]; omega), if_neg (fun h => by cases h.1)]
      | nil =>
        rw [if_neg (by simp), check_eq _ (by omega) l (segsM_perm hs) (by omega), bind_go]
        cases okI ((E : Nat) : Int) l with
        | true => simp
        | false => simp
  · rw [if_pos (fun h => hmg ((magic_eq hB).1 h)), if_neg (fun h => hmg h.1)]

theorem Dec_eq (L : List Int) (len : Nat) (hB : Bytes L) (hL : L.length ≤ 140737488355328) (hl : len ≤ L.length) : image_Decode.f 0 len L = some (DecR (L.take len)) := by
  have hV0 : V L 0 len = L.take len := by unfold V; rw [List.drop_zero]
  have hl0 : 0 + len ≤ L.length := by omega
  rw [← hV0]
  have hBV := V_bytes hB 0 len
  have hVl := V_len hl0
  have hV : ∀ k, V L (0 + k) (len - k) = (V L 0 len).drop k := fun k => V_drop L 0 len k
  generalize hb : V L 0 len = b at hBV hVl hV
  unfold image_Decode.f DecR decM
  obtain ⟨m, hm⟩ : ∃ m, FUEL = m + 1 := ⟨18446744073709551615, rfl⟩
  by_cases h4 : len < 4
  · have e1 : image_reader_take.f (4 : Int) 0 len false L = _ := ftake_bad 4 L 0 len false (by omega) (.inr h4)
    rw [e1, bind_go, if_pos (show ¬ strOfNums (List.replicate 4 (0 : Int)) = (⟨#[104, 120, 48, 49]⟩ : ByteArray) by decide +kernel), if_neg (fun h => by omega)]
  have e1 : image_reader_take.f (4 : Int) 0 len false L = _ := ftake_ok 4 L 0 len hL hl0 (by omega)
  rw [hb] at e1
  rw [e1, bind_go]
  simp only
  by_cases hmg : b.take 4 = [104, 120, 48, 49]
  · rw [if_neg (not_not_intro ((magic_eq hBV).2 hmg))]
    by_cases h8 : len < 8
    · have e2 : image_reader_number.f (4 : Int) (0 + 4) (len - 4) false L = _ := fnum_bad 4 L (0 + 4) (len - 4) false (by omega) (.inr (by omega))
      have e3 : image_reader_number.f (1 : Int) (0 + 4) (len - 4) true L = _ := fnum_bad 1 L (0 + 4) (len - 4) true (by omega) (.inl rfl)
      rw [e2, bind_go]; simp only; rw [e3, bind_go]; simp only
      rw [hm, fbad_stop, bind_go, if_pos rfl, if_neg (fun h => by omega)]
    have e2 : image_reader_number.f (4 : Int) (0 + 4) (len - 4) false L = _ := fnum_ok 4 L (0 + 4) (len - 4) hL (by omega) hB (by omega) (by omega)
    rw [hV] at e2
    rw [e2, bind_go]; simp only
    rw [show 0 + 4 + 4 = 0 + 8 by omega, show len - 4 - 4 = len - 8 by omega]
    by_cases h9 : len < 9
    · have e3 : image_reader_number.f (1 : Int) (0 + 8) (len - 8) false L = _ := fnum_bad 1 L (0 + 8) (len - 8) false (by omega) (.inr (by omega))
      rw [e3, bind_go]; simp only
      rw [hm, fbad_stop, bind_go, if_pos rfl, if_neg (fun h => by omega)]
    have e3 : image_reader_number.f (1 : Int) (0 + 8) (len - 8) false L = _ := fnum_ok 1 L (0 + 8) (len - 8) hL (by omega) hB (by omega) (by omega)
    rw [hV] at e3
    obtain ⟨g1, g2⟩ := levN_one hBV (by omega)
    rw [g1] at e3
    rw [e3, bind_go]; simp only
    rw [show 0 + 8 + 1 = 0 + 9 by omega, show len - 8 - 1 = len - 9 by omega]
    rw [if_pos ⟨hmg, by omega⟩]
    have hlt := levN_lt4 ((hBV.drop 4).take 4) (by rw [List.length_take]; omega)
    generalize levN ((b.drop 4).take 4) = E at hlt ⊢
    have hw : IntKind.wrap .u32 ((E : Nat) : Int) = (E : Int) := wu32_id (by omega)
    have hl2 := fdec_loop (((E : Nat) : Int), 0 + 8, len - 8, false) L hB hL (b.getD 8 0).toNat FUEL (0 + 9) (len - 9) [] (by omega) (by show _ + 1 < 18446744073709551616; omega) (by rw [List.length_nil]; omega)
    rw [hV] at hl2
    cases hs : segsM (b.getD 8 0).toNat (b.drop 9) with
    | none =>
      rw [hs] at hl2
      obtain ⟨x, y, z, hl2⟩ := hl2
      rw [hl2, bind_go, if_pos rfl]
    | some p =>
      obtain ⟨l, q⟩ := p
      rw [hs] at hl2
      simp only at hl2
      obtain ⟨lo', len', hl2, hq⟩ := hl2
      rw [hl2, bind_go]
      simp only
      have hlen := segsM_len hs
      rw [if_neg (by simp), hw, List.nil_append]
      subst hq
      cases q with
      | cons z zs => rw [if_pos (by simp only [List.length_cons]; omega), if_neg (fun h => by cases h.1)]
      | nil =>
        rw [if_neg (by simp), check_eq _ (by omega) l (segsM_perm hs) (by omega), bind_go]
        cases okI ((E : Nat) : Int) l with
        | true => simp
        | false => simp
  · rw [if_pos (fun h => hmg ((magic_eq hBV).1 h)), if_neg (fun h => hmg h.1)]

/-! ### What comes back -/
theorem le_bytes : ∀ (n : Nat) (v : Int), Bytes (le n v)
  | 0, _, z, hz => by cases hz
  | n + 1, v, z, hz => by
    rcases List.mem_cons.1 hz with rfl | hz
    · omega
    · exact le_bytes n _ z hz
theorem levN_le : ∀ (n : Nat) (v : Nat), v < 256 ^ n → levN (le n (v : Int)) = v
  | 0, v, h => by simp at h; subst h; rfl
  | n + 1, v, h => by
    have e : (v : Int) / 256 = ((v / 256 : Nat) : Int) := by omega
    show ((v : Int) % 256).toNat + 256 * levN (le n ((v : Int) / 256)) = v
    rw [e, levN_le n (v / 256) (by rw [Nat.pow_succ] at h; exact Nat.div_lt_of_lt_mul (by rw [Nat.mul_comm]; exact h))]
    omega
theorem le_levN : ∀ {l : List Int}, Bytes l → le l.length ((levN l : Nat) : Int) = l
  | [], _ => rfl
  | c :: r, h => by
    have h1 := h c (List.mem_cons_self ..)
    have h2 : Bytes r := fun z hz => h z (List.mem_cons_of_mem _ hz)
    show ((c.toNat + 256 * levN r : Nat) : Int) % 256 :: le r.length (((c.toNat + 256 * levN r : Nat) : Int) / 256) = c :: r
    rw [show ((c.toNat + 256 * levN r : Nat) : Int) % 256 = c by omega, show ((c.toNat + 256 * levN r : Nat) : Int) / 256 = ((levN r : Nat) : Int) by omega, le_levN h2]

/-- Pages that two bytes tell. -/
def FitS (s : Sg) : Prop := (0 ≤ s.1 ∧ s.1 < 65536) ∧ (0 ≤ s.2.1 ∧ s.2.1 < 65536) ∧ PermB s ∧ s.2.2.2.length < 65536
theorem fit_of {s : Sg} (h : MayS s) (hp : PermB s) : FitS s := by
  unfold MayS at h
  exact ⟨by omega, by omega, hp, by omega⟩
theorem take_app {A B : List Int} {n : Nat} (h : A.length = n) : (A ++ B).take n = A := by rw [← h, List.take_left]
theorem drop_app {A B : List Int} {n : Nat} (h : A.length = n) : (A ++ B).drop n = B := by rw [← h, List.drop_left]

theorem segM_enc {s : Sg} (h : FitS s) (r : List Int) : segM (encS s ++ r) = some (s, r) := by
  obtain ⟨h1, h2, h3, h4⟩ := h
  obtain ⟨a, b, c, d⟩ := s
  simp only at h1 h2 h4
  have h3 : 0 ≤ c ∧ c < 256 := h3
  obtain ⟨a, rfl⟩ : ∃ k : Nat, a = (k : Int) := ⟨a.toNat, by omega⟩
  obtain ⟨b, rfl⟩ : ∃ k : Nat, b = (k : Int) := ⟨b.toNat, by omega⟩
  have l1 := levN_le 2 a (by show a < 65536; omega)
  have l2 := levN_le 2 b (by show b < 65536; omega)
  have l3 := levN_le 2 d.length (by show d.length < 65536; omega)
  have n1 := le_length 2 (a : Int)
  have n2 := le_length 2 (b : Int)
  have n3 := le_length 2 (d.length : Int)
  have e : encS ((a : Int), ((b : Int), (c, d))) ++ r = le 2 (a : Int) ++ (le 2 (b : Int) ++ ([c] ++ (le 2 (d.length : Int) ++ (d ++ r)))) := by
    unfold encS; simp [List.append_assoc]
  rw [e]
  generalize le 2 (a : Int) = x at l1 n1
  generalize le 2 (b : Int) = y at l2 n2
  generalize le 2 (d.length : Int) = z at l3 n3
  have t1 : (x ++ (y ++ ([c] ++ (z ++ (d ++ r))))).take 2 = x := take_app n1
  have t2 : (x ++ (y ++ ([c] ++ (z ++ (d ++ r))))).drop 2 = y ++ ([c] ++ (z ++ (d ++ r))) := drop_app n1
  have t4 : (x ++ (y ++ ([c] ++ (z ++ (d ++ r))))).drop 4 = [c] ++ (z ++ (d ++ r)) := by rw [show (4 : Nat) = 2 + 2 from rfl, ← List.drop_drop, t2]; exact drop_app n2
  have t5 : (x ++ (y ++ ([c] ++ (z ++ (d ++ r))))).drop 5 = z ++ (d ++ r) := by rw [show (5 : Nat) = 4 + 1 from rfl, ← List.drop_drop, t4]; rfl
  have t7 : (x ++ (y ++ ([c] ++ (z ++ (d ++ r))))).drop 7 = d ++ r := by rw [show (7 : Nat) = 5 + 2 from rfl, ← List.drop_drop, t5]; exact drop_app n3
  unfold segM
  rw [t1, t2, t4, t5, ← List.drop_drop, t7, take_app n2, take_app n3, l1, l2, l3, take_app rfl, drop_app rfl]
  have hw : IntKind.wrap .u8 ((levN (List.take 1 ([c] ++ (z ++ (d ++ r)))) : Nat) : Int) = c := by
    show IntKind.wrap .u8 ((c.toNat + 256 * 0 : Nat) : Int) = c
    rw [wu8]; omega
  rw [hw, if_pos (by simp; omega)]

theorem segM_back {b r : List Int} {s : Sg} (hB : Bytes b) (h : segM b = some (s, r)) : b = encS s ++ r ∧ FitS s := by
  have hp := segM_perm h
  unfold segM at h
  split at h
  · rename_i hc
    obtain ⟨h7, hn⟩ := hc
    have hlt := levN_lt2 ((hB.drop 5).take 2) (by rw [List.length_take]; omega)
    have hlt1 := levN_lt2 (hB.take 2) (by rw [List.length_take]; omega)
    have hlt2 := levN_lt2 ((hB.drop 2).take 2) (by rw [List.length_take]; omega)
    have q1 := le_levN (hB.take 2)
    have q2 := le_levN ((hB.drop 2).take 2)
    have q3 := le_levN ((hB.drop 5).take 2)
    rw [List.length_take, Nat.min_eq_left (by omega)] at q1
    rw [List.length_take, List.length_drop, Nat.min_eq_left (by omega)] at q2 q3
    have hc1 : [IntKind.wrap .u8 ((levN ((b.drop 4).take 1) : Nat) : Int)] = (b.drop 4).take 1 := by
      have hx := hB _ (getD_mem b 4 0 (by omega))
      rw [drop_getD b 4 0 (by omega), List.take_succ_cons, List.take_zero]
      generalize b.getD 4 0 = x at hx
      show [IntKind.wrap .u8 ((x.toNat + 256 * 0 : Nat) : Int)] = [x]
      rw [wu8]
      congr 1
      omega
    generalize hN : levN ((b.drop 5).take 2) = N at h hn hlt q3
    cases h
    have hdl : ((b.drop 7).take N).length = N := by rw [List.length_take, List.length_drop]; omega
    refine ⟨?_, ⟨by dsimp only; omega, by dsimp only; omega⟩, ⟨by dsimp only; omega, by dsimp only; omega⟩, hp, by rw [hdl]; omega⟩
    unfold encS
    simp only
    rw [hdl, q1, q2, q3, hc1]
    have s1 : b = b.take 2 ++ b.drop 2 := (List.take_append_drop 2 b).symm
    have s2 : b.drop 2 = (b.drop 2).take 2 ++ b.drop 4 := by
      have := (List.take_append_drop 2 (b.drop 2)).symm
      rwa [List.drop_drop] at this
    have s4 : b.drop 4 = (b.drop 4).take 1 ++ b.drop 5 := by
      have := (List.take_append_drop 1 (b.drop 4)).symm
      rwa [List.drop_drop] at this
    have s5 : b.drop 5 = (b.drop 5).take 2 ++ b.drop 7 := by
      have := (List.take_append_drop 2 (b.drop 5)).symm
      rwa [List.drop_drop] at this
    have s7 : b.drop 7 = (b.drop 7).take N ++ b.drop (7 + N) := by
      have := (List.take_append_drop N (b.drop 7)).symm
      rwa [List.drop_drop] at this
    simp only [List.append_assoc]
    rw [← s7, ← s5, ← s4, ← s2, ← s1]
  · cases h

theorem segsM_enc : ∀ {l : List Sg}, (∀ s ∈ l, FitS s) → ∀ z, segsM l.length (l.flatMap encS ++ z) = some (l, z)
  | [], _, z => rfl
  | s :: l, h, z => by
    rw [List.flatMap_cons, List.append_assoc, List.length_cons]
    exact segsM_some (segM_enc (h s (List.mem_cons_self ..)) _) (segsM_enc (fun x hx => h x (List.mem_cons_of_mem _ hx)) z)
theorem segsM_back : ∀ {c : Nat} {b q : List Int} {l : List Sg}, Bytes b → segsM c b = some (l, q) → b = l.flatMap encS ++ q ∧ ∀ s ∈ l, FitS s
  | 0, b, q, l, _, h => by cases h; exact ⟨rfl, fun s hs => by cases hs⟩
  | c + 1, b, q, l, hB, h => by
    unfold segsM at h
    split at h
    · rename_i s0 r h1
      split at h
      · rename_i l0 q0 h2
        cases h
        obtain ⟨e1, f1⟩ := segM_back hB h1
        obtain ⟨e2, f2⟩ := segsM_back (segM_bytes hB h1) h2
        refine ⟨by rw [e1, List.flatMap_cons, List.append_assoc, ← e2], fun s hs => ?_⟩
        rcases List.mem_cons.1 hs with rfl | hs
        · exact f1
        · exact f2 s hs
      · cases h
    · cases h

theorem img_parts (e : Nat) (he : e < 4294967296) (l : List Sg) (hn : l.length ≤ 8) (z : List Int) : (img (e : Int) l ++ z).take 4 = [104, 120, 48, 49] ∧ 9 ≤ (img (e : Int) l ++ z).length ∧ (img (e : Int) l ++ z).getD 8 0 = (l.length : Int) ∧ (img (e : Int) l ++ z).drop 9 = l.flatMap encS ++ z ∧ levN (((img (e : Int) l ++ z).drop 4).take 4) = e := by
  have l1 := levN_le 4 e (by show e < 4294967296; omega)
  have n1 := le_length 4 (e : Int)
  have eq : img (e : Int) l ++ z = [104, 120, 48, 49] ++ (le 4 (e : Int) ++ ([((l.length : Nat) : Int) % 256] ++ (l.flatMap encS ++ z))) := by
    unfold img heads; simp [List.append_assoc]
  rw [eq]
  generalize le 4 (e : Int) = x at l1 n1
  have t4 : ([104, 120, 48, 49] ++ (x ++ ([((l.length : Nat) : Int) % 256] ++ (l.flatMap encS ++ z)))).drop 4 = x ++ ([((l.length : Nat) : Int) % 256] ++ (l.flatMap encS ++ z)) := rfl
  have t8 : ([104, 120, 48, 49] ++ (x ++ ([((l.length : Nat) : Int) % 256] ++ (l.flatMap encS ++ z)))).drop 8 = [((l.length : Nat) : Int) % 256] ++ (l.flatMap encS ++ z) := by
    rw [show (8 : Nat) = 4 + 4 from rfl, ← List.drop_drop, t4]; exact drop_app n1
  have t9 : ([104, 120, 48, 49] ++ (x ++ ([((l.length : Nat) : Int) % 256] ++ (l.flatMap encS ++ z)))).drop 9 = l.flatMap encS ++ z := by
    rw [show (9 : Nat) = 8 + 1 from rfl, ← List.drop_drop, t8]; rfl
  refine ⟨rfl, by simp; omega, ?_, t9, by rw [t4, take_app n1, l1]⟩
  have := drop_getD ([104, 120, 48, 49] ++ (x ++ ([((l.length : Nat) : Int) % 256] ++ (l.flatMap encS ++ z)))) 8 0 (by simp; omega)
  rw [t8] at this
  have := (List.cons.inj this).1
  rw [← this]
  omega

/-- A program's bytes, and more behind. -/
theorem decM_img (e : Nat) (he : e < 4294967296) (l : List Sg) (hl : ∀ s ∈ l, PermB s) (hok : okI (e : Int) l = true) (z : List Int) : decM (img (e : Int) l ++ z) = if z = [] then some ((e : Int), l) else none := by
  obtain ⟨p1, p2, p3, p4, p5⟩ := okI_parts hok
  have hm := chk_may l 0 p4
  obtain ⟨q1, q2, q3, q4, q5⟩ := img_parts e he l p2 z
  unfold decM
  rw [if_pos ⟨q1, q2⟩, q3, q4, q5, toNat_nat, segsM_enc (fun s hs => fit_of (hm s hs) (hl s hs)) z]
  simp only
  rw [hok]
  by_cases hz : z = []
  · rw [if_pos ⟨hz, rfl⟩, if_pos hz]
  · rw [if_neg (fun h => hz h.1), if_neg hz]
/-- Cut short. -/
theorem decM_cut (e : Nat) (he : e < 4294967296) (l : List Sg) (hl : ∀ s ∈ l, PermB s) (hok : okI (e : Int) l = true) (hB : Bytes (img (e : Int) l)) (k : Nat) (hk : k < (img (e : Int) l).length) : decM ((img (e : Int) l).take k) = none := by
  obtain ⟨p1, p2, p3, p4, p5⟩ := okI_parts hok
  have hm := chk_may l 0 p4
  obtain ⟨q1, q2, q3, q4, q5⟩ := img_parts e he l p2 []
  rw [List.append_nil] at q1 q2 q3 q4 q5
  rw [List.append_nil] at q4
  unfold decM
  by_cases h9 : 9 ≤ k
  · have hg : ((img (e : Int) l).take k).getD 8 0 = (l.length : Int) := by
      rw [← q3, List.getD_eq_getElem?_getD, List.getD_eq_getElem?_getD, List.getElem?_take_of_lt (by omega)]
    have hd : ((img (e : Int) l).take k).drop 9 = (l.flatMap encS).take (k - 9) := by rw [List.drop_take, q4]
    rw [hg, hd, toNat_nat]
    split
    · cases hs : segsM l.length ((l.flatMap encS).take (k - 9)) with
      | none => rfl
      | some p =>
        obtain ⟨l', q⟩ := p
        simp only
        by_cases hq : q = []
        · exfalso
          subst hq
          have hBf : Bytes (l.flatMap encS) := by rw [← q4]; exact hB.drop 9
          obtain ⟨e1, f1⟩ := segsM_back (hBf.take _) hs
          rw [List.append_nil] at e1
          have hlen := segsM_len hs
          have w1 := segsM_enc f1 ((l.flatMap encS).drop (k - 9))
          rw [← e1, List.take_append_drop, hlen] at w1
          have w2 := segsM_enc (fun s hs => fit_of (hm s hs) (hl s hs)) []
          rw [List.append_nil, w1] at w2
          have w3 : (l.flatMap encS).drop (k - 9) = [] := by
            have := Option.some.inj w2
            exact (Prod.mk.inj this).2
          have w4 := congrArg List.length w3
          rw [List.length_drop, ← q4, List.length_drop] at w4
          simp at w4
          omega
        · rw [if_neg (fun h => hq h.1)]
    · rfl
  · rw [if_neg (fun h => h9 (by have := h.2; rw [List.length_take] at this; omega))]
/-- Bytes that are a program are told by it. -/
theorem decM_back {b : List Int} (hB : Bytes b) {e : Int} {l : List Sg} (h : decM b = some (e, l)) : img e l = b ∧ okI e l = true ∧ (∀ s ∈ l, PermB s) ∧ 0 ≤ e ∧ e < 4294967296 := by
  unfold decM at h
  split at h
  · rename_i hc
    obtain ⟨h4, h9⟩ := hc
    split at h
    · rename_i l0 q hs
      split at h
      · rename_i hq
        obtain ⟨rfl, hok⟩ := hq
        have hlt := levN_lt4 ((hB.drop 4).take 4) (by rw [List.length_take]; omega)
        have q1 := le_levN ((hB.drop 4).take 4)
        rw [List.length_take, List.length_drop, Nat.min_eq_left (by omega)] at q1
        obtain ⟨g1, g2⟩ := levN_one hB h9
        have hlen := segsM_len hs
        obtain ⟨e1, f1⟩ := segsM_back (hB.drop 9) hs
        rw [List.append_nil] at e1
        have hx := hB _ (getD_mem b 8 0 (by omega))
        generalize levN ((b.drop 4).take 4) = E at h hok hlt q1
        cases h
        refine ⟨?_, hok, segsM_perm hs, by omega, by omega⟩
        unfold img heads
        rw [q1, ← e1, hlen, show (((b.getD 8 0).toNat : Nat) : Int) % 256 = b.getD 8 0 by omega, ← h4]
        simp only [List.append_assoc, List.singleton_append]
        rw [← drop_getD b 8 0 (by omega)]
        have s4 : b.drop 4 = (b.drop 4).take 4 ++ b.drop 8 := by
          have := (List.take_append_drop 4 (b.drop 4)).symm
          rwa [List.drop_drop] at this
        rw [← s4, List.take_append_drop]
      · cases h
    · cases h
  · cases h

theorem img_bytes (e : Int) (l : List Sg) (hl : ∀ s ∈ l, PermB s) (hd : ∀ s ∈ l, Bytes s.2.2.2) : Bytes (img e l) := by
  intro z hz
  unfold img heads at hz
  simp only [List.mem_append, List.mem_flatMap] at hz
  rcases hz with (hz | hz | hz) | ⟨s, hs, hz⟩
  · simp at hz; omega
  · exact le_bytes 4 _ z hz
  · rw [List.mem_singleton] at hz; omega
  · unfold encS at hz
    simp only [List.mem_append] at hz
    rcases hz with hz | hz | hz | hz | hz
    · exact le_bytes 2 _ z hz
    · exact le_bytes 2 _ z hz
    · rw [List.mem_singleton] at hz; have := hl s hs; unfold PermB at this; omega
    · exact le_bytes 2 _ z hz
    · exact hd s hs z hz
theorem img_len (e : Int) (l : List Sg) (hok : okI e l = true) : 9 ≤ (img e l).length ∧ (img e l).length ≤ 600000 := by
  obtain ⟨p1, p2, p3, p4, p5⟩ := okI_parts hok
  have hm := chk_may l 0 p4
  have := enc_len l hm
  unfold img
  rw [List.length_append, heads_len]
  omega

theorem back_loop (e : Int) (l : List Sg) (b : List Int) (cut : Int) (hn : l.length ≤ 20) : ∀ (d n k : Nat), l.length - k = d → d < n → k ≤ l.length → ∃ r : Unit ⊕ Bool, halterlaw21_ImageBack.l0 e l b cut n (k : Int) = some r ∧ (∀ q, r = .inr q → q = true) := by
  intro d
  induction d with
  | zero =>
    intro n k hk hd hle
    obtain ⟨n, rfl⟩ := fuel_step hd
    unfold halterlaw21_ImageBack.l0
    rw [if_neg (by omega)]
    exact ⟨_, rfl, fun q e => by cases e⟩
  | succ d ih =>
    intro n k hk hd hle
    obtain ⟨n, rfl⟩ := fuel_step hd
    unfold halterlaw21_ImageBack.l0
    rw [if_pos (by omega), if_pos ⟨by omega, by omega⟩, wsucc (by omega)]
    split
    · rw [sure_ok, bind_go]
      exact ⟨_, rfl, fun q e => by cases e; rfl⟩
    · exact ih n (k + 1) (by omega) (by omega) (by omega)
theorem isImage_loop (e : Int) (l : List Sg) (hn : l.length ≤ 9223372036854775806) : ∀ (d n k : Nat), l.length - k = d → d < n → k ≤ l.length → halterlaw21_isImage.l0 e l e l n (k : Int) = some (.inl ()) := by
  intro d
  induction d with
  | zero =>
    intro n k hk hd hle
    obtain ⟨n, rfl⟩ := fuel_step hd
    unfold halterlaw21_isImage.l0
    rw [if_neg (by omega)]
  | succ d ih =>
    intro n k hk hd hle
    obtain ⟨n, rfl⟩ := fuel_step hd
    unfold halterlaw21_isImage.l0
    rw [if_pos (by omega), if_pos ⟨by omega, by omega⟩, if_pos ⟨by omega, by omega⟩, if_neg (fun h => h rfl), if_neg (fun h => h rfl), if_neg (fun h => h rfl), if_neg (fun h => h rfl), wsucc (by omega)]
    exact ih n (k + 1) (by omega) (by omega) (by omega)
theorem isImage_eq (e : Int) (l : List Sg) (hn : l.length ≤ 9223372036854775806) : halterlaw21_isImage.f e l e l = some true := by
  unfold halterlaw21_isImage.f
  have h := isImage_loop e l hn _ FUEL 0 rfl (fuel_gt (by omega)) (by omega)
  have h : halterlaw21_isImage.l0 e l e l FUEL (0 : Int) = _ := h
  rw [if_neg (fun h => h rfl), if_neg (fun h => h rfl), h]
  rfl

/-- Bytes that are a program are told by it; others are none. -/
theorem tail_eq (b : List Int) (hB : Bytes b) (hb : b.length ≤ 140737488355328) :
    ((image_Decode_v1.f b).bind fun t42 =>
        if ¬ (t42.2.2 = none) then
          if t42.1 = (0 : Int) then
            if (((List.length t42.2.1) : Nat) : Int) = (0 : Int) then
              halterlaw21_sure.f.bind fun t46 =>
              some t46
            else
              some false
          else
            some false
        else
          (image_Encode.f t42.1 t42.2.1).bind fun t47 =>
          if t47.1 = none then
            if (strOfNums t47.2) = (strOfNums b) then
              halterlaw21_sure.f.bind fun t50 =>
              some t50
            else
              some false
          else
            some false) = some true := by
  rw [Dec1_eq b hB hb, bind_go]
  unfold DecR
  cases hd : decM b with
  | none =>
    simp only
    rw [if_pos (by simp), if_pos trivial, if_pos (by simp), sure_ok]
    rfl
  | some p =>
    obtain ⟨e, l⟩ := p
    obtain ⟨h1, h2, h3, h4, h5⟩ := decM_back hB hd
    have hl := (okI_parts h2).2.1
    simp only
    rw [if_neg (fun h => h trivial), Encode_eq e ⟨h4, h5⟩ l h3 (by omega), h2, bind_go]
    simp only [if_true]
    rw [h1, if_pos rfl, sure_ok]
    rfl

theorem ImageBack (a0 : Int) (a1 : (List (Int × (Int × (Int × (List Int)))))) (a2 : (List Int)) (a3 : Int) (h0 : (Lit.int .u32 a0).wf = true) (h1 : List.length a1 * 48 ≤ reachBytes) (h2 : ∀ z : (Int × (Int × (Int × (List Int)))), z ∈ a1 → goodT (.pair (.int .i64) (.pair (.int .i64) (.pair (.int .u8) (.sl (.int .u8))))) z) (h3 : List.length a2 * 1 ≤ reachBytes) (h4 : ∀ z ∈ a2, (Lit.int .u8 z).wf = true) (h5 : (Lit.int .i64 a3).wf = true) : halterlaw21_ImageBack.f a0 a1 a2 a3 = some true := by
  have e0 := u32_bd h0
  have hP : ∀ s ∈ a1, PermB s := fun s hs => by
    have := h2 s hs
    exact u8_bd this.2.2.1
  have hD : ∀ s ∈ a1, Bytes s.2.2.2 := fun s hs => by
    have := h2 s hs
    have h := this.2.2.2
    simp only [goodT] at h
    exact fun z hz => u8_bd (h.2 z hz)
  have h48 : a1.length * 48 ≤ 140737488351232 := h1
  have hb : a2.length ≤ 140737488355328 := by
    have h3 : a2.length * 1 ≤ 140737488351232 := h3
    omega
  have hB : Bytes a2 := fun z hz => u8_bd (h4 z hz)
  have htail := tail_eq a2 hB hb
  unfold halterlaw21_ImageBack.f
  by_cases h20 : ((a1.length : Nat) : Int) > 20
  · rw [if_pos h20, sure_ok]; rfl
  rw [if_neg h20]
  obtain ⟨r, hr, hq⟩ := back_loop a0 a1 a2 a3 (by omega) _ FUEL 0 rfl (fuel_gt (by omega)) (by omega)
  have hr : halterlaw21_ImageBack.l0 a0 a1 a2 a3 FUEL (0 : Int) = _ := hr
  rw [hr, bind_go]
  cases r with
  | inr q => simp only; rw [hq q rfl]
  | inl u =>
    simp only
    rw [give_eq a0 a1 h48, bind_go]
    simp only
    rw [Encode_eq a0 e0 a1 hP (by omega), bind_go]
    cases hok : okI a0 a1 with
    | false =>
      simp only [Bool.false_eq_true, if_false]
      rw [if_neg (by simp)]
      exact htail
    | true =>
      simp only [if_true]
      obtain ⟨n1, n2⟩ := img_len a0 a1 hok
      have hI := img_bytes a0 a1 hP hD
      obtain ⟨E, rfl⟩ : ∃ E : Nat, a0 = (E : Int) := ⟨a0.toNat, by omega⟩
      have d1 := decM_img E (by omega) a1 hP hok []
      have d2 := decM_img E (by omega) a1 hP hok [0]
      have d3 := decM_cut E (by omega) a1 hP hok hI
      rw [List.append_nil, if_pos rfl] at d1
      rw [if_neg (by simp)] at d2
      generalize img (E : Int) a1 = B at n1 n2 hI d1 d2 d3
      have hB1 : Bytes (B ++ [0]) := fun z hz => by
        rcases List.mem_append.1 hz with hz | hz
        · exact hI z hz
        · rw [List.mem_singleton] at hz; omega
      rw [if_neg (by omega), Dec_eq B B.length hI (by omega) (Nat.le_refl _), bind_go, List.take_length]
      have hw : IntKind.wrap .u64 ((B.length : Nat) : Int) = (B.length : Int) := wu64_id (by omega)
      have h00 : 0 ≤ IntKind.wrap .u64 a3 := by rw [wu64]; omega
      rw [hw]
      generalize IntKind.wrap .u64 a3 = y at h00
      have hm1 : Int.tmod y (B.length : Int) = y % (B.length : Int) := Int.tmod_eq_emod_of_nonneg h00
      have hm2 := Int.emod_nonneg y (show (B.length : Int) ≠ 0 by omega)
      have hm3 := Int.emod_lt_of_pos y (show 0 < (B.length : Int) by omega)
      rw [hm1]
      obtain ⟨k, hk⟩ : ∃ k : Nat, y % (B.length : Int) = (k : Int) := ⟨(y % (B.length : Int)).toNat, by omega⟩
      rw [hk] at hm3 ⊢
      have hwk : IntKind.wrap .i64 ((k : Nat) : Int) = (k : Int) := wi64 (by omega) (by omega)
      have d4 := Dec_eq (B ++ [0]) (B ++ [0]).length hB1 (by rw [List.length_append]; simp only [List.length_singleton]; omega) (Nat.le_refl _)
      rw [List.take_length] at d4
      rw [hwk, if_pos (by omega), if_pos ⟨⟨by omega, by omega⟩, trivial⟩, toNat_nat, Dec_eq B k hI (by omega) (by omega), bind_go, if_pos ⟨by trivial, by trivial, by trivial, by omega, by omega⟩, d4, bind_go]
      unfold DecR
      rw [d1, d2, d3 k (by omega)]
      simp only
      rw [if_neg (fun h => h trivial), isImage_eq (E : Int) a1 (by omega), bind_go, if_neg (fun h => h rfl)]
      simp only [num.f, Option.bind_some, Option.getD_some]
      rw [if_neg (fun h => h trivial), if_neg (fun h => h trivial)]
      exact htail

end Go.Proofs.YtaiedgjhgkhigaaDoor.Pure
