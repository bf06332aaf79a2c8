/- The plain law: what the law computes is true, whatever it is handed. -/
import Derived.Test.YtndjiebeihcbgaaDoorGSetTexts
import Derived.Test.YtndjiebeihcbgaaDoorE16
set_option linter.unusedVariables false
set_option linter.unusedSimpArgs false
set_option linter.unnecessarySimpa false
namespace Go.Proofs.YtndjiebeihcbgaaDoor.Pure
open Go Go.Proofs.YtndjiebeihcbgaaDoorE Go.Proofs.YtndjiebeihcbgaaDoorGSetTexts
theorem wu8 (x : Int) : IntKind.wrap .u8 x = x % 256 := by simp [IntKind.wrap, IntKind.bits, IntKind.signed]
theorem wu16 (x : Int) : IntKind.wrap .u16 x = x % 65536 := by simp [IntKind.wrap, IntKind.bits, IntKind.signed]
theorem wu32 (x : Int) : IntKind.wrap .u32 x = x % 4294967296 := by simp [IntKind.wrap, IntKind.bits, IntKind.signed]
theorem wu64 (x : Int) : IntKind.wrap .u64 x = x % 18446744073709551616 := by simp [IntKind.wrap, IntKind.bits, IntKind.signed]
theorem wi64 {x : Int} (h : -9223372036854775808 ≤ x) (h' : x ≤ 9223372036854775807) : IntKind.wrap .i64 x = x := by
  simp [IntKind.wrap, IntKind.bits, IntKind.signed]
  omega
theorem wu8_id {x : Int} (h : 0 ≤ x ∧ x < 256) : IntKind.wrap .u8 x = x := by rw [wu8]; omega
theorem wu32_id {x : Int} (h : 0 ≤ x ∧ x < 4294967296) : IntKind.wrap .u32 x = x := by rw [wu32]; omega
theorem wu64_id {x : Int} (h : 0 ≤ x ∧ x < 18446744073709551616) : IntKind.wrap .u64 x = x := by rw [wu64]; omega
theorem wsucc {i : Nat} (h : i < 9223372036854775807) : IntKind.wrap .i64 ((i : Int) + 1) = ((i + 1 : Nat) : Int) := by rw [wi64 (by omega) (by omega)]; omega
theorem u8_bd {a : Int} (h : (Lit.int .u8 a).wf = true) : 0 ≤ a ∧ a < 256 := by
  simpa [Lit.wf, IntKind.min, IntKind.max, IntKind.signed, IntKind.bits, ← Int.lt_add_one_iff] using h
theorem u32_bd {a : Int} (h : (Lit.int .u32 a).wf = true) : 0 ≤ a ∧ a < 4294967296 := by
  simpa [Lit.wf, IntKind.min, IntKind.max, IntKind.signed, IntKind.bits, ← Int.lt_add_one_iff] using h
theorem u64_bd {a : Int} (h : (Lit.int .u64 a).wf = true) : 0 ≤ a ∧ a < 18446744073709551616 := by
  simpa [Lit.wf, IntKind.min, IntKind.max, IntKind.signed, IntKind.bits, ← Int.lt_add_one_iff] using h
theorem i64_bd {a : Int} (h : (Lit.int .i64 a).wf = true) : -9223372036854775808 ≤ a ∧ a < 9223372036854775808 := by
  simpa [Lit.wf, IntKind.min, IntKind.max, IntKind.signed, IntKind.bits, ← Int.lt_add_one_iff] using h
theorem fuel_gt {n : Nat} (h : n < 18446744073709551616) : n < FUEL := h
theorem bind_go {α β : Type} (a : α) (f : α → Option β) : (some a).bind f = f a := by rw [Option.bind_some]
theorem drop_getD {α : Type} (l : List α) (i : Nat) (d : α) (h : i < l.length) : l.drop i = l.getD i d :: l.drop (i + 1) := by
  rw [List.drop_eq_getElem_cons h, List.getD_eq_getElem?_getD, List.getElem?_eq_getElem h, Option.getD_some]
theorem getD_mem {α : Type} (l : List α) (i : Nat) (d : α) (h : i < l.length) : l.getD i d ∈ l := by
  rw [List.getD_eq_getElem?_getD, List.getElem?_eq_getElem h, Option.getD_some]; exact List.getElem_mem _
theorem toNat_nat (i : Nat) : Int.toNat (i : Int) = i := rfl
/-- A number behind another one: a round of a loop. -/
theorem fuel_step {d n : Nat} (h : d < n) : ∃ m, n = m + 1 := ⟨n - 1, by omega⟩
/-- Where something stands first. -/
def first (v : Int) : List Int → Option Nat
  | [] => none
  | x :: xs => if x = v then some 0 else (first v xs).map (· + 1)
theorem first_none {v : Int} : ∀ {l : List Int}, first v l = none → ∀ z ∈ l, z ≠ v
  | [], _, z, hz => by cases hz
  | x :: xs, h, z, hz => by
    unfold first at h
    split at h
    · cases h
    · rename_i hx
      rcases List.mem_cons.1 hz with rfl | hz
      · exact hx
      · exact first_none (by simpa using h) z hz
theorem first_some {v : Int} : ∀ {l : List Int} {k : Nat}, first v l = some k → k < l.length ∧ l.getD k 0 = v ∧ ∀ j, j < k → l.getD j 0 ≠ v
  | [], _, h => by cases h
  | x :: xs, k, h => by
    unfold first at h
    split at h
    · cases h
      rename_i hx
      exact ⟨by simp, by simpa using hx, fun j hj => by omega⟩
    · rename_i hx
      cases hf : first v xs with
      | none => simp [hf] at h
      | some m =>
        simp [hf] at h
        subst h
        obtain ⟨h1, h2, h3⟩ := first_some hf
        refine ⟨by simp; omega, by simpa using h2, fun j hj => ?_⟩
        cases j with
        | zero => simpa using hx
        | succ j => simpa using h3 j (by omega)

theorem ofInt_u32 (a : Nat) (ha : a < 4294967296) : (BitVec.ofInt 32 (a : Int)).toNat = a := by
  rw [BitVec.ofInt_natCast, BitVec.toNat_ofNat]; exact Nat.mod_eq_of_lt (by omega)
theorem w32 (a : Nat) (ha : a < 4294967296) : IntKind.wrap .u32 (a : Int) = (a : Int) := by rw [wu32]; omega
theorem b_and (a b : Nat) (ha : a < 4294967296) (hb : b < 4294967296) : bits .and .u32 (a : Int) (b : Int) = ((a &&& b : Nat) : Int) := by
  have hx : a &&& b < 2 ^ 32 := Nat.and_lt_two_pow _ (by omega)
  show IntKind.u32.wrap ((BitVec.ofInt 32 (a : Int) &&& BitVec.ofInt 32 (b : Int)).toNat : Int) = _
  rw [BitVec.toNat_and, ofInt_u32 a ha, ofInt_u32 b hb, w32 _ (by omega)]
theorem b_or (a b : Nat) (ha : a < 4294967296) (hb : b < 4294967296) : bits .or .u32 (a : Int) (b : Int) = ((a ||| b : Nat) : Int) := by
  have hx : a ||| b < 2 ^ 32 := Nat.or_lt_two_pow (by omega) (by omega)
  show IntKind.u32.wrap ((BitVec.ofInt 32 (a : Int) ||| BitVec.ofInt 32 (b : Int)).toNat : Int) = _
  rw [BitVec.toNat_or, ofInt_u32 a ha, ofInt_u32 b hb, w32 _ (by omega)]
/-- What the one has and the other has not. -/
def less (a b : Nat) : Nat := a &&& (4294967295 - b)
theorem b_andNot (a b : Nat) (ha : a < 4294967296) (hb : b < 4294967296) : bits .andNot .u32 (a : Int) (b : Int) = ((less a b : Nat) : Int) := by
  have hx : a &&& (4294967295 - b) < 2 ^ 32 := Nat.and_lt_two_pow _ (by omega)
  show IntKind.u32.wrap ((BitVec.ofInt 32 (a : Int) &&& ~~~BitVec.ofInt 32 (b : Int)).toNat : Int) = _
  rw [BitVec.toNat_and, BitVec.toNat_not, ofInt_u32 a ha, ofInt_u32 b hb]
  have e : 2 ^ 32 - 1 - b = 4294967295 - b := by omega
  rw [e, w32 _ (by omega)]
  rfl
theorem bit_hi {x j w : Nat} (hx : x < 2 ^ w) (hj : w ≤ j) : x.testBit j = false :=
  Nat.testBit_lt_two_pow (Nat.lt_of_lt_of_le hx (Nat.pow_le_pow_right (by omega) hj))
theorem less_bit {a b : Nat} (ha : a < 4294967296) (hb : b < 4294967296) (j : Nat) : (less a b).testBit j = (a.testBit j && !b.testBit j) := by
  unfold less
  rw [show 4294967295 - b = 2 ^ 32 - (b + 1) by omega, Nat.testBit_and, Nat.testBit_two_pow_sub_succ (by omega)]
  by_cases hj : j < 32
  · simp [hj]
  · rw [bit_hi (show a < 2 ^ 32 by omega) (by omega)]; simp
theorem less_le (a b : Nat) : less a b ≤ a := Nat.and_le_left
/-- The set's bits of 31. -/
theorem cut_eq {a : Nat} (ha : a < 2147483648) : a &&& 2147483647 = a := by
  have := Nat.and_two_pow_sub_one_eq_mod a 31
  rw [show (2147483647 : Nat) = 2 ^ 31 - 1 from rfl, this]
  omega
theorem cut_bit (a j : Nat) : (a &&& 2147483647).testBit j = (decide (j < 31) && a.testBit j) := by
  rw [show (2147483647 : Nat) = 2 ^ 31 - 1 from rfl, Nat.and_two_pow_sub_one_eq_mod, Nat.testBit_mod_two_pow]
theorem cut_lt (a : Nat) : a &&& 2147483647 < 2147483648 := by
  have : a &&& 2147483647 ≤ 2147483647 := Nat.and_le_right
  omega
/-- The lowest bit. -/
theorem lowest : ∀ (a : Nat), a ≠ 0 → ∃ k m, a = 2 ^ k * (2 * m + 1) := by
  intro a
  induction a using Nat.strongRecOn with
  | _ a ih =>
    intro h
    by_cases h2 : a % 2 = 1
    · exact ⟨0, a / 2, by omega⟩
    · obtain ⟨k, m, e⟩ := ih (a / 2) (by omega) (by omega)
      refine ⟨k + 1, m, ?_⟩
      rw [Nat.pow_succ, Nat.mul_assoc, Nat.mul_comm 2, ← Nat.mul_assoc, ← e]
      omega
theorem low_bits {a k m : Nat} (e : a = 2 ^ k * (2 * m + 1)) : (∀ j, j < k → a.testBit j = false) ∧ a.testBit k = true := by
  have e2 : a = 2 ^ (k + 1) * m + 2 ^ k := by rw [e, Nat.pow_succ, Nat.mul_add, Nat.mul_one, Nat.mul_assoc]
  have hk : (2 : Nat) ^ k < 2 ^ (k + 1) := Nat.pow_lt_pow_right (by omega) (by omega)
  constructor
  · intro j hj
    rw [e2, Nat.testBit_two_pow_mul_add _ hk, if_pos (by omega), Nat.testBit_two_pow]
    simp; omega
  · rw [e2, Nat.testBit_two_pow_mul_add _ hk, if_pos (by omega), Nat.testBit_two_pow]
    simp
theorem low_and {a k m : Nat} (ha : a < 4294967296) (e : a = 2 ^ k * (2 * m + 1)) : a &&& (4294967296 - a) = 2 ^ k := by
  have hp := Nat.two_pow_pos k
  have e2 : a = 2 ^ (k + 1) * m + 2 ^ k := by rw [e, Nat.pow_succ, Nat.mul_add, Nat.mul_one, Nat.mul_assoc]
  have hk : (2 : Nat) ^ k < 2 ^ (k + 1) := Nat.pow_lt_pow_right (by omega) (by omega)
  have e3 : a - 1 = 2 ^ (k + 1) * m + (2 ^ k - 1) := by omega
  have hk2 : (2 : Nat) ^ k - 1 < 2 ^ (k + 1) := by omega
  have ha0 : 0 < a := by omega
  apply Nat.eq_of_testBit_eq
  intro j
  rw [show 4294967296 - a = 2 ^ 32 - (a - 1 + 1) by omega, Nat.testBit_and, Nat.testBit_two_pow_sub_succ (by omega), Nat.testBit_two_pow]
  by_cases hj : j < 32
  · rw [e3]
    conv => lhs; rw [e2]
    rw [Nat.testBit_two_pow_mul_add _ hk, Nat.testBit_two_pow_mul_add _ hk2]
    by_cases h1 : j < k + 1
    · rw [if_pos h1, if_pos h1, Nat.testBit_two_pow, Nat.testBit_two_pow_sub_one]
      by_cases h2 : k = j
      · subst h2; simp [hj]
      · have : j < k := by omega
        simp [h2, this]
    · rw [if_neg h1, if_neg h1]
      have : ¬ k = j := by omega
      simp [this]
      intro h _; exact h
  · rw [bit_hi (show a < 2 ^ 32 by omega) (by omega)]
    have : ¬ k = j := by
      intro h
      have h1 : (2 : Nat) ^ 32 ≤ 2 ^ k := Nat.pow_le_pow_right (by omega) (by omega)
      have h2 : 2 ^ k ≤ a := by rw [e2]; exact Nat.le_add_left ..
      omega
    simp [this]
theorem low_lt {a k m w : Nat} (ha : a < 2 ^ w) (e : a = 2 ^ k * (2 * m + 1)) : k < w := by
  have h1 := (low_bits e).2
  apply Classical.byContradiction
  intro h
  rw [bit_hi ha (by omega)] at h1
  cases h1
theorem bits_zero {a : Nat} (h : ∀ j, a.testBit j = false) : a = 0 := by
  apply Nat.eq_of_testBit_eq
  intro j
  rw [h j, Nat.zero_testBit]

/-- The signals of a set. -/
def els (f : Nat → Bool) : Nat → Nat → List Int
  | 0, _ => []
  | d + 1, i => (if f i = true then [((i + 1 : Nat) : Int)] else []) ++ els f d (i + 1)
theorem els_len (f : Nat → Bool) : ∀ d i, (els f d i).length ≤ d
  | 0, _ => by simp [els]
  | d + 1, i => by
    have := els_len f d (i + 1)
    unfold els
    split <;> simp <;> omega
theorem els_mem (f : Nat → Bool) (z : Int) : ∀ d i, z ∈ els f d i ↔ ∃ k, i ≤ k ∧ k < i + d ∧ f k = true ∧ z = ((k + 1 : Nat) : Int)
  | 0, i => by simp [els]; intro k h1 h2; omega
  | d + 1, i => by
    unfold els
    rw [List.mem_append, els_mem f z d (i + 1)]
    constructor
    · rintro (h | ⟨k, h1, h2, h3, h4⟩)
      · split at h
        · rename_i hf
          exact ⟨i, by omega, by omega, hf, by simpa using h⟩
        · cases h
      · exact ⟨k, by omega, by omega, h3, h4⟩
    · rintro ⟨k, h1, h2, h3, h4⟩
      by_cases hk : k = i
      · subst hk; left; rw [if_pos h3]; simpa using h4
      · right; exact ⟨k, by omega, by omega, h3, h4⟩
theorem els_mem31 (f : Nat → Bool) (k : Nat) (hk : k < 31) : ((k + 1 : Nat) : Int) ∈ els f 31 0 ↔ f k = true := by
  rw [els_mem]
  constructor
  · rintro ⟨j, h1, h2, h3, h4⟩
    have : j = k := by omega
    rw [← this]; exact h3
  · intro h
    exact ⟨k, by omega, by omega, h, rfl⟩
theorem ListL (p : Nat) (hp : p < 4294967296) : ∀ (d i n : Nat) (x : List Int), i + d = 31 → d < n → x.length ≤ i → halterref03_List.l0 n x ((p / 2 ^ i : Nat) : Int) ((i + 1 : Nat) : Int) = some (x ++ els p.testBit d i)
  | d, i, 0, x, h, hn, hx => by omega
  | 0, i, n + 1, x, h, hn, hx => by
    rw [halterref03_List.l0, if_neg (by omega)]
    simp [els]
  | d + 1, i, n + 1, x, h, hn, hx => by
    have hq : p / 2 ^ i ≤ p := Nat.div_le_self ..
    have hq0 : (0 : Int) ≤ ((p / 2 ^ i : Nat) : Int) := Int.natCast_nonneg _
    have e1 : IntKind.wrap .u32 (Int.tdiv ((p / 2 ^ i : Nat) : Int) 2) = ((p / 2 ^ (i + 1) : Nat) : Int) := by
      rw [Nat.pow_succ, ← Nat.div_div_eq_div_mul, Int.tdiv_eq_ediv_of_nonneg hq0, wu32]
      generalize p / 2 ^ i = q at *
      omega
    have e2 : Int.tmod ((p / 2 ^ i : Nat) : Int) 2 = 1 ↔ p.testBit i = true := by
      rw [Int.tmod_eq_emod_of_nonneg hq0, Nat.testBit_eq_decide_div_mod_eq, decide_eq_true_eq]
      generalize p / 2 ^ i = q
      omega
    have e3 : IntKind.wrap .i64 (((i + 1 : Nat) : Int) + 1) = ((i + 1 + 1 : Nat) : Int) := wsucc (by omega)
    rw [halterref03_List.l0, if_pos (by omega), e1, e3]
    have ih := fun y hy => ListL p hp d (i + 1) n y (by omega) (by omega) hy
    clear e1 e3
    unfold els
    by_cases hb : p.testBit i = true
    · rw [if_pos (e2.2 hb), if_pos (⟨⟨rfl, rfl⟩, rfl, rfl, by omega, by omega⟩), ih _ (by simp; omega), if_pos hb, List.append_assoc]
    · rw [if_neg (fun h => hb (e2.1 h)), ih _ (by omega), if_neg hb, List.nil_append]
theorem List_eq {p : Nat} (hp : p < 4294967296) : halterref03_List.f (p : Int) = some (els p.testBit 31 0) := by
  have := ListL p hp 31 0 FUEL [] (by omega) (fuel_gt (by omega)) (by simp)
  unfold halterref03_List.f
  rw [show (p / 2 ^ 0 : Nat) = p by simp] at this
  rw [show halterref03_List.l0 FUEL [] (p : Int) 1 = _ from this, bind_go, List.nil_append]
theorem OfL1 (v : Int) (l : List Int) (hl : l.length < 1000) (s : Nat) (hs : s < 4294967295) : ∀ (d i n : Nat), l.length - i = d → i ≤ l.length → d < n → halterref03_Of.l1 v l n (s : Int) (i : Int) = some (((s + if v ∈ l.drop i then 1 else 0 : Nat)) : Int)
  | d, i, 0, hd, hi, hn => by omega
  | 0, i, n + 1, hd, hi, hn => by
    rw [halterref03_Of.l1, if_neg (by omega), List.drop_eq_nil_of_le (by omega), if_neg (by simp), Nat.add_zero]
  | d + 1, i, n + 1, hd, hi, hn => by
    rw [halterref03_Of.l1, if_pos (by omega), if_pos (by omega), toNat_nat, wsucc (by omega), OfL1 v l hl s hs d (i + 1) n (by omega) (by omega) (by omega), drop_getD l i 0 (by omega)]
    by_cases h : l.getD i 0 = v
    · rw [if_pos h, if_pos (by rw [h]; exact List.mem_cons_self), wu32]
      congr 1; omega
    · rw [if_neg h]
      by_cases h2 : v ∈ l.drop (i + 1)
      · rw [if_pos h2, if_pos (List.mem_cons_of_mem _ h2)]
      · rw [if_neg h2, if_neg (by rw [List.mem_cons]; rintro (h3 | h3); exact h h3.symm; exact h2 h3)]
theorem OfL0 (l : List Int) (hl : l.length < 1000) : ∀ (m n s : Nat), m ≤ 31 → m < n → s < 2 ^ (31 - m) → (∀ k, k < 31 - m → s.testBit k = decide (((m + k + 1 : Nat) : Int) ∈ l)) → ∃ r : Nat, r < 2147483648 ∧ (∀ k, k < 31 → r.testBit k = decide (((k + 1 : Nat) : Int) ∈ l)) ∧ halterref03_Of.l0 l n (s : Int) (m : Int) = some (r : Int)
  | m, 0, s, hm, hn, hs, hb => by omega
  | 0, n + 1, s, hm, hn, hs, hb => by
    refine ⟨s, hs, fun k hk => ?_, ?_⟩
    · rw [hb k hk, Nat.zero_add]
    · rw [halterref03_Of.l0, if_neg (by omega)]
  | m + 1, n + 1, s, hm, hn, hs, hb => by
    have hs2 : (2 : Nat) ^ (31 - (m + 1)) ≤ 2 ^ 30 := Nat.pow_le_pow_right (by omega) (by omega)
    have e1 : IntKind.wrap .u32 ((2 : Int) * (s : Int)) = ((2 * s : Nat) : Int) := by rw [wu32]; omega
    have e2 : IntKind.wrap .i64 (((m + 1 : Nat) : Int) - 1) = (m : Int) := by rw [wi64 (by omega) (by omega)]; omega
    have hp : (2 : Nat) ^ (31 - m) = 2 * 2 ^ (31 - (m + 1)) := by
      rw [show 31 - m = 31 - (m + 1) + 1 by omega, Nat.pow_succ]; omega
    obtain ⟨r, h1, h2, h3⟩ := OfL0 l hl m n (2 * s + if ((m + 1 : Nat) : Int) ∈ l then 1 else 0) (by omega) (by omega) (by split <;> omega) (fun k hk => by
      cases k with
      | zero =>
        rw [Nat.testBit_zero]
        by_cases h : ((m + 1 : Nat) : Int) ∈ l
        · rw [if_pos h, show m + 0 + 1 = m + 1 from rfl, decide_eq_true h, decide_eq_true (by omega)]
        · rw [if_neg h, show m + 0 + 1 = m + 1 from rfl, decide_eq_false h, decide_eq_false (by omega)]
      | succ k =>
        rw [Nat.testBit_succ, show (2 * s + if ((m + 1 : Nat) : Int) ∈ l then 1 else 0) / 2 = s by split <;> omega, hb k (by omega), show m + 1 + k + 1 = m + (k + 1) + 1 by omega])
    refine ⟨r, h1, h2, ?_⟩
    rw [halterref03_Of.l0, if_pos (by omega), e1, e2, show halterref03_Of.l1 ((m + 1 : Nat) : Int) l FUEL ((2 * s : Nat) : Int) 0 = _ from OfL1 _ l hl (2 * s) (by omega) _ 0 FUEL rfl (by omega) (fuel_gt (by omega)), bind_go, List.drop_zero]
    exact h3
theorem Of_eq (l : List Int) (hl : l.length < 1000) : ∃ r : Nat, r < 2147483648 ∧ (∀ k, k < 31 → r.testBit k = decide (((k + 1 : Nat) : Int) ∈ l)) ∧ halterref03_Of.f l = some (r : Int) := by
  obtain ⟨r, h1, h2, h3⟩ := OfL0 l hl 31 FUEL 0 (by omega) (fuel_gt (by omega)) (by decide) (fun k hk => by omega)
  refine ⟨r, h1, h2, ?_⟩
  unfold halterref03_Of.f
  rw [show halterref03_Of.l0 l FUEL 0 31 = _ from h3, bind_go]
theorem ext31 {a b : Nat} (ha : a < 2147483648) (hb : b < 2147483648) (h : ∀ k, k < 31 → a.testBit k = b.testBit k) : a = b := by
  apply Nat.eq_of_testBit_eq
  intro j
  by_cases hj : j < 31
  · exact h j hj
  · rw [bit_hi (show a < 2 ^ 31 from ha) (by omega), bit_hi (show b < 2 ^ 31 from hb) (by omega)]

/-- The digits. -/
def hexs : ByteArray := (⟨#[48, 49, 50, 51, 52, 53, 54, 55, 56, 57, 97, 98, 99, 100, 101, 102]⟩ : ByteArray)
def dg (v : Nat) : Int := bt hexs (v : Int)
def nib (a i : Nat) : Nat := a / 2 ^ (4 * (7 - i)) % 16
def digs (a : Nat) : List Int := [dg (nib a 0), dg (nib a 1), dg (nib a 2), dg (nib a 3), dg (nib a 4), dg (nib a 5), dg (nib a 6), dg (nib a 7)]
theorem dg_lo (v : Nat) (h : v < 10) : dg v = ((48 + v : Nat) : Int) := by
  have : ∀ q : Fin 10, dg q.val = ((48 + q.val : Nat) : Int) := by decide +kernel
  exact this ⟨v, h⟩
theorem dg_hi (v : Nat) (h : 10 ≤ v) (h2 : v < 16) : dg v = ((87 + v : Nat) : Int) := by
  have : ∀ q : Fin 16, 10 ≤ q.val → dg q.val = ((87 + q.val : Nat) : Int) := by decide +kernel
  exact this ⟨v, h2⟩ h
theorem dg_bd (v : Nat) (h : v < 16) : 0 ≤ dg v ∧ dg v < 256 := by
  by_cases h1 : v < 10
  · rw [dg_lo v h1]; omega
  · rw [dg_hi v (by omega) h]; omega
theorem nib_lt (a i : Nat) : nib a i < 16 := Nat.mod_lt _ (by omega)
theorem shrN (a k : Nat) (h : k ≤ 32) : shr .u32 (a : Int) (k : Int) = ((a / 2 ^ k : Nat) : Int) := by
  unfold shr
  rw [Int.toNat_natCast, Nat.min_eq_left (show k ≤ IntKind.u32.bits from h), Int.natCast_ediv, Int.natCast_pow]
  rfl
theorem and15 (a : Nat) (ha : a < 4294967296) : bits .and .u32 (a : Int) 15 = ((a % 16 : Nat) : Int) := by
  have h : a &&& 15 = a % 16 := by
    rw [show (15 : Nat) = 2 ^ 4 - 1 from rfl, Nat.and_two_pow_sub_one_eq_mod]
  rw [show bits .and .u32 (a : Int) 15 = ((a &&& 15 : Nat) : Int) from b_and a 15 ha (by omega), h]
theorem text_step {a : Nat} (ha : a < 2147483648) (n i : Nat) (hi : i < 8) (x : List Int) : sigset_Text.l0 (a : Int) (n + 1) x (i : Int) = sigset_Text.l0 (a : Int) n (x.set i (dg (nib a i))) ((i + 1 : Nat) : Int) := by
  have e1 : IntKind.wrap .i64 ((7 : Int) - (i : Int)) = ((7 - i : Nat) : Int) := by rw [wi64 (by omega) (by omega)]; omega
  have e2 : IntKind.wrap .i64 ((4 : Int) * ((7 - i : Nat) : Int)) = ((4 * (7 - i) : Nat) : Int) := by rw [wi64 (by omega) (by omega)]; omega
  have e3 : bits .and .u32 (a : Int) 2147483647 = (a : Int) := by
    rw [show bits .and .u32 (a : Int) 2147483647 = ((a &&& 2147483647 : Nat) : Int) from b_and a 2147483647 (by omega) (by omega), cut_eq ha]
  have hq : a / 2 ^ (4 * (7 - i)) ≤ a := Nat.div_le_self ..
  have hn := nib_lt a i
  have e5 : bits .and .u32 ((a / 2 ^ (4 * (7 - i)) : Nat) : Int) 15 = ((nib a i : Nat) : Int) := and15 _ (by omega)
  have hz : ((ByteArray.size (⟨#[48, 49, 50, 51, 52, 53, 54, 55, 56, 57, 97, 98, 99, 100, 101, 102]⟩ : ByteArray) : Nat) : Int) = 16 := rfl
  rw [sigset_Text.l0, if_pos (by omega), e1, e2, e3, shrN a _ (by omega), e5, hz, if_pos (Int.natCast_nonneg _), if_pos (by omega), if_pos (by omega), toNat_nat, Nat.zero_add, if_pos hi, wsucc (by omega)]
  rfl
theorem Text_eq {a : Nat} (ha : a < 2147483648) : sigset_Text.f (a : Int) = some (strOfNums (digs a)) := by
  have h : ∀ n, sigset_Text.l0 (a : Int) (n + 9) (List.replicate 8 (0 : Int)) ((0 : Nat) : Int) = some (digs a) := by
    intro n
    rw [text_step ha (n + 8) 0 (by omega), text_step ha (n + 7) 1 (by omega), text_step ha (n + 6) 2 (by omega), text_step ha (n + 5) 3 (by omega), text_step ha (n + 4) 4 (by omega), text_step ha (n + 3) 5 (by omega), text_step ha (n + 2) 6 (by omega), text_step ha (n + 1) 7 (by omega), sigset_Text.l0, if_neg (by omega)]
    rfl
  have h2 : sigset_Text.l0 (a : Int) FUEL (List.replicate 8 (0 : Int)) 0 = some (digs a) := h 18446744073709551607
  unfold sigset_Text.f
  rw [h2, bind_go]
  rfl
theorem bytes_of (l : List Int) (h : ∀ z ∈ l, 0 ≤ z ∧ z < 256) : bytesOf (strOfNums l) = l := by
  unfold bytesOf
  rw [strOfNums_data, List.map_map]
  conv => rhs; rw [← List.map_id l]
  apply List.map_congr_left
  intro z hz
  have := h z hz
  show ((UInt8.ofNat z.toNat).toNat : Int) = z
  rw [UInt8.toNat_ofNat']
  omega
theorem bytes_digs (a : Nat) : bytesOf (strOfNums (digs a)) = digs a := by
  apply bytes_of
  intro z hz
  unfold digs at hz
  simp only [List.mem_cons, List.not_mem_nil, or_false] at hz
  rcases hz with rfl | rfl | rfl | rfl | rfl | rfl | rfl | rfl <;> exact dg_bd _ (nib_lt _ _)
theorem digs_at (a i : Nat) (hi : i < 8) : (digs a).getD i 0 = dg (nib a i) := by
  match i, hi with
  | 0, _ => rfl
  | 1, _ => rfl
  | 2, _ => rfl
  | 3, _ => rfl
  | 4, _ => rfl
  | 5, _ => rfl
  | 6, _ => rfl
  | 7, _ => rfl
theorem low_eq (v : Nat) (h : 10 ≤ v) (h2 : v < 16) : internal_strconv_lower.f ((87 + v : Nat) : Int) = some ((87 + v : Nat) : Int) := by
  have : ∀ q : Fin 16, 10 ≤ q.val → internal_strconv_lower.f ((87 + q.val : Nat) : Int) = some ((87 + q.val : Nat) : Int) := by decide +kernel
  exact this ⟨v, h2⟩ h
theorem pu_step (s : ByteArray) (hs : (bytesOf s).length = 8) (n i x v : Nat) (hi : i < 8) (hv : v < 16) (hb : (bytesOf s).getD i 0 = dg v) (hx : x < 268435456) :
    internal_strconv_ParseUint.l0 s (n + 1) false (x : Int) (i : Int) = internal_strconv_ParseUint.l0 s n false ((x * 16 + v : Nat) : Int) ((i + 1 : Nat) : Int) := by
  have eM : IntKind.wrap .u64 (shl .u64 (1 : Int) (32 : Int) - (1 : Int)) = 4294967295 := by decide +kernel
  have e1 : IntKind.wrap .u64 ((x : Int) * 16) = ((x * 16 : Nat) : Int) := by rw [wu64_id (by omega)]; omega
  have e2 : IntKind.wrap .u64 (v : Int) = (v : Int) := wu64_id (by omega)
  have e3 : IntKind.wrap .u64 (((x * 16 : Nat) : Int) + (v : Int)) = ((x * 16 + v : Nat) : Int) := by rw [wu64_id (by omega)]; omega
  rw [internal_strconv_ParseUint.l0, hs, if_pos (by omega), if_pos ⟨by omega, by omega⟩, toNat_nat, Nat.zero_add, if_pos hi, hb, wsucc (by omega)]
  by_cases h : v < 10
  · have e4 : IntKind.wrap .u8 (((48 + v : Nat) : Int) - 48) = (v : Int) := by rw [wu8_id (by omega)]; omega
    rw [dg_lo v h, if_neg (by omega), if_pos (by omega), if_pos (by omega), e4, if_neg (by omega), if_neg (by omega), e1, e2, e3, if_neg (by omega), eM, if_neg (by omega)]
  · have e5 : IntKind.wrap .u8 (((87 + v : Nat) : Int) - 97) = ((v - 10 : Nat) : Int) := by rw [wu8_id (by omega)]; omega
    have e4 : IntKind.wrap .u8 (((v - 10 : Nat) : Int) + 10) = (v : Int) := by rw [wu8_id (by omega)]; omega
    rw [dg_hi v (by omega) hv, if_neg (by omega), if_pos (by omega), if_neg (by omega), low_eq v (by omega) hv, bind_go, if_pos (by omega), bind_go, if_pos (by omega), bind_go, e5, e4, if_neg (by omega), if_neg (by omega), e1, e2, e3, if_neg (by omega), eM, if_neg (by omega)]
/-- What has been read. -/
def st (a i : Nat) : Nat := a / 2 ^ (4 * (8 - i))
theorem st_succ {a : Nat} (ha : a < 4294967296) (i : Nat) (hi : i < 8) : st a (i + 1) = st a i * 16 + nib a i ∧ st a i < 268435456 := by
  unfold st nib
  have e : 4 * (8 - i) = 4 * (7 - i) + 4 := by omega
  have e2 : 4 * (8 - (i + 1)) = 4 * (7 - i) := by omega
  have hq : a / 2 ^ (4 * (7 - i)) ≤ a := Nat.div_le_self ..
  rw [e, e2, Nat.pow_add, ← Nat.div_div_eq_div_mul]
  generalize a / 2 ^ (4 * (7 - i)) = q at *
  omega
theorem pu_loop {a : Nat} (ha : a < 4294967296) : ∀ (d i n : Nat), i + d = 8 → d < n → internal_strconv_ParseUint.l0 (strOfNums (digs a)) n false ((st a i : Nat) : Int) (i : Int) = some (.inl (false, (a : Int))) := by
  have hb := bytes_digs a
  intro d
  induction d with
  | zero =>
    intro i n hi hn
    obtain ⟨q, rfl⟩ := fuel_step hn
    have : i = 8 := by omega
    subst this
    rw [internal_strconv_ParseUint.l0, hb, if_neg (by show ¬ ((8 : Nat) : Int) < ((8 : Nat) : Int); omega)]
    have : st a 8 = a := by unfold st; simp
    rw [this]
  | succ d ih =>
    intro i n hi hn
    obtain ⟨q, rfl⟩ := fuel_step hn
    obtain ⟨h1, h2⟩ := st_succ ha i (by omega)
    rw [pu_step _ (by rw [hb]; rfl) q i (st a i) (nib a i) (by omega) (nib_lt _ _) (by rw [hb]; exact digs_at a i (by omega)) h2, ← h1]
    exact ih (i + 1) q (by omega) (by omega)
theorem Parse_eq {a : Nat} (ha : a < 2147483648) : sigset_Parse.f (strOfNums (digs a)) = some ((a : Int), none) := by
  have hs : ByteArray.size (strOfNums (digs a)) = 8 := strOfNums_size _
  have hne : ¬ strOfNums (digs a) = ByteArray.empty := fun h => by rw [h] at hs; exact absurd hs (by decide)
  have hp := pu_loop (show a < 4294967296 by omega) 8 0 FUEL (by omega) (fuel_gt (by omega))
  have h0 : st a 0 = 0 := by unfold st; omega
  have z0 : ((0 : Nat) : Int) = 0 := rfl
  rw [h0, z0] at hp
  have hw : IntKind.wrap .u32 (a : Int) = (a : Int) := w32 a (by omega)
  unfold sigset_Parse.f strconv_ParseUint.f internal_strconv_ParseUint.f
  rw [hs, if_neg (fun h => h rfl), if_neg hne, hp, bind_go]
  dsimp only
  rw [if_neg (by simp), bind_go]
  dsimp only
  rw [bind_go]
  dsimp only
  rw [if_neg (by omega), hw, Text_eq ha, bind_go, if_neg (fun h => h rfl)]

theorem sure_eq : halterlaw03_sure.f = some true := by kernel_rfl

theorem bytes_len (s : ByteArray) : (bytesOf s).length = s.size := by unfold bytesOf; rw [List.length_map, Array.length_toList]; rfl
theorem bt_getD (s : ByteArray) (i : Nat) (h : i < s.size) : bt s (i : Int) = (bytesOf s).getD i 0 := by
  have h2 : i < s.data.toList.length := by rw [Array.length_toList]; exact h
  unfold bt bytesOf
  rw [toNat_nat, List.getD_eq_getElem?_getD, List.getD_eq_getElem?_getD, List.getElem?_map, List.getElem?_eq_getElem h2]
  rfl
theorem bytes_bd (s : ByteArray) : ∀ z ∈ bytesOf s, 0 ≤ z ∧ z < 256 := by
  intro z hz
  unfold bytesOf at hz
  rw [List.mem_map] at hz
  obtain ⟨b, _, rfl⟩ := hz
  have := b.toNat_lt
  omega
theorem str_bytes (s : ByteArray) : strOfNums (bytesOf s) = s := by
  apply ByteArray.ext
  apply Array.ext'
  rw [strOfNums_data]
  unfold bytesOf
  rw [List.map_map]
  conv => rhs; rw [← List.map_id s.data.toList]
  apply List.map_congr_left
  intro b _
  show UInt8.ofNat (Int.toNat (b.toNat : Int)) = b
  rw [Int.toNat_natCast]
  exact UInt8.ofNat_toNat
theorem low_bd (c : Int) (h : 0 ≤ c ∧ c < 256) : ∃ t, internal_strconv_lower.f c = some t ∧ 0 ≤ t ∧ t < 256 := by
  have key : ∀ q : Fin 256, 0 ≤ bits .or .u8 ((q.val : Nat) : Int) 32 ∧ bits .or .u8 ((q.val : Nat) : Int) 32 < 256 := by decide +kernel
  have := key ⟨c.toNat, by omega⟩
  rw [show ((c.toNat : Nat) : Int) = c by omega] at this
  exact ⟨_, rfl, this⟩

theorem pu_step2 (s : ByteArray) (hs : (bytesOf s).length = 8) (n i x : Nat) (hi : i < 8) (hx : x < 268435456) :
    (∃ v, v < 16 ∧ internal_strconv_ParseUint.l0 s (n + 1) false (x : Int) (i : Int) = internal_strconv_ParseUint.l0 s n false ((x * 16 + v : Nat) : Int) ((i + 1 : Nat) : Int)) ∨
    ∃ z, internal_strconv_ParseUint.l0 s (n + 1) false (x : Int) (i : Int) = some (.inr (z, 2)) := by
  have eM : IntKind.wrap .u64 (shl .u64 (1 : Int) (32 : Int) - (1 : Int)) = 4294967295 := by decide +kernel
  have e1 : IntKind.wrap .u64 ((x : Int) * 16) = ((x * 16 : Nat) : Int) := by rw [wu64_id (by omega)]; omega
  have hc := bytes_bd s _ (getD_mem (bytesOf s) i 0 (by omega))
  have go : ∀ v : Nat, v < 16 → ¬ IntKind.wrap .u64 (((x * 16 : Nat) : Int) + IntKind.wrap .u64 (v : Int)) < ((x * 16 : Nat) : Int) ∧ ¬ IntKind.wrap .u64 (((x * 16 : Nat) : Int) + IntKind.wrap .u64 (v : Int)) > 4294967295 ∧ IntKind.wrap .u64 (((x * 16 : Nat) : Int) + IntKind.wrap .u64 (v : Int)) = ((x * 16 + v : Nat) : Int) := fun v hv => by
    have e2 : IntKind.wrap .u64 (v : Int) = (v : Int) := wu64_id (by omega)
    have e3 : IntKind.wrap .u64 (((x * 16 : Nat) : Int) + (v : Int)) = ((x * 16 + v : Nat) : Int) := by rw [wu64_id (by omega)]; omega
    rw [e2, e3]
    omega
  rw [internal_strconv_ParseUint.l0, hs, if_pos (by omega), if_pos ⟨by omega, by omega⟩, toNat_nat, Nat.zero_add, if_pos hi, wsucc (by omega), ite_self]
  generalize (bytesOf s).getD i 0 = c at hc
  obtain ⟨t, ht, hb⟩ := low_bd c hc
  have letter : (∃ v, v < 16 ∧ ((internal_strconv_lower.f c).bind fun t103 =>
              if (97 : Int) ≤ t103 then
                (internal_strconv_lower.f c).bind fun t105 =>
                if t105 ≤ (122 : Int) then
                  (internal_strconv_lower.f c).bind fun t107 =>
                  if (IntKind.wrap .u8 ((IntKind.wrap .u8 (t107 - (97 : Int))) + (10 : Int))) ≥ (16 : Int) then
                    some (.inr ((0 : Int), (2 : Int)))
                  else
                    if (x : Int) ≥ (1152921504606846976 : Int) then
                      some (.inr ((IntKind.wrap .u64 ((shl .u64 (1 : Int) (32 : Int)) - (1 : Int))), (1 : Int)))
                    else
                      if (IntKind.wrap .u64 ((IntKind.wrap .u64 ((x : Int) * (16 : Int))) + (IntKind.wrap .u64 ((IntKind.wrap .u8 ((IntKind.wrap .u8 (t107 - (97 : Int))) + (10 : Int))))))) < (IntKind.wrap .u64 ((x : Int) * (16 : Int))) then
                        some (.inr ((IntKind.wrap .u64 ((shl .u64 (1 : Int) (32 : Int)) - (1 : Int))), (1 : Int)))
                      else
                        if (IntKind.wrap .u64 ((IntKind.wrap .u64 ((x : Int) * (16 : Int))) + (IntKind.wrap .u64 ((IntKind.wrap .u8 ((IntKind.wrap .u8 (t107 - (97 : Int))) + (10 : Int))))))) > (IntKind.wrap .u64 ((shl .u64 (1 : Int) (32 : Int)) - (1 : Int))) then
                          some (.inr ((IntKind.wrap .u64 ((shl .u64 (1 : Int) (32 : Int)) - (1 : Int))), (1 : Int)))
                        else
                          internal_strconv_ParseUint.l0 s n false (IntKind.wrap .u64 ((IntKind.wrap .u64 ((x : Int) * (16 : Int))) + (IntKind.wrap .u64 ((IntKind.wrap .u8 ((IntKind.wrap .u8 (t107 - (97 : Int))) + (10 : Int))))))) ((i + 1 : Nat) : Int)
                else
                  some (.inr ((0 : Int), (2 : Int)))
              else
                some (.inr ((0 : Int), (2 : Int)))) = internal_strconv_ParseUint.l0 s n false ((x * 16 + v : Nat) : Int) ((i + 1 : Nat) : Int)) ∨ ∃ z, ((internal_strconv_lower.f c).bind fun t103 =>
              if (97 : Int) ≤ t103 then
                (internal_strconv_lower.f c).bind fun t105 =>
                if t105 ≤ (122 : Int) then
                  (internal_strconv_lower.f c).bind fun t107 =>
                  if (IntKind.wrap .u8 ((IntKind.wrap .u8 (t107 - (97 : Int))) + (10 : Int))) ≥ (16 : Int) then
                    some (.inr ((0 : Int), (2 : Int)))
                  else
                    if (x : Int) ≥ (1152921504606846976 : Int) then
                      some (.inr ((IntKind.wrap .u64 ((shl .u64 (1 : Int) (32 : Int)) - (1 : Int))), (1 : Int)))
                    else
                      if (IntKind.wrap .u64 ((IntKind.wrap .u64 ((x : Int) * (16 : Int))) + (IntKind.wrap .u64 ((IntKind.wrap .u8 ((IntKind.wrap .u8 (t107 - (97 : Int))) + (10 : Int))))))) < (IntKind.wrap .u64 ((x : Int) * (16 : Int))) then
                        some (.inr ((IntKind.wrap .u64 ((shl .u64 (1 : Int) (32 : Int)) - (1 : Int))), (1 : Int)))
                      else
                        if (IntKind.wrap .u64 ((IntKind.wrap .u64 ((x : Int) * (16 : Int))) + (IntKind.wrap .u64 ((IntKind.wrap .u8 ((IntKind.wrap .u8 (t107 - (97 : Int))) + (10 : Int))))))) > (IntKind.wrap .u64 ((shl .u64 (1 : Int) (32 : Int)) - (1 : Int))) then
                          some (.inr ((IntKind.wrap .u64 ((shl .u64 (1 : Int) (32 : Int)) - (1 : Int))), (1 : Int)))
                        else
                          internal_strconv_ParseUint.l0 s n false (IntKind.wrap .u64 ((IntKind.wrap .u64 ((x : Int) * (16 : Int))) + (IntKind.wrap .u64 ((IntKind.wrap .u8 ((IntKind.wrap .u8 (t107 - (97 : Int))) + (10 : Int))))))) ((i + 1 : Nat) : Int)
                else
                  some (.inr ((0 : Int), (2 : Int)))
              else
                some (.inr ((0 : Int), (2 : Int)))) = some (.inr (z, 2)) := by
    rw [ht, bind_go, bind_go, bind_go]
    by_cases h3 : 97 ≤ t
    · rw [if_pos h3]
      by_cases h4 : t ≤ 122
      · rw [if_pos h4]
        have e5 : IntKind.wrap .u8 (t - 97) = t - 97 := wu8_id (by omega)
        have e4 : IntKind.wrap .u8 (t - 97 + 10) = (((t - 87).toNat : Nat) : Int) := by rw [wu8_id (by omega)]; omega
        rw [e5, e4, e1, eM]
        by_cases h5 : (((t - 87).toNat : Nat) : Int) ≥ 16
        · rw [if_pos h5]; exact .inr ⟨_, rfl⟩
        · obtain ⟨g1, g2, g3⟩ := go (t - 87).toNat (by omega)
          rw [if_neg h5, if_neg (by omega), if_neg g1, if_neg g2, g3]
          exact .inl ⟨_, by omega, rfl⟩
      · rw [if_neg h4]; exact .inr ⟨_, rfl⟩
    · rw [if_neg h3]; exact .inr ⟨_, rfl⟩
  by_cases h1 : 48 ≤ c
  · rw [if_pos h1]
    by_cases h2 : c ≤ 57
    · have e4 : IntKind.wrap .u8 (c - 48) = (((c - 48).toNat : Nat) : Int) := by rw [wu8_id (by omega)]; omega
      obtain ⟨g1, g2, g3⟩ := go (c - 48).toNat (by omega)
      rw [if_pos h2, e4, e1, eM, if_neg (by omega), if_neg (by omega), if_neg g1, if_neg g2, g3]
      exact .inl ⟨_, by omega, rfl⟩
    · rw [if_neg h2]
      exact letter
  · rw [if_neg h1]
    exact letter

theorem pu_any (s : ByteArray) (hs : (bytesOf s).length = 8) : ∀ (d i n x : Nat), i + d = 8 → d < n → x < 16 ^ i → ∃ r, internal_strconv_ParseUint.l0 s n false (x : Int) (i : Int) = some r ∧ ((∃ y : Nat, y < 4294967296 ∧ r = .inl (false, (y : Int))) ∨ ∃ z, r = .inr (z, 2)) := by
  intro d
  induction d with
  | zero =>
    intro i n x hi hn hx
    obtain ⟨q, rfl⟩ := fuel_step hn
    have : i = 8 := by omega
    subst this
    refine ⟨.inl (false, (x : Int)), ?_, .inl ⟨x, hx, rfl⟩⟩
    rw [internal_strconv_ParseUint.l0, hs, if_neg (by omega)]
  | succ d ih =>
    intro i n x hi hn hx
    obtain ⟨q, rfl⟩ := fuel_step hn
    have h16 : (16 : Nat) ^ i ≤ 16 ^ 7 := Nat.pow_le_pow_right (by omega) (by omega)
    rcases pu_step2 s hs q i x (by omega) (by omega) with ⟨v, hv, e⟩ | ⟨z, e⟩
    · rw [e]
      exact ih (i + 1) q (x * 16 + v) (by omega) (by omega) (by rw [Nat.pow_succ]; omega)
    · exact ⟨_, e, .inr ⟨z, rfl⟩⟩

theorem ne_empty {s : ByteArray} (h : s.size = 8) : ¬ s = ByteArray.empty := fun e => by rw [e] at h; exact absurd h (by decide)

theorem Parse_bad (s : ByteArray) (h8 : s.size = 8) (hn : ∀ y : Nat, y < 2147483648 → s ≠ strOfNums (digs y)) : sigset_Parse.f s = some (0, some 22) := by
  have hs : (bytesOf s).length = 8 := by rw [bytes_len, h8]
  obtain ⟨r, hr, hc⟩ := pu_any s hs 8 0 FUEL 0 (by omega) (fuel_gt (by omega)) (by omega)
  have hr : internal_strconv_ParseUint.l0 s FUEL false (0 : Int) (0 : Int) = some r := hr
  unfold sigset_Parse.f strconv_ParseUint.f internal_strconv_ParseUint.f
  rw [if_neg (by omega), if_neg (ne_empty h8), hr, bind_go]
  rcases hc with ⟨y, hy, rfl⟩ | ⟨z, rfl⟩
  · dsimp only
    rw [if_neg (by simp), bind_go]
    dsimp only
    rw [bind_go]
    dsimp only
    by_cases hb : (y : Int) > 2147483647
    · rw [if_pos hb]
    · rw [if_neg hb, w32 y hy, Text_eq (show y < 2147483648 by omega), bind_go, if_pos (fun e => hn y (by omega) e.symm)]
  · dsimp only
    rw [bind_go]
    dsimp only
    have ht : strconv_toErrorS.f (⟨#[80, 97, 114, 115, 101, 85, 105, 110, 116]⟩ : ByteArray) s 16 32 2 = some () := if_pos ⟨rfl, by omega⟩
    rw [ht, bind_go, bind_go]

theorem Parse_big {a : Nat} (h1 : 2147483648 ≤ a) (ha : a < 4294967296) : sigset_Parse.f (strOfNums (digs a)) = some (0, some 22) := by
  have hs : ByteArray.size (strOfNums (digs a)) = 8 := strOfNums_size _
  have hp := pu_loop ha 8 0 FUEL (by omega) (fuel_gt (by omega))
  have h0 : st a 0 = 0 := by unfold st; omega
  have z0 : ((0 : Nat) : Int) = 0 := rfl
  rw [h0, z0] at hp
  unfold sigset_Parse.f strconv_ParseUint.f internal_strconv_ParseUint.f
  rw [hs, if_neg (fun h => h rfl), if_neg (ne_empty hs), hp, bind_go]
  dsimp only
  rw [if_neg (by simp), bind_go]
  dsimp only
  rw [bind_go]
  dsimp only
  rw [if_pos (by omega)]

/-! ### The document's -/
theorem rl1 (s : ByteArray) (x2 : Int) (i : Nat) (hi : i < s.size) : ∀ (d k n : Nat) (x : Int), k + d = 16 → d < n → ∃ r, halterref03_Parse.l1 x2 (i : Int) s n x (k : Int) = some r ∧ ((r = x ∧ ∀ v, k ≤ v → v < 16 → dg v ≠ (bytesOf s).getD i 0) ∨ ∃ v, v < 16 ∧ dg v = (bytesOf s).getD i 0 ∧ r = (v : Int)) := by
  intro d
  induction d with
  | zero =>
    intro k n x hk hn
    obtain ⟨m, rfl⟩ := fuel_step hn
    refine ⟨x, ?_, .inl ⟨rfl, fun v h1 h2 => by omega⟩⟩
    rw [halterref03_Parse.l1, if_neg (by omega)]
  | succ d ih =>
    intro k n x hk hn
    obtain ⟨m, rfl⟩ := fuel_step hn
    have hz : ((ByteArray.size (⟨#[48, 49, 50, 51, 52, 53, 54, 55, 56, 57, 97, 98, 99, 100, 101, 102]⟩ : ByteArray) : Nat) : Int) = 16 := rfl
    rw [halterref03_Parse.l1, if_pos (by omega), hz, if_pos (by omega), if_pos (by omega), wsucc (by omega), bt_getD s i hi]
    have hd : bt (⟨#[48, 49, 50, 51, 52, 53, 54, 55, 56, 57, 97, 98, 99, 100, 101, 102]⟩ : ByteArray) (k : Int) = dg k := rfl
    rw [hd]
    by_cases h : dg k = (bytesOf s).getD i 0
    · rw [if_pos h]
      obtain ⟨r, h1, h2⟩ := ih (k + 1) m (k : Int) (by omega) (by omega)
      refine ⟨r, h1, .inr ?_⟩
      rcases h2 with ⟨h2, _⟩ | h2
      · exact ⟨k, by omega, h, h2⟩
      · exact h2
    · rw [if_neg h]
      obtain ⟨r, h1, h2⟩ := ih (k + 1) m x (by omega) (by omega)
      refine ⟨r, h1, ?_⟩
      rcases h2 with ⟨h2, h3⟩ | h2
      · refine .inl ⟨h2, fun v g1 g2 => ?_⟩
        by_cases e : v = k
        · rw [e]; exact h
        · exact h3 v (by omega) g2
      · exact .inr h2

theorem rp_loop (s : ByteArray) (h8 : s.size = 8) : ∀ (d i n x : Nat), i + d = 8 → d < n → x < 16 ^ i → (∀ j, j < i → (bytesOf s).getD j 0 = dg (x / 16 ^ (i - 1 - j) % 16)) →
    (halterref03_Parse.l0 s n (x : Int) (i : Int) = some (.inr ()) ∧ ∃ j, j < 8 ∧ ∀ v, v < 16 → dg v ≠ (bytesOf s).getD j 0) ∨
    ∃ X : Nat, X < 4294967296 ∧ halterref03_Parse.l0 s n (x : Int) (i : Int) = some (.inl (X : Int)) ∧ ∀ j, j < 8 → (bytesOf s).getD j 0 = dg (X / 16 ^ (7 - j) % 16) := by
  intro d
  induction d with
  | zero =>
    intro i n x hi hn hx hj
    obtain ⟨m, rfl⟩ := fuel_step hn
    have : i = 8 := by omega
    subst this
    refine .inr ⟨x, hx, ?_, fun j h => by rw [hj j h]⟩
    rw [halterref03_Parse.l0, if_neg (by omega)]
  | succ d ih =>
    intro i n x hi hn hx hj
    obtain ⟨m, rfl⟩ := fuel_step hn
    have h16 : (16 : Nat) ^ i ≤ 16 ^ 7 := Nat.pow_le_pow_right (by omega) (by omega)
    obtain ⟨r, h1, h2⟩ := rl1 s (x : Int) i (by omega) 16 0 FUEL (-1) (by omega) (fuel_gt (by omega))
    have h1 : halterref03_Parse.l1 (x : Int) (i : Int) s FUEL (-1) (0 : Int) = some r := h1
    rw [halterref03_Parse.l0, if_pos (by omega), h1, bind_go]
    rcases h2 with ⟨rfl, h2⟩ | ⟨v, hv, h2, rfl⟩
    · rw [if_pos (by omega)]
      exact .inl ⟨rfl, i, by omega, fun v hv => h2 v (by omega) hv⟩
    · have e1 : IntKind.wrap .u64 (16 * (x : Int)) = 16 * (x : Int) := wu64_id (by omega)
      have e2 : IntKind.wrap .u64 (v : Int) = (v : Int) := wu64_id (by omega)
      have e3 : IntKind.wrap .u64 (16 * (x : Int) + (v : Int)) = ((16 * x + v : Nat) : Int) := by rw [wu64_id (by omega)]; omega
      rw [if_neg (by omega), e1, e2, e3, wsucc (by omega)]
      refine ih (i + 1) m (16 * x + v) (by omega) (by omega) (by rw [Nat.pow_succ]; omega) fun j hji => ?_
      by_cases e : j = i
      · subst e
        rw [show j + 1 - 1 - j = 0 by omega, Nat.pow_zero, Nat.div_one, ← h2]
        congr 1
        omega
      · rw [hj j (by omega), show i + 1 - 1 - j = (i - 1 - j) + 1 by omega, Nat.pow_succ, Nat.mul_comm (16 ^ (i - 1 - j)) 16, ← Nat.div_div_eq_div_mul, show (16 * x + v) / 16 = x by omega]

theorem list8 (l : List Int) (h : l.length = 8) : l = [l.getD 0 0, l.getD 1 0, l.getD 2 0, l.getD 3 0, l.getD 4 0, l.getD 5 0, l.getD 6 0, l.getD 7 0] := by
  match l, h with
  | [_, _, _, _, _, _, _, _], _ => rfl
theorem nib16 (X j : Nat) : X / 16 ^ (7 - j) % 16 = nib X j := by
  unfold nib
  rw [Nat.pow_mul]
theorem RParse (s : ByteArray) (h8 : s.size = 8) : (halterref03_Parse.f s = some (0, 22) ∧ ∃ j, j < 8 ∧ ∀ v, v < 16 → dg v ≠ (bytesOf s).getD j 0) ∨ ∃ X : Nat, X < 4294967296 ∧ s = strOfNums (digs X) ∧ halterref03_Parse.f s = some (if X < 2147483648 then ((X : Int), 0) else (0, 22)) := by
  unfold halterref03_Parse.f
  rw [if_neg (by omega)]
  rcases rp_loop s h8 8 0 FUEL 0 (by omega) (fuel_gt (by omega)) (by omega) (fun j h => by omega) with ⟨h1, h2⟩ | ⟨X, hX, h1, h2⟩
  · have h1 : halterref03_Parse.l0 s FUEL (0 : Int) (0 : Int) = _ := h1
    rw [h1, bind_go]
    exact .inl ⟨rfl, h2⟩
  · have h1 : halterref03_Parse.l0 s FUEL (0 : Int) (0 : Int) = _ := h1
    rw [h1, bind_go]
    refine .inr ⟨X, hX, ?_, ?_⟩
    · rw [← str_bytes s]
      congr 1
      rw [list8 (bytesOf s) (by rw [bytes_len, h8]), h2 0 (by omega), h2 1 (by omega), h2 2 (by omega), h2 3 (by omega), h2 4 (by omega), h2 5 (by omega), h2 6 (by omega), h2 7 (by omega)]
      simp only [nib16]
      rfl
    · dsimp only
      by_cases h : X < 2147483648
      · rw [if_neg (by omega), if_pos h, w32 X hX]
      · rw [if_pos (by omega), if_neg h]

/-! ### Texts -/
theorem text_cut {a : Nat} (ha : a < 4294967296) : sigset_Text.f (a : Int) = some (strOfNums (digs (a &&& 2147483647))) := by
  have hm := cut_lt a
  have e1 : bits .and .u32 (a : Int) 2147483647 = ((a &&& 2147483647 : Nat) : Int) := b_and a 2147483647 ha (by omega)
  have e2 : bits .and .u32 ((a &&& 2147483647 : Nat) : Int) 2147483647 = ((a &&& 2147483647 : Nat) : Int) := by
    rw [show bits .and .u32 ((a &&& 2147483647 : Nat) : Int) 2147483647 = (((a &&& 2147483647) &&& 2147483647 : Nat) : Int) from b_and _ 2147483647 (by omega) (by omega), cut_eq hm]
  have key : ∀ (n : Nat) (x : List Int) (i : Int), sigset_Text.l0 (a : Int) n x i = sigset_Text.l0 ((a &&& 2147483647 : Nat) : Int) n x i := by
    intro n
    induction n with
    | zero => intro x i; rfl
    | succ n ih =>
      intro x i
      rw [sigset_Text.l0, sigset_Text.l0, e1, e2]
      simp only [ih]
  rw [← Text_eq hm]
  unfold sigset_Text.f
  rw [key]

theorem hex1 (q : Nat) (h : q < 16) : ByteArray.extract hexs q (q + 1) = strOfNums [dg q] := by
  have : ∀ q : Fin 16, ByteArray.extract hexs q.val (q.val + 1) = strOfNums [dg q.val] := by decide +kernel
  exact this ⟨q, h⟩
theorem str_app (a b : List Int) : strOfNums a ++ strOfNums b = strOfNums (a ++ b) := by
  apply ByteArray.ext
  apply Array.ext'
  rw [ByteArray.data_append, Array.toList_append, strOfNums_data, strOfNums_data, strOfNums_data, List.map_append]
theorem rt_step (n i x : Nat) (hi : i < 8) (hx : x < 4294967296) (t : List Int) (ht : t.length = i) : halterref03_Text.l0 (n + 1) (x : Int) (strOfNums t) (i : Int) = halterref03_Text.l0 n ((x / 16 : Nat) : Int) (strOfNums (dg (x % 16) :: t)) ((i + 1 : Nat) : Int) := by
  have e1 : Int.tmod (x : Int) 16 = ((x % 16 : Nat) : Int) := by rw [Int.tmod_eq_emod_of_nonneg (by omega)]; omega
  have e2 : Int.tdiv (x : Int) 16 = ((x / 16 : Nat) : Int) := by rw [Int.tdiv_eq_ediv_of_nonneg (by omega)]; omega
  have e3 : IntKind.wrap .u32 (((x % 16 : Nat) : Int) + 1) = ((x % 16 + 1 : Nat) : Int) := by rw [wu32_id (by omega)]; omega
  have hq : x % 16 < 16 := Nat.mod_lt _ (by omega)
  have hz : ((ByteArray.size (⟨#[48, 49, 50, 51, 52, 53, 54, 55, 56, 57, 97, 98, 99, 100, 101, 102]⟩ : ByteArray) : Nat) : Int) = 16 := rfl
  have hex : ByteArray.extract (⟨#[48, 49, 50, 51, 52, 53, 54, 55, 56, 57, 97, 98, 99, 100, 101, 102]⟩ : ByteArray) (x % 16) (x % 16 + 1) = strOfNums [dg (x % 16)] := hex1 _ hq
  rw [halterref03_Text.l0, if_pos (by omega), e1, e2, e3, hz, toNat_nat, toNat_nat, if_pos ⟨by omega, by omega⟩, hex, strOfNums_size, strOfNums_size, if_pos (by rw [ht]; simp; omega), str_app, wsucc (by omega), w32 _ (by omega)]
  rfl
theorem RText_eq {r : Nat} (hr : r < 2147483648) : halterref03_Text.l0 FUEL (r : Int) ByteArray.empty 0 = some (strOfNums (digs r)) := by
  have h : ∀ n, halterref03_Text.l0 (n + 9) (r : Int) (strOfNums []) ((0 : Nat) : Int) = some (strOfNums (digs r)) := by
    intro n
    rw [rt_step (n + 8) 0 r (by omega) (by omega) [] rfl, rt_step (n + 7) 1 _ (by omega) (by omega) _ rfl, rt_step (n + 6) 2 _ (by omega) (by omega) _ rfl, rt_step (n + 5) 3 _ (by omega) (by omega) _ rfl,
      rt_step (n + 4) 4 _ (by omega) (by omega) _ rfl, rt_step (n + 3) 5 _ (by omega) (by omega) _ rfl, rt_step (n + 2) 6 _ (by omega) (by omega) _ rfl, rt_step (n + 1) 7 _ (by omega) (by omega) _ rfl, halterref03_Text.l0, if_neg (by omega)]
    simp only [Nat.div_div_eq_div_mul]
    unfold digs nib
    simp
  exact h 18446744073709551607
theorem rtext_cut {a : Nat} (ha : a < 4294967296) : halterref03_Text.f (a : Int) = some (strOfNums (digs (a &&& 2147483647))) := by
  obtain ⟨r, h1, h2, h3⟩ := Of_eq (els a.testBit 31 0) (by have := els_len a.testBit 31 0; omega)
  have hr : r = a &&& 2147483647 := ext31 h1 (cut_lt a) fun k hk => by
    rw [h2 k hk, cut_bit, decide_eq_true (show k < 31 from hk), Bool.true_and]
    cases h : a.testBit k with
    | true => exact decide_eq_true ((els_mem31 _ k hk).2 h)
    | false => exact decide_eq_false fun h2 => by rw [els_mem31 _ k hk, h] at h2; cases h2
  unfold halterref03_Text.f
  rw [List_eq ha, bind_go, h3, bind_go, hr, RText_eq (cut_lt a), bind_go]

theorem SetTexts (a0 : Int) (a1 : ByteArray) (h0 : (Lit.int .u32 a0).wf = true) (h1 : ByteArray.size a1 ≤ reachBytes) : halterlaw03_SetTexts.f a0 a1 = some true := by
  have ha := u32_bd h0
  obtain ⟨a, rfl⟩ : ∃ a : Nat, a0 = (a : Int) := ⟨a0.toNat, by omega⟩
  have ht := text_cut (a := a) (by omega)
  have hrt := rtext_cut (a := a) (by omega)
  have hnum : ∀ e : Option Int, num.f e = some (e.getD 0) := fun _ => rfl
  unfold halterlaw03_SetTexts.f
  by_cases hl : ((ByteArray.size a1 : Nat) : Int) > 100
  · rw [if_pos hl, sure_eq]; rfl
  rw [if_neg hl]
  have key : ∃ x e, sigset_Parse.f a1 = some (x, e) ∧ halterref03_Parse.f a1 = some (x, e.getD 0) := by
    by_cases h8 : a1.size = 8
    · rcases RParse a1 h8 with ⟨h1, j, hj, h2⟩ | ⟨X, hX, rfl, h1⟩
      · refine ⟨0, some 22, Parse_bad a1 h8 (fun y hy e => ?_), h1⟩
        have hb := bytes_digs y
        rw [← e] at hb
        have := digs_at y j hj
        rw [← hb] at this
        exact h2 _ (nib_lt y j) this.symm
      · by_cases h : X < 2147483648
        · rw [if_pos h] at h1
          exact ⟨_, none, Parse_eq h, h1⟩
        · rw [if_neg h] at h1
          exact ⟨_, some 22, Parse_big (by omega) hX, h1⟩
    · refine ⟨0, some 22, ?_, ?_⟩
      · unfold sigset_Parse.f; rw [if_pos (by omega)]
      · unfold halterref03_Parse.f; rw [if_pos (by omega)]; rfl
  obtain ⟨x, e, h1, h2⟩ := key
  rw [h1, bind_go, h2, bind_go, ht, bind_go, hrt, bind_go]
  dsimp only
  rw [if_pos rfl, if_pos rfl, hnum, bind_go, if_pos rfl, sure_eq]
  rfl

end Go.Proofs.YtndjiebeihcbgaaDoor.Pure
