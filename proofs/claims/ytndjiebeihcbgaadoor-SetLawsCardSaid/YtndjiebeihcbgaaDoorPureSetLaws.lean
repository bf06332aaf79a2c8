/- The plain law: what the law computes is true, whatever it is handed. -/
import Derived.Test.YtndjiebeihcbgaaDoorGSetLaws
import Derived.Test.YtndjiebeihcbgaaDoorE16
set_option linter.unusedVariables false
set_option linter.unusedSimpArgs false
set_option linter.unnecessarySimpa false
namespace Go.Proofs.YtndjiebeihcbgaaDoor.Pure
open Go Go.Proofs.YtndjiebeihcbgaaDoorE Go.Proofs.YtndjiebeihcbgaaDoorGSetLaws
theorem wu8 (x : Int) : IntKind.wrap .u8 x = x % 256 := by simp [IntKind.wrap, IntKind.bits, IntKind.signed]
theorem wu16 (x : Int) : IntKind.wrap .u16 x = x % 65536 := by simp [IntKind.wrap, IntKind.bits, IntKind.signed]
theorem wu32 (x : Int) : IntKind.wrap .u32 x = x % 4294967296 := by simp [IntKind.wrap, IntKind.bits, IntKind.signed]
theorem wu64 (x : Int) : IntKind.wrap .u64 x = x % 18446744073709551616 := by simp [IntKind.wrap, IntKind.bits, IntKind.signed]
theorem wi64 {x : Int} (h : -9223372036854775808 ≤ x) (h' : x ≤ 9223372036854775807) : IntKind.wrap .i64 x = x := by
  simp [IntKind.wrap, IntKind.bits, IntKind.signed]
  omega
theorem wu8_id {x : Int} (h : 0 ≤ x ∧ x < 256) : IntKind.wrap .u8 x = x := by rw [wu8]; omega
theorem wu32_id {x : Int} (h : 0 ≤ x ∧ x < 4294967296) : IntKind.wrap .u32 x = x := by rw [wu32]; omega
theorem wu64_id {x : Int} (h : 0 ≤ x ∧ x < 18446744073709551616) : IntKind.wrap .u64 x = x := by rw [wu64]; omega
theorem wsucc {i : Nat} (h : i < 9223372036854775807) : IntKind.wrap .i64 ((i : Int) + 1) = ((i + 1 : Nat) : Int) := by rw [wi64 (by omega) (by omega)]; omega
theorem u8_bd {a : Int} (h : (Lit.int .u8 a).wf = true) : 0 ≤ a ∧ a < 256 := by
  simpa [Lit.wf, IntKind.min, IntKind.max, IntKind.signed, IntKind.bits, ← Int.lt_add_one_iff] using h
theorem u32_bd {a : Int} (h : (Lit.int .u32 a).wf = true) : 0 ≤ a ∧ a < 4294967296 := by
  simpa [Lit.wf, IntKind.min, IntKind.max, IntKind.signed, IntKind.bits, ← Int.lt_add_one_iff] using h
theorem u64_bd {a : Int} (h : (Lit.int .u64 a).wf = true) : 0 ≤ a ∧ a < 18446744073709551616 := by
  simpa [Lit.wf, IntKind.min, IntKind.max, IntKind.signed, IntKind.bits, ← Int.lt_add_one_iff] using h
theorem i64_bd {a : Int} (h : (Lit.int .i64 a).wf = true) : -9223372036854775808 ≤ a ∧ a < 9223372036854775808 := by
  simpa [Lit.wf, IntKind.min, IntKind.max, IntKind.signed, IntKind.bits, ← Int.lt_add_one_iff] using h
theorem fuel_gt {n : Nat} (h : n < 18446744073709551616) : n < FUEL := h
theorem bind_go {α β : Type} (a : α) (f : α → Option β) : (some a).bind f = f a := by rw [Option.bind_some]
theorem drop_getD {α : Type} (l : List α) (i : Nat) (d : α) (h : i < l.length) : l.drop i = l.getD i d :: l.drop (i + 1) := by
  rw [List.drop_eq_getElem_cons h, List.getD_eq_getElem?_getD, List.getElem?_eq_getElem h, Option.getD_some]
theorem getD_mem {α : Type} (l : List α) (i : Nat) (d : α) (h : i < l.length) : l.getD i d ∈ l := by
  rw [List.getD_eq_getElem?_getD, List.getElem?_eq_getElem h, Option.getD_some]; exact List.getElem_mem _
theorem toNat_nat (i : Nat) : Int.toNat (i : Int) = i := rfl
/-- A number behind another one: a round of a loop. -/
theorem fuel_step {d n : Nat} (h : d < n) : ∃ m, n = m + 1 := ⟨n - 1, by omega⟩
/-- Where something stands first. -/
def first (v : Int) : List Int → Option Nat
  | [] => none
  | x :: xs => if x = v then some 0 else (first v xs).map (· + 1)
theorem first_none {v : Int} : ∀ {l : List Int}, first v l = none → ∀ z ∈ l, z ≠ v
  | [], _, z, hz => by cases hz
  | x :: xs, h, z, hz => by
    unfold first at h
    split at h
    · cases h
    · rename_i hx
      rcases List.mem_cons.1 hz with rfl | hz
      · exact hx
      · exact first_none (by simpa using h) z hz
theorem first_some {v : Int} : ∀ {l : List Int} {k : Nat}, first v l = some k → k < l.length ∧ l.getD k 0 = v ∧ ∀ j, j < k → l.getD j 0 ≠ v
  | [], _, h => by cases h
  | x :: xs, k, h => by
    unfold first at h
    split at h
    · cases h
      rename_i hx
      exact ⟨by simp, by simpa using hx, fun j hj => by omega⟩
    · rename_i hx
      cases hf : first v xs with
      | none => simp [hf] at h
      | some m =>
        simp [hf] at h
        subst h
        obtain ⟨h1, h2, h3⟩ := first_some hf
        refine ⟨by simp; omega, by simpa using h2, fun j hj => ?_⟩
        cases j with
        | zero => simpa using hx
        | succ j => simpa using h3 j (by omega)

theorem ofInt_u32 (a : Nat) (ha : a < 4294967296) : (BitVec.ofInt 32 (a : Int)).toNat = a := by
  rw [BitVec.ofInt_natCast, BitVec.toNat_ofNat]; exact Nat.mod_eq_of_lt (by omega)
theorem w32 (a : Nat) (ha : a < 4294967296) : IntKind.wrap .u32 (a : Int) = (a : Int) := by rw [wu32]; omega
theorem b_and (a b : Nat) (ha : a < 4294967296) (hb : b < 4294967296) : bits .and .u32 (a : Int) (b : Int) = ((a &&& b : Nat) : Int) := by
  have hx : a &&& b < 2 ^ 32 := Nat.and_lt_two_pow _ (by omega)
  show IntKind.u32.wrap ((BitVec.ofInt 32 (a : Int) &&& BitVec.ofInt 32 (b : Int)).toNat : Int) = _
  rw [BitVec.toNat_and, ofInt_u32 a ha, ofInt_u32 b hb, w32 _ (by omega)]
theorem b_or (a b : Nat) (ha : a < 4294967296) (hb : b < 4294967296) : bits .or .u32 (a : Int) (b : Int) = ((a ||| b : Nat) : Int) := by
  have hx : a ||| b < 2 ^ 32 := Nat.or_lt_two_pow (by omega) (by omega)
  show IntKind.u32.wrap ((BitVec.ofInt 32 (a : Int) ||| BitVec.ofInt 32 (b : Int)).toNat : Int) = _
  rw [BitVec.toNat_or, ofInt_u32 a ha, ofInt_u32 b hb, w32 _ (by omega)]
/-- What the one has and the other has not. -/
def less (a b : Nat) : Nat := a &&& (4294967295 - b)
theorem b_andNot (a b : Nat) (ha : a < 4294967296) (hb : b < 4294967296) : bits .andNot .u32 (a : Int) (b : Int) = ((less a b : Nat) : Int) := by
  have hx : a &&& (4294967295 - b) < 2 ^ 32 := Nat.and_lt_two_pow _ (by omega)
  show IntKind.u32.wrap ((BitVec.ofInt 32 (a : Int) &&& ~~~BitVec.ofInt 32 (b : Int)).toNat : Int) = _
  rw [BitVec.toNat_and, BitVec.toNat_not, ofInt_u32 a ha, ofInt_u32 b hb]
  have e : 2 ^ 32 - 1 - b = 4294967295 - b := by omega
  rw [e, w32 _ (by omega)]
  rfl
theorem bit_hi {x j w : Nat} (hx : x < 2 ^ w) (hj : w ≤ j) : x.testBit j = false :=
  Nat.testBit_lt_two_pow (Nat.lt_of_lt_of_le hx (Nat.pow_le_pow_right (by omega) hj))
theorem less_bit {a b : Nat} (ha : a < 4294967296) (hb : b < 4294967296) (j : Nat) : (less a b).testBit j = (a.testBit j && !b.testBit j) := by
  unfold less
  rw [show 4294967295 - b = 2 ^ 32 - (b + 1) by omega, Nat.testBit_and, Nat.testBit_two_pow_sub_succ (by omega)]
  by_cases hj : j < 32
  · simp [hj]
  · rw [bit_hi (show a < 2 ^ 32 by omega) (by omega)]; simp
theorem less_le (a b : Nat) : less a b ≤ a := Nat.and_le_left
/-- The set's bits of 31. -/
theorem cut_eq {a : Nat} (ha : a < 2147483648) : a &&& 2147483647 = a := by
  have := Nat.and_two_pow_sub_one_eq_mod a 31
  rw [show (2147483647 : Nat) = 2 ^ 31 - 1 from rfl, this]
  omega
theorem cut_bit (a j : Nat) : (a &&& 2147483647).testBit j = (decide (j < 31) && a.testBit j) := by
  rw [show (2147483647 : Nat) = 2 ^ 31 - 1 from rfl, Nat.and_two_pow_sub_one_eq_mod, Nat.testBit_mod_two_pow]
theorem cut_lt (a : Nat) : a &&& 2147483647 < 2147483648 := by
  have : a &&& 2147483647 ≤ 2147483647 := Nat.and_le_right
  omega
/-- The lowest bit. -/
theorem lowest : ∀ (a : Nat), a ≠ 0 → ∃ k m, a = 2 ^ k * (2 * m + 1) := by
  intro a
  induction a using Nat.strongRecOn with
  | _ a ih =>
    intro h
    by_cases h2 : a % 2 = 1
    · exact ⟨0, a / 2, by omega⟩
    · obtain ⟨k, m, e⟩ := ih (a / 2) (by omega) (by omega)
      refine ⟨k + 1, m, ?_⟩
      rw [Nat.pow_succ, Nat.mul_assoc, Nat.mul_comm 2, ← Nat.mul_assoc, ← e]
      omega
theorem low_bits {a k m : Nat} (e : a = 2 ^ k * (2 * m + 1)) : (∀ j, j < k → a.testBit j = false) ∧ a.testBit k = true := by
  have e2 : a = 2 ^ (k + 1) * m + 2 ^ k := by rw [e, Nat.pow_succ, Nat.mul_add, Nat.mul_one, Nat.mul_assoc]
  have hk : (2 : Nat) ^ k < 2 ^ (k + 1) := Nat.pow_lt_pow_right (by omega) (by omega)
  constructor
  · intro j hj
    rw [e2, Nat.testBit_two_pow_mul_add _ hk, if_pos (by omega), Nat.testBit_two_pow]
    simp; omega
  · rw [e2, Nat.testBit_two_pow_mul_add _ hk, if_pos (by omega), Nat.testBit_two_pow]
    simp
theorem low_and {a k m : Nat} (ha : a < 4294967296) (e : a = 2 ^ k * (2 * m + 1)) : a &&& (4294967296 - a) = 2 ^ k := by
  have hp := Nat.two_pow_pos k
  have e2 : a = 2 ^ (k + 1) * m + 2 ^ k := by rw [e, Nat.pow_succ, Nat.mul_add, Nat.mul_one, Nat.mul_assoc]
  have hk : (2 : Nat) ^ k < 2 ^ (k + 1) := Nat.pow_lt_pow_right (by omega) (by omega)
  have e3 : a - 1 = 2 ^ (k + 1) * m + (2 ^ k - 1) := by omega
  have hk2 : (2 : Nat) ^ k - 1 < 2 ^ (k + 1) := by omega
  have ha0 : 0 < a := by omega
  apply Nat.eq_of_testBit_eq
  intro j
  rw [show 4294967296 - a = 2 ^ 32 - (a - 1 + 1) by omega, Nat.testBit_and, Nat.testBit_two_pow_sub_succ (by omega), Nat.testBit_two_pow]
  by_cases hj : j < 32
  · rw [e3]
    conv => lhs; rw [e2]
    rw [Nat.testBit_two_pow_mul_add _ hk, Nat.testBit_two_pow_mul_add _ hk2]
    by_cases h1 : j < k + 1
    · rw [if_pos h1, if_pos h1, Nat.testBit_two_pow, Nat.testBit_two_pow_sub_one]
      by_cases h2 : k = j
      · subst h2; simp [hj]
      · have : j < k := by omega
        simp [h2, this]
    · rw [if_neg h1, if_neg h1]
      have : ¬ k = j := by omega
      simp [this]
      intro h _; exact h
  · rw [bit_hi (show a < 2 ^ 32 by omega) (by omega)]
    have : ¬ k = j := by
      intro h
      have h1 : (2 : Nat) ^ 32 ≤ 2 ^ k := Nat.pow_le_pow_right (by omega) (by omega)
      have h2 : 2 ^ k ≤ a := by rw [e2]; exact Nat.le_add_left ..
      omega
    simp [this]
theorem low_lt {a k m w : Nat} (ha : a < 2 ^ w) (e : a = 2 ^ k * (2 * m + 1)) : k < w := by
  have h1 := (low_bits e).2
  apply Classical.byContradiction
  intro h
  rw [bit_hi ha (by omega)] at h1
  cases h1
theorem bits_zero {a : Nat} (h : ∀ j, a.testBit j = false) : a = 0 := by
  apply Nat.eq_of_testBit_eq
  intro j
  rw [h j, Nat.zero_testBit]

theorem One_eq (k : Nat) (h : k < 31) : sigset_One.f ((k + 1 : Nat) : Int) = some ((2 ^ k : Nat) : Int) := by
  have : ∀ q : Fin 31, sigset_One.f ((q.val + 1 : Nat) : Int) = some ((2 ^ q.val : Nat) : Int) := by decide +kernel
  exact this ⟨k, h⟩
theorem pw_lt {k : Nat} (h : k < 31) : (2 : Nat) ^ k < 2147483648 := by
  have : (2 : Nat) ^ k < 2 ^ 31 := Nat.pow_lt_pow_right (by omega) h
  omega
theorem and_pw (p k : Nat) : (((p &&& 2 ^ k : Nat) : Int) != 0) = p.testBit k := by
  cases h : p.testBit k with
  | true =>
    have : p &&& 2 ^ k ≠ 0 := by
      intro h2
      have h3 := congrArg (Nat.testBit · k) h2
      simp [h] at h3
    rw [bne_iff_ne]
    omega
  | false =>
    have : p &&& 2 ^ k = 0 := by
      apply bits_zero
      intro j
      rw [Nat.testBit_and, Nat.testBit_two_pow]
      by_cases hj : k = j
      · subst hj; simp [h]
      · simp [hj]
    rw [this]
    rfl
theorem Has_eq {p : Nat} (hp : p < 4294967296) {k : Nat} (h : k < 31) : sigset_Has.f (p : Int) ((k + 1 : Nat) : Int) = some (p.testBit k) := by
  have := pw_lt h
  unfold sigset_Has.f
  rw [One_eq k h, bind_go, b_and p (2 ^ k) hp (by omega)]
  rw [and_pw]
theorem Add_eq {p : Nat} (hp : p < 4294967296) {k : Nat} (h : k < 31) : sigset_Add.f (p : Int) ((k + 1 : Nat) : Int) = some (((p &&& 2147483647) ||| 2 ^ k : Nat) : Int) := by
  have := pw_lt h; have := cut_lt p
  unfold sigset_Add.f
  rw [One_eq k h, bind_go, show bits .and .u32 (p : Int) 2147483647 = ((p &&& 2147483647 : Nat) : Int) from b_and p 2147483647 hp (by omega), b_or _ _ (by omega) (by omega)]
theorem Del_eq {p : Nat} (hp : p < 4294967296) {k : Nat} (h : k < 31) : sigset_Del.f (p : Int) ((k + 1 : Nat) : Int) = some ((less (p &&& 2147483647) (2 ^ k) : Nat) : Int) := by
  have := pw_lt h; have := cut_lt p
  unfold sigset_Del.f
  rw [One_eq k h, bind_go, show bits .and .u32 (p : Int) 2147483647 = ((p &&& 2147483647 : Nat) : Int) from b_and p 2147483647 hp (by omega), b_andNot _ _ (by omega) (by omega)]
theorem tz_eq {a k m : Nat} (ha : a < 4294967296) (h0 : a ≠ 0) (e : a = 2 ^ k * (2 * m + 1)) : math_bits_TrailingZeros32.f (a : Int) = some (k : Int) := by
  have hk : k < 32 := low_lt (w := 32) (by omega) e
  unfold math_bits_TrailingZeros32.f
  rw [if_neg (by omega)]
  have e1 : IntKind.wrap .u32 (0 - (a : Int)) = ((4294967296 - a : Nat) : Int) := by rw [wu32]; omega
  rw [e1, b_and a (4294967296 - a) ha (by omega), low_and ha e]
  have : ∀ q : Fin 32, (if 0 ≤ (shr .u32 (IntKind.wrap .u32 (((2 ^ q.val : Nat) : Int) * (125613361 : Int))) (27 : Int)) ∧ (shr .u32 (IntKind.wrap .u32 (((2 ^ q.val : Nat) : Int) * (125613361 : Int))) (27 : Int)) < ((32 : Nat) : Int) then some (IntKind.wrap .i64 ((List.getD tab0 (Int.toNat (shr .u32 (IntKind.wrap .u32 (((2 ^ q.val : Nat) : Int) * (125613361 : Int))) (27 : Int))) (0 : Int)))) else none) = some (q.val : Int) := by decide +kernel
  exact this ⟨k, hk⟩
theorem First_eq {a : Nat} (ha : a < 2147483648) : (a = 0 ∧ sigset_First.f (a : Int) = some 0) ∨ (∃ k, k < 31 ∧ a.testBit k = true ∧ (∀ j, j < k → a.testBit j = false) ∧ sigset_First.f (a : Int) = some ((k + 1 : Nat) : Int)) := by
  by_cases h0 : a = 0
  · left; subst h0; exact ⟨rfl, by decide +kernel⟩
  · right
    obtain ⟨k, m, e⟩ := lowest a h0
    have hk : k < 31 := low_lt (w := 31) (by omega) e
    refine ⟨k, hk, (low_bits e).2, (low_bits e).1, ?_⟩
    unfold sigset_First.f
    rw [show bits .and .u32 (a : Int) 2147483647 = ((a &&& 2147483647 : Nat) : Int) from b_and a 2147483647 (by omega) (by omega), cut_eq ha, if_neg (by omega), tz_eq (by omega) h0 e, bind_go, wsucc (by omega)]
theorem First2_eq {a : Nat} (ha : a < 4294967296) : ((∀ k, k < 31 → a.testBit k = false) ∧ sigset_First.f (a : Int) = some 0) ∨ (∃ k, k < 31 ∧ a.testBit k = true ∧ (∀ j, j < k → a.testBit j = false) ∧ sigset_First.f (a : Int) = some ((k + 1 : Nat) : Int)) := by
  have hc := cut_lt a
  unfold sigset_First.f
  rw [show bits .and .u32 (a : Int) 2147483647 = ((a &&& 2147483647 : Nat) : Int) from b_and a 2147483647 (by omega) (by omega)]
  by_cases h0 : a &&& 2147483647 = 0
  · left
    refine ⟨fun k hk => ?_, by rw [h0, if_pos (show ((0 : Nat) : Int) = 0 from rfl)]⟩
    have := congrArg (Nat.testBit · k) h0
    simp only [cut_bit, decide_eq_true hk, Bool.true_and, Nat.zero_testBit] at this
    exact this
  · right
    have hne : a ≠ 0 := by rintro rfl; exact h0 rfl
    obtain ⟨k, m, e⟩ := lowest a hne
    have hb := low_bits e
    have hk : k < 31 := by
      apply Classical.byContradiction
      intro h
      apply h0
      apply bits_zero
      intro j
      rw [cut_bit]
      by_cases hj : j < 31
      · rw [hb.1 j (by omega)]; simp
      · simp [hj]
    refine ⟨k, hk, hb.2, hb.1, ?_⟩
    rw [if_neg (by omega), tz_eq ha hne e, bind_go, wsucc (by omega)]

/-- The signals of a set. -/
def els (f : Nat → Bool) : Nat → Nat → List Int
  | 0, _ => []
  | d + 1, i => (if f i = true then [((i + 1 : Nat) : Int)] else []) ++ els f d (i + 1)
theorem els_len (f : Nat → Bool) : ∀ d i, (els f d i).length ≤ d
  | 0, _ => by simp [els]
  | d + 1, i => by
    have := els_len f d (i + 1)
    unfold els
    split <;> simp <;> omega
theorem els_mem (f : Nat → Bool) (z : Int) : ∀ d i, z ∈ els f d i ↔ ∃ k, i ≤ k ∧ k < i + d ∧ f k = true ∧ z = ((k + 1 : Nat) : Int)
  | 0, i => by simp [els]; intro k h1 h2; omega
  | d + 1, i => by
    unfold els
    rw [List.mem_append, els_mem f z d (i + 1)]
    constructor
    · rintro (h | ⟨k, h1, h2, h3, h4⟩)
      · split at h
        · rename_i hf
          exact ⟨i, by omega, by omega, hf, by simpa using h⟩
        · cases h
      · exact ⟨k, by omega, by omega, h3, h4⟩
    · rintro ⟨k, h1, h2, h3, h4⟩
      by_cases hk : k = i
      · subst hk; left; rw [if_pos h3]; simpa using h4
      · right; exact ⟨k, by omega, by omega, h3, h4⟩
theorem els_mem31 (f : Nat → Bool) (k : Nat) (hk : k < 31) : ((k + 1 : Nat) : Int) ∈ els f 31 0 ↔ f k = true := by
  rw [els_mem]
  constructor
  · rintro ⟨j, h1, h2, h3, h4⟩
    have : j = k := by omega
    rw [← this]; exact h3
  · intro h
    exact ⟨k, by omega, by omega, h, rfl⟩
theorem ext31 {a b : Nat} (ha : a < 2147483648) (hb : b < 2147483648) (h : ∀ k, k < 31 → a.testBit k = b.testBit k) : a = b := by
  apply Nat.eq_of_testBit_eq
  intro j
  by_cases hj : j < 31
  · exact h j hj
  · rw [bit_hi (show a < 2 ^ 31 from ha) (by omega), bit_hi (show b < 2 ^ 31 from hb) (by omega)]

theorem els_congr (f g : Nat → Bool) : ∀ d i, (∀ j, i ≤ j → j < i + d → f j = g j) → els f d i = els g d i
  | 0, _, _ => rfl
  | d + 1, i, h => by unfold els; rw [h i (by omega) (by omega), els_congr f g d (i + 1) (fun j h1 h2 => h j (by omega) (by omega))]
theorem els_nil (f : Nat → Bool) : ∀ d i, (∀ j, i ≤ j → j < i + d → f j = false) → els f d i = []
  | 0, _, _ => rfl
  | d + 1, i, h => by unfold els; rw [h i (by omega) (by omega), els_nil f d (i + 1) (fun j h1 h2 => h j (by omega) (by omega))]; rfl
theorem els_app (f : Nat → Bool) : ∀ d e i, els f (d + e) i = els f d i ++ els f e (i + d)
  | 0, e, i => by simp [els]
  | d + 1, e, i => by
    have e1 : els f (d + e + 1) i = (if f i = true then [((i + 1 : Nat) : Int)] else []) ++ els f (d + e) (i + 1) := rfl
    have e2 : els f (d + 1) i = (if f i = true then [((i + 1 : Nat) : Int)] else []) ++ els f d (i + 1) := rfl
    rw [show d + 1 + e = d + e + 1 by omega, e1, e2, els_app f d e (i + 1), List.append_assoc, show i + 1 + d = i + (d + 1) by omega]
/-- The least one. -/
theorem els_head (f : Nat → Bool) (k : Nat) : ∀ d i, i ≤ k → k < i + d → f k = true → (∀ j, i ≤ j → j < k → f j = false) → ∃ r, els f d i = ((k + 1 : Nat) : Int) :: r
  | 0, i, h1, h2, _, _ => by omega
  | d + 1, i, h1, h2, hk, hb => by
    unfold els
    by_cases e : i = k
    · subst e; rw [if_pos hk]; exact ⟨_, rfl⟩
    · rw [hb i (by omega) (by omega), if_neg (by simp)]
      exact els_head f k d (i + 1) (by omega) (by omega) hk (fun j h3 h4 => hb j (by omega) h4)
theorem els_first (f : Nat → Bool) (k : Nat) (hk : k < 31) (h : f k = true) (hb : ∀ j, j < k → f j = false) : (els f 31 0).getD 0 0 = ((k + 1 : Nat) : Int) := by
  obtain ⟨r, e⟩ := els_head f k 31 0 (by omega) (by omega) h (fun j _ h2 => hb j h2)
  rw [e]; rfl
theorem first_els {a : Nat} (ha : a < 4294967296) : sigset_First.f (a : Int) = some ((els a.testBit 31 0).getD 0 0) := by
  rcases First2_eq ha with ⟨h, e⟩ | ⟨k, hk, h1, h2, e⟩
  · rw [e, els_nil _ _ _ (fun j _ h2 => h j (by omega))]; rfl
  · rw [e, els_first _ k hk h1 h2]
/-- The lowest bit taken away. -/
theorem and_pred {a k m : Nat} (e : a = 2 ^ k * (2 * m + 1)) (j : Nat) : (a &&& (a - 1)).testBit j = (a.testBit j && decide (j ≠ k)) := by
  have hp := Nat.two_pow_pos k
  have e2 : a = 2 ^ (k + 1) * m + 2 ^ k := by rw [e, Nat.pow_succ, Nat.mul_add, Nat.mul_one, Nat.mul_assoc]
  have hk : (2 : Nat) ^ k < 2 ^ (k + 1) := Nat.pow_lt_pow_right (by omega) (by omega)
  have e3 : a - 1 = 2 ^ (k + 1) * m + (2 ^ k - 1) := by omega
  have hk2 : (2 : Nat) ^ k - 1 < 2 ^ (k + 1) := by omega
  rw [Nat.testBit_and, e3]
  conv => lhs; lhs; rw [e2]
  conv => rhs; lhs; rw [e2]
  rw [Nat.testBit_two_pow_mul_add _ hk, Nat.testBit_two_pow_mul_add _ hk2]
  by_cases h1 : j < k + 1
  · rw [if_pos h1, if_pos h1, Nat.testBit_two_pow, Nat.testBit_two_pow_sub_one]
    by_cases h2 : k = j
    · subst h2; simp
    · have : j < k := by omega
      simp [h2]
  · rw [if_neg h1, if_neg h1]
    have : j ≠ k := by omega
    simp [this]
theorem list_l0 : ∀ (d i n : Nat) (x : List Int) (a : Nat), i + d = 31 → d < n → x.length ≤ i → a < 2147483648 → (∀ j, j < i → a.testBit j = false) → sigset_List.l0 n x (a : Int) = some (x ++ els a.testBit d i)
  | d, i, 0, x, a, h, hn, hx, ha, hb => by omega
  | 0, i, n + 1, x, a, h, hn, hx, ha, hb => by
    have h0 : a = 0 := bits_zero fun j => by
      by_cases hj : j < 31
      · exact hb j (by omega)
      · exact bit_hi (show a < 2 ^ 31 from ha) (by omega)
    subst h0
    rw [sigset_List.l0, if_neg (fun h => h rfl)]
    simp [els]
  | d + 1, i, n + 1, x, a, h, hn, hx, ha, hb => by
    cases hi : a.testBit i with
    | false =>
      have ih := list_l0 d (i + 1) (n + 1) x a (by omega) (by omega) (by omega) ha (fun j hj => by
        by_cases e : j = i
        · subst e; exact hi
        · exact hb j (by omega))
      have e2 : els a.testBit (d + 1) i = (if a.testBit i = true then [((i + 1 : Nat) : Int)] else []) ++ els a.testBit d (i + 1) := rfl
      rw [ih, e2, hi, if_neg (by simp), List.nil_append]
    | true =>
      have h0 : a ≠ 0 := by intro h; rw [h, Nat.zero_testBit] at hi; cases hi
      obtain ⟨k, m, e⟩ := lowest a h0
      obtain ⟨b1, b2⟩ := low_bits e
      have hk : k = i := by
        rcases Nat.lt_trichotomy k i with h1 | h1 | h1
        · rw [hb k h1] at b2; cases b2
        · exact h1
        · rw [b1 i h1] at hi; cases hi
      subst hk
      have hF := els_first a.testBit k (by omega) hi hb
      have hle : a &&& (a - 1) ≤ a := Nat.and_le_left
      have hw : IntKind.wrap .u32 ((a : Int) - 1) = ((a - 1 : Nat) : Int) := by rw [wu32]; omega
      have ih := list_l0 d (k + 1) n (x ++ [((k + 1 : Nat) : Int)]) (a &&& (a - 1)) (by omega) (by omega) (by simp; omega) (by omega) (fun j hj => by
        rw [and_pred e]
        by_cases e : j = k
        · subst e; simp
        · rw [hb j (by omega)]; rfl)
      rw [sigset_List.l0, if_pos (by omega), first_els (by omega), bind_go, if_pos ⟨⟨rfl, rfl⟩, rfl, rfl, by omega, by omega⟩, hF, hw, b_and _ _ (by omega) (by omega), ih]
      have ec : els (a &&& (a - 1)).testBit d (k + 1) = els a.testBit d (k + 1) := els_congr _ _ _ _ (fun j h1 h2 => by
        rw [and_pred e, decide_eq_true (show j ≠ k by omega), Bool.and_true])
      rw [ec, els, hi, if_pos rfl, List.append_assoc]
theorem list_els {a : Nat} (ha : a < 2147483648) : sigset_List.f (a : Int) = some (els a.testBit 31 0) := by
  have := list_l0 31 0 FUEL [] a (by omega) (fuel_gt (by omega)) (by simp) ha (fun j hj => by omega)
  unfold sigset_List.f
  rw [show bits .and .u32 (a : Int) 2147483647 = ((a &&& 2147483647 : Nat) : Int) from b_and a 2147483647 (by omega) (by omega), cut_eq ha, this, bind_go, List.nil_append]
theorem list_els' {a : Nat} (ha : a < 4294967296) : sigset_List.f (a : Int) = some (els a.testBit 31 0) := by
  have hc := cut_lt a
  have := list_l0 31 0 FUEL [] (a &&& 2147483647) (by omega) (fuel_gt (by omega)) (by simp) hc (fun j hj => by omega)
  unfold sigset_List.f
  rw [show bits .and .u32 (a : Int) 2147483647 = ((a &&& 2147483647 : Nat) : Int) from b_and a 2147483647 (by omega) (by omega), this, bind_go, List.nil_append]
  congr 1
  exact els_congr _ _ _ _ (fun j _ h2 => by rw [cut_bit, decide_eq_true (show j < 31 by omega), Bool.true_and])
/-- How many. -/
def nb (f : Nat → Bool) (d i : Nat) : Nat := (els f d i).length
theorem nb_shift (f : Nat → Bool) (s : Nat) : ∀ d i, nb (fun j => f (j + s)) d i = nb f d (i + s)
  | 0, i => rfl
  | d + 1, i => by
    have ih := nb_shift f s d (i + 1)
    unfold nb at ih ⊢
    unfold els
    rw [List.length_append, List.length_append, ih, show i + 1 + s = i + s + 1 by omega]
    congr 1
    by_cases h : f (i + s) = true
    · rw [if_pos h, if_pos h]; rfl
    · rw [if_neg h, if_neg h]
theorem nb_congr {f g : Nat → Bool} {d i : Nat} (h : ∀ j, i ≤ j → j < i + d → f j = g j) : nb f d i = nb g d i := by unfold nb; rw [els_congr f g d i h]
theorem nb_app (f : Nat → Bool) (d e i : Nat) : nb f (d + e) i = nb f d i + nb f e (i + d) := by unfold nb; rw [els_app, List.length_append]
theorem nb_byte (a s : Nat) : nb a.testBit 8 s = nb (a / 2 ^ s % 256).testBit 8 0 := by
  have := nb_shift a.testBit s 8 0
  rw [Nat.zero_add] at this
  rw [← this]
  refine nb_congr fun j h1 h2 => ?_
  rw [show (256 : Nat) = 2 ^ 8 from rfl, Nat.testBit_mod_two_pow, decide_eq_true (show j < 8 by omega), Bool.true_and, Nat.testBit_div_two_pow]

/-- How many bits each byte has. -/
def pop8 : ByteArray := (⟨#[0, 1, 1, 2, 1, 2, 2, 3, 1, 2, 2, 3, 2, 3, 3, 4, 1, 2, 2, 3, 2, 3, 3, 4, 2, 3, 3, 4, 3, 4, 4, 5, 1, 2, 2, 3, 2, 3, 3, 4, 2, 3, 3, 4, 3, 4, 4, 5, 2, 3, 3, 4, 3, 4, 4, 5, 3, 4, 4, 5, 4, 5, 5, 6, 1, 2, 2, 3, 2, 3, 3, 4, 2, 3, 3, 4, 3, 4, 4, 5, 2, 3, 3, 4, 3, 4, 4, 5, 3, 4, 4, 5, 4, 5, 5, 6, 2, 3, 3, 4, 3, 4, 4, 5, 3, 4, 4, 5, 4, 5, 5, 6, 3, 4, 4, 5, 4, 5, 5, 6, 4, 5, 5, 6, 5, 6, 6, 7, 1, 2, 2, 3, 2, 3, 3, 4, 2, 3, 3, 4, 3, 4, 4, 5, 2, 3, 3, 4, 3, 4, 4, 5, 3, 4, 4, 5, 4, 5, 5, 6, 2, 3, 3, 4, 3, 4, 4, 5, 3, 4, 4, 5, 4, 5, 5, 6, 3, 4, 4, 5, 4, 5, 5, 6, 4, 5, 5, 6, 5, 6, 6, 7, 2, 3, 3, 4, 3, 4, 4, 5, 3, 4, 4, 5, 4, 5, 5, 6, 3, 4, 4, 5, 4, 5, 5, 6, 4, 5, 5, 6, 5, 6, 6, 7, 3, 4, 4, 5, 4, 5, 5, 6, 4, 5, 5, 6, 5, 6, 6, 7, 4, 5, 5, 6, 5, 6, 6, 7, 5, 6, 6, 7, 6, 7, 7, 8]⟩ : ByteArray)
theorem pop8_eq (n : Nat) (h : n < 256) : bt pop8 (n : Int) = ((nb n.testBit 8 0 : Nat) : Int) := by
  have : ∀ q : Fin 256, bt pop8 (q.val : Int) = ((nb q.val.testBit 8 0 : Nat) : Int) := by decide +kernel
  exact this ⟨n, h⟩
theorem shr24 (a : Nat) : shr .u32 (a : Int) 24 = ((a / 2 ^ 24 : Nat) : Int) := by simp [shr, IntKind.bits]
theorem shr16 (a : Nat) : shr .u32 (a : Int) 16 = ((a / 2 ^ 16 : Nat) : Int) := by simp [shr, IntKind.bits]
theorem shr8 (a : Nat) : shr .u32 (a : Int) 8 = ((a / 2 ^ 8 : Nat) : Int) := by simp [shr, IntKind.bits]
theorem and255 (a : Nat) (ha : a < 4294967296) : bits .and .u32 (a : Int) 255 = ((a % 256 : Nat) : Int) := by
  have h : a &&& 255 = a % 256 := by
    rw [show (255 : Nat) = 2 ^ 8 - 1 from rfl, Nat.and_two_pow_sub_one_eq_mod]
  rw [show bits .and .u32 (a : Int) 255 = ((a &&& 255 : Nat) : Int) from b_and a 255 ha (by omega), h]
theorem nb_le (f : Nat → Bool) (d i : Nat) : nb f d i ≤ d := els_len f d i
theorem ones_unf (a0 : Int) : math_bits_OnesCount32.f a0 = (if 0 ≤ (shr .u32 a0 (24 : Int)) ∧ (shr .u32 a0 (24 : Int)) < ((256 : Nat) : Int) then
    if 0 ≤ (bits .and .u32 (shr .u32 a0 (16 : Int)) (255 : Int)) ∧ (bits .and .u32 (shr .u32 a0 (16 : Int)) (255 : Int)) < ((256 : Nat) : Int) then
      if 0 ≤ (bits .and .u32 (shr .u32 a0 (8 : Int)) (255 : Int)) ∧ (bits .and .u32 (shr .u32 a0 (8 : Int)) (255 : Int)) < ((256 : Nat) : Int) then
        if 0 ≤ (bits .and .u32 a0 (255 : Int)) ∧ (bits .and .u32 a0 (255 : Int)) < ((256 : Nat) : Int) then
          some (IntKind.wrap .i64 ((IntKind.wrap .u8 ((IntKind.wrap .u8 ((IntKind.wrap .u8 ((bt pop8 (shr .u32 a0 (24 : Int))) + (bt pop8 (bits .and .u32 (shr .u32 a0 (16 : Int)) (255 : Int))))) + (bt pop8 (bits .and .u32 (shr .u32 a0 (8 : Int)) (255 : Int))))) + (bt pop8 (bits .and .u32 a0 (255 : Int)))))))
        else none
      else none
    else none
  else none) := by
  have e : ByteArray.size pop8 = 256 := by kernel_rfl
  rw [← e]
  rfl
theorem Ones_eq {a : Nat} (ha : a < 4294967296) : math_bits_OnesCount32.f (a : Int) = some ((nb a.testBit 32 0 : Nat) : Int) := by
  have h24 : a / 2 ^ 24 < 256 := by omega
  have h16 : a / 2 ^ 16 < 4294967296 := by omega
  have h8 : a / 2 ^ 8 < 4294967296 := by omega
  have n0 := nb_byte a 0
  have n8 := nb_byte a 8
  have n16 := nb_byte a 16
  have n24 := nb_byte a 24
  rw [Nat.mod_eq_of_lt h24] at n24
  rw [Nat.pow_zero, Nat.div_one] at n0
  have e1 := nb_app a.testBit 8 24 0
  have e2 := nb_app a.testBit 8 16 8
  have e3 := nb_app a.testBit 8 8 16
  simp only [Nat.zero_add, Nat.reduceAdd] at e1 e2 e3
  have l0 := nb_le a.testBit 8 0
  have l8 := nb_le a.testBit 8 8
  have l16 := nb_le a.testBit 8 16
  have l24 := nb_le a.testBit 8 24
  rw [ones_unf, shr24, shr16, shr8, and255 _ ha, and255 _ h8, and255 _ h16, if_pos (by omega), if_pos (by omega), if_pos (by omega), if_pos (by omega), pop8_eq _ h24, pop8_eq _ (by omega), pop8_eq _ (by omega), pop8_eq _ (by omega), ← n0, ← n8, ← n16, ← n24]
  rw [e1, e2, e3]
  generalize nb a.testBit 8 0 = x at *
  generalize nb a.testBit 8 8 = y at *
  generalize nb a.testBit 8 16 = z at *
  generalize nb a.testBit 8 24 = t at *
  clear n0 n8 n16 n24 e1 e2 e3
  rw [wu8_id (x := (t : Int) + (z : Int)) (by omega), wu8_id (x := (t : Int) + (z : Int) + (y : Int)) (by omega), wu8_id (x := (t : Int) + (z : Int) + (y : Int) + (x : Int)) (by omega), wi64 (by omega) (by omega)]
  congr 1; omega
theorem Count_eq {a : Nat} (ha : a < 4294967296) : sigset_Count.f (a : Int) = some (((els a.testBit 31 0).length : Nat) : Int) := by
  have hc := cut_lt a
  unfold sigset_Count.f
  rw [show bits .and .u32 (a : Int) 2147483647 = ((a &&& 2147483647 : Nat) : Int) from b_and a 2147483647 ha (by omega), Ones_eq (by omega), bind_go]
  congr 2
  have e1 := nb_app (a &&& 2147483647).testBit 31 1 0
  have e2 : nb (a &&& 2147483647).testBit 1 31 = 0 := by
    unfold nb
    rw [els_nil _ _ _ (fun j h1 h2 => by rw [cut_bit, decide_eq_false (show ¬ j < 31 by omega), Bool.false_and])]
    rfl
  have e3 : nb (a &&& 2147483647).testBit 31 0 = nb a.testBit 31 0 := nb_congr fun j _ h2 => by rw [cut_bit, decide_eq_true (show j < 31 by omega), Bool.true_and]
  simp only [Nat.zero_add, Nat.reduceAdd] at e1
  rw [e1, e2, e3]
  rfl
theorem One_out {n : Int} (h : ¬ (1 ≤ n ∧ n ≤ 31)) : sigset_One.f n = some 0 := by
  unfold sigset_One.f
  by_cases h1 : n < 1
  · rw [if_pos h1]
  · rw [if_neg h1, if_pos (by omega)]
theorem less_none {p : Nat} (hp : p < 2147483648) : less p 0 = p := by
  apply Nat.eq_of_testBit_eq
  intro j
  rw [less_bit (by omega) (by omega), Nat.zero_testBit]
  simp
/-- What adding, taking away and asking give at any number. -/
theorem Add_any {p : Nat} (hp : p < 4294967296) (n : Int) : ∃ r : Nat, r < 2147483648 ∧ (∀ k, k < 31 → r.testBit k = (p.testBit k || decide (((k + 1 : Nat) : Int) = n))) ∧ sigset_Add.f (p : Int) n = some (r : Int) := by
  have hc := cut_lt p
  by_cases h : 1 ≤ n ∧ n ≤ 31
  · obtain ⟨k, rfl⟩ : ∃ k : Nat, n = ((k + 1 : Nat) : Int) := ⟨(n - 1).toNat, by omega⟩
    have hpw := pw_lt (k := k) (by omega)
    refine ⟨_, Nat.or_lt_two_pow (n := 31) (by omega) (by omega), fun j hj => ?_, Add_eq hp (by omega)⟩
    rw [Nat.testBit_or, cut_bit, Nat.testBit_two_pow, decide_eq_true hj, Bool.true_and]
    congr 1
    rw [decide_eq_decide]; omega
  · refine ⟨p &&& 2147483647, hc, fun j hj => ?_, ?_⟩
    · rw [cut_bit, decide_eq_true hj, Bool.true_and, decide_eq_false (by omega), Bool.or_false]
    · unfold sigset_Add.f
      rw [One_out h, bind_go, show bits .and .u32 (p : Int) 2147483647 = ((p &&& 2147483647 : Nat) : Int) from b_and p 2147483647 hp (by omega), show (0 : Int) = ((0 : Nat) : Int) from rfl, b_or _ _ (by omega) (by omega), Nat.or_zero]
theorem Del_any {p : Nat} (hp : p < 4294967296) (n : Int) : ∃ r : Nat, r < 2147483648 ∧ (∀ k, k < 31 → r.testBit k = (p.testBit k && decide (((k + 1 : Nat) : Int) ≠ n))) ∧ sigset_Del.f (p : Int) n = some (r : Int) := by
  have hc := cut_lt p
  by_cases h : 1 ≤ n ∧ n ≤ 31
  · obtain ⟨k, rfl⟩ : ∃ k : Nat, n = ((k + 1 : Nat) : Int) := ⟨(n - 1).toNat, by omega⟩
    have hpw := pw_lt (k := k) (by omega)
    have hle := less_le (p &&& 2147483647) (2 ^ k)
    refine ⟨_, by omega, fun j hj => ?_, Del_eq hp (by omega)⟩
    rw [less_bit (by omega) (by omega), cut_bit, Nat.testBit_two_pow, decide_eq_true hj, Bool.true_and]
    congr 1
    rw [← decide_not, decide_eq_decide]; omega
  · refine ⟨p &&& 2147483647, hc, fun j hj => ?_, ?_⟩
    · rw [cut_bit, decide_eq_true hj, Bool.true_and, decide_eq_true (by omega), Bool.and_true]
    · unfold sigset_Del.f
      rw [One_out h, bind_go, show bits .and .u32 (p : Int) 2147483647 = ((p &&& 2147483647 : Nat) : Int) from b_and p 2147483647 hp (by omega), show (0 : Int) = ((0 : Nat) : Int) from rfl, b_andNot _ _ (by omega) (by omega), less_none hc]
theorem Has_out {p : Nat} (hp : p < 4294967296) {n : Int} (h : ¬ (1 ≤ n ∧ n ≤ 31)) : sigset_Has.f (p : Int) n = some false := by
  unfold sigset_Has.f
  rw [One_out h, bind_go, show (bits .and .u32 (p : Int) 0) = ((p &&& 0 : Nat) : Int) from b_and p 0 hp (by omega), Nat.and_zero]
  rfl
theorem sure_t : halterlaw03_sure.f = some true := by kernel_rfl

/-- The digits. -/
def hexs : ByteArray := (⟨#[48, 49, 50, 51, 52, 53, 54, 55, 56, 57, 97, 98, 99, 100, 101, 102]⟩ : ByteArray)
def dg (v : Nat) : Int := bt hexs (v : Int)
def nib (a i : Nat) : Nat := a / 2 ^ (4 * (7 - i)) % 16
def digs (a : Nat) : List Int := [dg (nib a 0), dg (nib a 1), dg (nib a 2), dg (nib a 3), dg (nib a 4), dg (nib a 5), dg (nib a 6), dg (nib a 7)]
theorem dg_lo (v : Nat) (h : v < 10) : dg v = ((48 + v : Nat) : Int) := by
  have : ∀ q : Fin 10, dg q.val = ((48 + q.val : Nat) : Int) := by decide +kernel
  exact this ⟨v, h⟩
theorem dg_hi (v : Nat) (h : 10 ≤ v) (h2 : v < 16) : dg v = ((87 + v : Nat) : Int) := by
  have : ∀ q : Fin 16, 10 ≤ q.val → dg q.val = ((87 + q.val : Nat) : Int) := by decide +kernel
  exact this ⟨v, h2⟩ h
theorem dg_bd (v : Nat) (h : v < 16) : 0 ≤ dg v ∧ dg v < 256 := by
  by_cases h1 : v < 10
  · rw [dg_lo v h1]; omega
  · rw [dg_hi v (by omega) h]; omega
theorem nib_lt (a i : Nat) : nib a i < 16 := Nat.mod_lt _ (by omega)
theorem shrN (a k : Nat) (h : k ≤ 32) : shr .u32 (a : Int) (k : Int) = ((a / 2 ^ k : Nat) : Int) := by
  unfold shr
  rw [Int.toNat_natCast, Nat.min_eq_left (show k ≤ IntKind.u32.bits from h), Int.natCast_ediv, Int.natCast_pow]
  rfl
theorem and15 (a : Nat) (ha : a < 4294967296) : bits .and .u32 (a : Int) 15 = ((a % 16 : Nat) : Int) := by
  have h : a &&& 15 = a % 16 := by
    rw [show (15 : Nat) = 2 ^ 4 - 1 from rfl, Nat.and_two_pow_sub_one_eq_mod]
  rw [show bits .and .u32 (a : Int) 15 = ((a &&& 15 : Nat) : Int) from b_and a 15 ha (by omega), h]
theorem text_step {a : Nat} (ha : a < 2147483648) (n i : Nat) (hi : i < 8) (x : List Int) : sigset_Text.l0 (a : Int) (n + 1) x (i : Int) = sigset_Text.l0 (a : Int) n (x.set i (dg (nib a i))) ((i + 1 : Nat) : Int) := by
  have e1 : IntKind.wrap .i64 ((7 : Int) - (i : Int)) = ((7 - i : Nat) : Int) := by rw [wi64 (by omega) (by omega)]; omega
  have e2 : IntKind.wrap .i64 ((4 : Int) * ((7 - i : Nat) : Int)) = ((4 * (7 - i) : Nat) : Int) := by rw [wi64 (by omega) (by omega)]; omega
  have e3 : bits .and .u32 (a : Int) 2147483647 = (a : Int) := by
    rw [show bits .and .u32 (a : Int) 2147483647 = ((a &&& 2147483647 : Nat) : Int) from b_and a 2147483647 (by omega) (by omega), cut_eq ha]
  have hq : a / 2 ^ (4 * (7 - i)) ≤ a := Nat.div_le_self ..
  have hn := nib_lt a i
  have e5 : bits .and .u32 ((a / 2 ^ (4 * (7 - i)) : Nat) : Int) 15 = ((nib a i : Nat) : Int) := and15 _ (by omega)
  have hz : ((ByteArray.size (⟨#[48, 49, 50, 51, 52, 53, 54, 55, 56, 57, 97, 98, 99, 100, 101, 102]⟩ : ByteArray) : Nat) : Int) = 16 := rfl
  rw [sigset_Text.l0, if_pos (by omega), e1, e2, e3, shrN a _ (by omega), e5, hz, if_pos (Int.natCast_nonneg _), if_pos (by omega), if_pos (by omega), toNat_nat, Nat.zero_add, if_pos hi, wsucc (by omega)]
  rfl
theorem Text_eq {a : Nat} (ha : a < 2147483648) : sigset_Text.f (a : Int) = some (strOfNums (digs a)) := by
  have h : ∀ n, sigset_Text.l0 (a : Int) (n + 9) (List.replicate 8 (0 : Int)) ((0 : Nat) : Int) = some (digs a) := by
    intro n
    rw [text_step ha (n + 8) 0 (by omega), text_step ha (n + 7) 1 (by omega), text_step ha (n + 6) 2 (by omega), text_step ha (n + 5) 3 (by omega), text_step ha (n + 4) 4 (by omega), text_step ha (n + 3) 5 (by omega), text_step ha (n + 2) 6 (by omega), text_step ha (n + 1) 7 (by omega), sigset_Text.l0, if_neg (by omega)]
    rfl
  have h2 : sigset_Text.l0 (a : Int) FUEL (List.replicate 8 (0 : Int)) 0 = some (digs a) := h 18446744073709551607
  unfold sigset_Text.f
  rw [h2, bind_go]
  rfl
theorem bytes_of (l : List Int) (h : ∀ z ∈ l, 0 ≤ z ∧ z < 256) : bytesOf (strOfNums l) = l := by
  unfold bytesOf
  rw [strOfNums_data, List.map_map]
  conv => rhs; rw [← List.map_id l]
  apply List.map_congr_left
  intro z hz
  have := h z hz
  show ((UInt8.ofNat z.toNat).toNat : Int) = z
  rw [UInt8.toNat_ofNat']
  omega
theorem bytes_digs (a : Nat) : bytesOf (strOfNums (digs a)) = digs a := by
  apply bytes_of
  intro z hz
  unfold digs at hz
  simp only [List.mem_cons, List.not_mem_nil, or_false] at hz
  rcases hz with rfl | rfl | rfl | rfl | rfl | rfl | rfl | rfl <;> exact dg_bd _ (nib_lt _ _)
theorem digs_at (a i : Nat) (hi : i < 8) : (digs a).getD i 0 = dg (nib a i) := by
  match i, hi with
  | 0, _ => rfl
  | 1, _ => rfl
  | 2, _ => rfl
  | 3, _ => rfl
  | 4, _ => rfl
  | 5, _ => rfl
  | 6, _ => rfl
  | 7, _ => rfl
theorem low_eq (v : Nat) (h : 10 ≤ v) (h2 : v < 16) : internal_strconv_lower.f ((87 + v : Nat) : Int) = some ((87 + v : Nat) : Int) := by
  have : ∀ q : Fin 16, 10 ≤ q.val → internal_strconv_lower.f ((87 + q.val : Nat) : Int) = some ((87 + q.val : Nat) : Int) := by decide +kernel
  exact this ⟨v, h2⟩ h
theorem pu_step (s : ByteArray) (hs : (bytesOf s).length = 8) (n i x v : Nat) (hi : i < 8) (hv : v < 16) (hb : (bytesOf s).getD i 0 = dg v) (hx : x < 268435456) :
    internal_strconv_ParseUint.l0 s (n + 1) false (x : Int) (i : Int) = internal_strconv_ParseUint.l0 s n false ((x * 16 + v : Nat) : Int) ((i + 1 : Nat) : Int) := by
  have eM : IntKind.wrap .u64 (shl .u64 (1 : Int) (32 : Int) - (1 : Int)) = 4294967295 := by decide +kernel
  have e1 : IntKind.wrap .u64 ((x : Int) * 16) = ((x * 16 : Nat) : Int) := by rw [wu64_id (by omega)]; omega
  have e2 : IntKind.wrap .u64 (v : Int) = (v : Int) := wu64_id (by omega)
  have e3 : IntKind.wrap .u64 (((x * 16 : Nat) : Int) + (v : Int)) = ((x * 16 + v : Nat) : Int) := by rw [wu64_id (by omega)]; omega
  rw [internal_strconv_ParseUint.l0, hs, if_pos (by omega), if_pos ⟨by omega, by omega⟩, toNat_nat, Nat.zero_add, if_pos hi, hb, wsucc (by omega)]
  by_cases h : v < 10
  · have e4 : IntKind.wrap .u8 (((48 + v : Nat) : Int) - 48) = (v : Int) := by rw [wu8_id (by omega)]; omega
    rw [dg_lo v h, if_neg (by omega), if_pos (by omega), if_pos (by omega), e4, if_neg (by omega), if_neg (by omega), e1, e2, e3, if_neg (by omega), eM, if_neg (by omega)]
  · have e5 : IntKind.wrap .u8 (((87 + v : Nat) : Int) - 97) = ((v - 10 : Nat) : Int) := by rw [wu8_id (by omega)]; omega
    have e4 : IntKind.wrap .u8 (((v - 10 : Nat) : Int) + 10) = (v : Int) := by rw [wu8_id (by omega)]; omega
    rw [dg_hi v (by omega) hv, if_neg (by omega), if_pos (by omega), if_neg (by omega), low_eq v (by omega) hv, bind_go, if_pos (by omega), bind_go, if_pos (by omega), bind_go, e5, e4, if_neg (by omega), if_neg (by omega), e1, e2, e3, if_neg (by omega), eM, if_neg (by omega)]
/-- What has been read. -/
def st (a i : Nat) : Nat := a / 2 ^ (4 * (8 - i))
theorem st_succ {a : Nat} (ha : a < 2147483648) (i : Nat) (hi : i < 8) : st a (i + 1) = st a i * 16 + nib a i ∧ st a i < 268435456 := by
  unfold st nib
  have e : 4 * (8 - i) = 4 * (7 - i) + 4 := by omega
  have e2 : 4 * (8 - (i + 1)) = 4 * (7 - i) := by omega
  have hq : a / 2 ^ (4 * (7 - i)) ≤ a := Nat.div_le_self ..
  rw [e, e2, Nat.pow_add, ← Nat.div_div_eq_div_mul]
  generalize a / 2 ^ (4 * (7 - i)) = q at *
  omega
theorem pu_loop {a : Nat} (ha : a < 2147483648) : ∀ (d i n : Nat), i + d = 8 → d < n → internal_strconv_ParseUint.l0 (strOfNums (digs a)) n false ((st a i : Nat) : Int) (i : Int) = some (.inl (false, (a : Int))) := by
  have hb := bytes_digs a
  intro d
  induction d with
  | zero =>
    intro i n hi hn
    obtain ⟨q, rfl⟩ := fuel_step hn
    have : i = 8 := by omega
    subst this
    rw [internal_strconv_ParseUint.l0, hb, if_neg (by show ¬ ((8 : Nat) : Int) < ((8 : Nat) : Int); omega)]
    have : st a 8 = a := by unfold st; simp
    rw [this]
  | succ d ih =>
    intro i n hi hn
    obtain ⟨q, rfl⟩ := fuel_step hn
    obtain ⟨h1, h2⟩ := st_succ ha i (by omega)
    rw [pu_step _ (by rw [hb]; rfl) q i (st a i) (nib a i) (by omega) (nib_lt _ _) (by rw [hb]; exact digs_at a i (by omega)) h2, ← h1]
    exact ih (i + 1) q (by omega) (by omega)
theorem Parse_eq {a : Nat} (ha : a < 2147483648) : sigset_Parse.f (strOfNums (digs a)) = some ((a : Int), none) := by
  have hs : ByteArray.size (strOfNums (digs a)) = 8 := strOfNums_size _
  have hne : ¬ strOfNums (digs a) = ByteArray.empty := fun h => by rw [h] at hs; exact absurd hs (by decide)
  have hp := pu_loop ha 8 0 FUEL (by omega) (fuel_gt (by omega))
  have h0 : st a 0 = 0 := by unfold st; omega
  have z0 : ((0 : Nat) : Int) = 0 := rfl
  rw [h0, z0] at hp
  have hw : IntKind.wrap .u32 (a : Int) = (a : Int) := w32 a (by omega)
  unfold sigset_Parse.f strconv_ParseUint.f internal_strconv_ParseUint.f
  rw [hs, if_neg (fun h => h rfl), if_neg hne, hp, bind_go]
  dsimp only
  rw [if_neg (by simp), bind_go]
  dsimp only
  rw [bind_go]
  dsimp only
  rw [if_neg (fun h => h rfl), if_neg (by omega), hw, Text_eq ha, bind_go, if_neg (fun h => h rfl)]

theorem els_more (f g : Nat → Bool) (k : Nat) (hk : f k = false) (hg : ∀ j, j < 31 → g j = (f j || decide (j = k))) : ∀ d i, i ≤ k → k < i + d → i + d ≤ 31 → (els g d i).length = (els f d i).length + 1
  | 0, i, h1, h2, _ => by omega
  | d + 1, i, h1, h2, h3 => by
    have e1 : els g (d + 1) i = (if g i = true then [((i + 1 : Nat) : Int)] else []) ++ els g d (i + 1) := rfl
    have e2 : els f (d + 1) i = (if f i = true then [((i + 1 : Nat) : Int)] else []) ++ els f d (i + 1) := rfl
    rw [e1, e2, List.length_append, List.length_append]
    by_cases e : i = k
    · subst e
      have : els g d (i + 1) = els f d (i + 1) := els_congr g f d (i + 1) fun j g1 g2 => by rw [hg j (by omega), decide_eq_false (by omega), Bool.or_false]
      rw [this, hg i (by omega), hk, if_pos (by simp), if_neg (by simp)]
      simp; omega
    · have : g i = f i := by rw [hg i (by omega), decide_eq_false e, Bool.or_false]
      rw [this, els_more f g k hk hg d (i + 1) (by omega) (by omega) (by omega)]
      omega
theorem els_ge (f : Nat → Bool) (d i : Nat) (z : Int) (h : z ∈ els f d i) : ((i + 1 : Nat) : Int) ≤ z := by
  obtain ⟨k, h1, h2, h3, h4⟩ := (els_mem f z d i).1 h
  omega
theorem els_sorted (f : Nat → Bool) : ∀ d i, (els f d i).Pairwise (· < ·)
  | 0, i => List.Pairwise.nil
  | d + 1, i => by
    unfold els
    split
    · refine List.Pairwise.cons (fun z hz => ?_) (els_sorted f d (i + 1))
      have := els_ge f d (i + 1) z hz
      omega
    · exact els_sorted f d (i + 1)
theorem sorted_at {l : List Int} (h : l.Pairwise (· < ·)) (q : Nat) (hq : q + 1 < l.length) : l.getD q 0 < l.getD (q + 1) 0 := by
  rw [List.getD_eq_getElem?_getD, List.getD_eq_getElem?_getD, List.getElem?_eq_getElem (show q < l.length by omega), List.getElem?_eq_getElem hq]
  exact List.pairwise_iff_getElem.1 h q (q + 1) (by omega) hq (by omega)
theorem take_mem (l : List Int) (i : Nat) (hi : i < l.length) (z : Int) : z ∈ l.take (i + 1) ↔ z ∈ l.take i ∨ z = l.getD i 0 := by
  rw [List.take_add_one, List.mem_append, List.getElem?_eq_getElem hi, List.getD_eq_getElem?_getD, List.getElem?_eq_getElem hi]
  simp
theorem inc0 {p : Nat} (hp : p < 2147483648) (a0 : Int) : ∀ (d i n s : Nat), i + d = (els p.testBit 31 0).length → d < n → s < 2147483648 → (∀ k, k < 31 → s.testBit k = decide (((k + 1 : Nat) : Int) ∈ (els p.testBit 31 0).take i)) → halterlaw03_SetLaws.l0 (els p.testBit 31 0) a0 n (s : Int) (i : Int) = some (.inl (p : Int)) := by
  have hlen := els_len p.testBit 31 0
  have hS := fun q hq => sorted_at (els_sorted p.testBit 31 0) q hq
  intro d
  induction d with
  | zero =>
    intro i n s hi hn hs hb
    obtain ⟨q, rfl⟩ := fuel_step hn
    rw [halterlaw03_SetLaws.l0, if_neg (by omega)]
    have : s = p := ext31 hs hp fun k hk => by
      rw [hb k hk, List.take_of_length_le (by omega)]
      cases h : p.testBit k with
      | true => exact decide_eq_true ((els_mem31 _ k hk).2 h)
      | false => exact decide_eq_false fun h2 => by rw [els_mem31 _ k hk, h] at h2; cases h2
    rw [this]
  | succ d ih =>
    intro i n s hi hn hs hb
    obtain ⟨q, rfl⟩ := fuel_step hn
    obtain ⟨r, r1, r2, r3⟩ := Add_any (p := s) (by omega) ((els p.testBit 31 0).getD i 0)
    have hg : (0 : Int) ≤ (i : Int) ∧ (i : Int) < (((els p.testBit 31 0).length : Nat) : Int) := by omega
    have hj : halterlaw03_SetLaws.j1 (els p.testBit 31 0) (s : Int) (i : Int) a0 = some (.inl (r : Int)) := by
      unfold halterlaw03_SetLaws.j1
      by_cases h0 : (i : Int) > 0
      · have e1 : IntKind.wrap .i64 ((i : Int) - 1) = ((i - 1 : Nat) : Int) := by rw [wi64 (by omega) (by omega)]; omega
        have h1 := hS (i - 1) (by omega)
        rw [show i - 1 + 1 = i by omega] at h1
        rw [if_pos h0, e1, if_pos (by omega), if_pos hg, toNat_nat, toNat_nat, if_neg (by omega), if_pos hg, r3, bind_go]
      · rw [if_neg h0, if_pos hg, toNat_nat, r3, bind_go]
    rw [halterlaw03_SetLaws.l0, if_pos hg.2, hj, bind_go]
    dsimp only
    rw [wsucc (by omega)]
    refine ih (i + 1) q r (by omega) (by omega) r1 fun k hk => ?_
    rw [r2 k hk, hb k hk, ← Bool.decide_or, decide_eq_decide, take_mem _ i (by omega)]
theorem loop0 {p : Nat} (hp : p < 2147483648) (a0 : Int) : halterlaw03_SetLaws.l0 (els p.testBit 31 0) a0 FUEL 0 0 = some (.inl (p : Int)) := by
  have hlen := els_len p.testBit 31 0
  exact inc0 hp a0 (els p.testBit 31 0).length 0 FUEL 0 (by omega) (fuel_gt (by omega)) (by omega) (fun k hk => by rw [Nat.zero_testBit]; simp)
theorem inc2 {p : Nat} (hp : p < 2147483648) (a0 : Int) : ∀ (d i n s : Nat), i + d = (els p.testBit 31 0).length → d < n → s < 2147483648 → (∀ k, k < 31 → s.testBit k = decide (((k + 1 : Nat) : Int) ∈ (els p.testBit 31 0).take i)) → halterlaw03_SetLaws.l2 (els p.testBit 31 0) a0 n (s : Int) (i : Int) = some (.inl (p : Int)) := by
  have hlen := els_len p.testBit 31 0
  have hS := fun q hq => sorted_at (els_sorted p.testBit 31 0) q hq
  intro d
  induction d with
  | zero =>
    intro i n s hi hn hs hb
    obtain ⟨q, rfl⟩ := fuel_step hn
    rw [halterlaw03_SetLaws.l2, if_neg (by omega)]
    have : s = p := ext31 hs hp fun k hk => by
      rw [hb k hk, List.take_of_length_le (by omega)]
      cases h : p.testBit k with
      | true => exact decide_eq_true ((els_mem31 _ k hk).2 h)
      | false => exact decide_eq_false fun h2 => by rw [els_mem31 _ k hk, h] at h2; cases h2
    rw [this]
  | succ d ih =>
    intro i n s hi hn hs hb
    obtain ⟨q, rfl⟩ := fuel_step hn
    obtain ⟨r, r1, r2, r3⟩ := Add_any (p := s) (by omega) ((els p.testBit 31 0).getD i 0)
    have hg : (0 : Int) ≤ (i : Int) ∧ (i : Int) < (((els p.testBit 31 0).length : Nat) : Int) := by omega
    have hj : halterlaw03_SetLaws.j3 (els p.testBit 31 0) (s : Int) (i : Int) a0 = some (.inl (r : Int)) := by
      unfold halterlaw03_SetLaws.j3
      by_cases h0 : (i : Int) > 0
      · have e1 : IntKind.wrap .i64 ((i : Int) - 1) = ((i - 1 : Nat) : Int) := by rw [wi64 (by omega) (by omega)]; omega
        have h1 := hS (i - 1) (by omega)
        rw [show i - 1 + 1 = i by omega] at h1
        rw [if_pos h0, e1, if_pos (by omega), if_pos hg, toNat_nat, toNat_nat, if_neg (by omega), if_pos hg, r3, bind_go]
      · rw [if_neg h0, if_pos hg, toNat_nat, r3, bind_go]
    rw [halterlaw03_SetLaws.l2, if_pos hg.2, hj, bind_go]
    dsimp only
    rw [wsucc (by omega)]
    refine ih (i + 1) q r (by omega) (by omega) r1 fun k hk => ?_
    rw [r2 k hk, hb k hk, ← Bool.decide_or, decide_eq_decide, take_mem _ i (by omega)]
theorem loop2 {p : Nat} (hp : p < 2147483648) (a0 : Int) : halterlaw03_SetLaws.l2 (els p.testBit 31 0) a0 FUEL 0 0 = some (.inl (p : Int)) := by
  have hlen := els_len p.testBit 31 0
  exact inc2 hp a0 (els p.testBit 31 0).length 0 FUEL 0 (by omega) (fuel_gt (by omega)) (by omega) (fun k hk => by rw [Nat.zero_testBit]; simp)
theorem modS (a : Int) (h : 0 ≤ a ∧ a < 4294967296) : ∃ p : Nat, p < 2147483648 ∧ Int.tmod a 2147483648 = (p : Int) := by
  rw [Int.tmod_eq_emod_of_nonneg h.1]
  exact ⟨(a % 2147483648).toNat, by omega, by omega⟩
theorem modN (a : Int) : ∃ k : Nat, k < 31 ∧ IntKind.wrap .i64 ((1 : Int) + IntKind.wrap .i64 (Int.tmod (IntKind.wrap .u64 a) 31)) = ((k + 1 : Nat) : Int) := by
  rw [wu64, Int.tmod_eq_emod_of_nonneg (by omega)]
  refine ⟨(a % 18446744073709551616 % 31).toNat, by omega, ?_⟩
  rw [wi64 (x := a % 18446744073709551616 % 31) (by omega) (by omega), wi64 (by omega) (by omega)]
  omega
theorem SetLaws (a0 : Int) (a1 : Int) (a2 : Int) (h0 : (Lit.int .u32 a0).wf = true) (h1 : (Lit.int .i64 a1).wf = true) (h2 : (Lit.int .i64 a2).wf = true) : halterlaw03_SetLaws.f a0 a1 a2 = some true := by
  obtain ⟨p, hp, ep⟩ := modS a0 (by have := u32_bd h0; omega)
  obtain ⟨k, hk, ek⟩ := modN a1
  obtain ⟨m, hm, em⟩ := modN a2
  obtain ⟨x, x1, x2, x3⟩ := Add_any (p := p) (by omega) ((k + 1 : Nat) : Int)
  obtain ⟨y, y1, y2, y3⟩ := Del_any (p := p) (by omega) ((k + 1 : Nat) : Int)
  have hx : x.testBit k = true := by rw [x2 k hk]; simp
  have hy : y.testBit k = false := by rw [y2 k hk]; simp
  have hc := els_more y.testBit x.testBit k hy (fun j hj => by
    rw [x2 j hj, y2 j hj]
    by_cases e : j = k
    · subst e; simp
    · rw [decide_eq_false (by omega), decide_eq_true (show ((j + 1 : Nat) : Int) ≠ ((k + 1 : Nat) : Int) by omega), decide_eq_false e]; simp) 31 0 (by omega) (by omega) (by omega)
  have hly := els_len y.testBit 31 0
  have z0 : ((0 : Nat) : Int) = 0 := rfl
  have lp0 := loop0 hp a0
  have lp2 := loop2 hp a0
  unfold halterlaw03_SetLaws.f
  rw [ep, ek, em, x3, bind_go, y3, bind_go, Has_eq (by omega) hk, bind_go, hx, if_neg (fun h => h rfl), Has_eq (by omega) hk, bind_go, hy, if_neg (by simp)]
  by_cases e : m = k
  · rw [if_neg (show ¬ ¬ ((m + 1 : Nat) : Int) = ((k + 1 : Nat) : Int) by omega), Text_eq hp, bind_go, Parse_eq hp, bind_go]
    dsimp only
    rw [if_neg (fun h => h rfl), if_neg (fun h => h rfl), Count_eq (by omega), bind_go, Count_eq (by omega), bind_go, hc, wsucc (by omega), if_neg (fun h => h rfl), list_els hp, bind_go, lp2, bind_go]
    dsimp only
    rw [if_pos rfl, sure_t, bind_go]
  · have b1 : x.testBit m = p.testBit m := by rw [x2 m hm, decide_eq_false (by omega), Bool.or_false]
    have b2 : y.testBit m = p.testBit m := by rw [y2 m hm, decide_eq_true (by omega), Bool.and_true]
    rw [if_pos (show ¬ ((m + 1 : Nat) : Int) = ((k + 1 : Nat) : Int) by omega), Has_eq (by omega) hm, bind_go, Has_eq (by omega) hm, bind_go, b1, if_neg (fun h => h rfl), Has_eq (by omega) hm, bind_go, b2, bind_go, if_neg (fun h => h rfl), Text_eq hp, bind_go, Parse_eq hp, bind_go]
    dsimp only
    rw [if_neg (fun h => h rfl), if_neg (fun h => h rfl), Count_eq (by omega), bind_go, Count_eq (by omega), bind_go, hc, wsucc (by omega), if_neg (fun h => h rfl), list_els hp, bind_go, lp0, bind_go]
    dsimp only
    rw [if_pos rfl, sure_t, bind_go]

end Go.Proofs.YtndjiebeihcbgaaDoor.Pure
