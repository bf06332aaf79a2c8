/- The plain law: what the law computes is true, whatever it is handed. -/
import Derived.Test.YtmpdijmcoboiiaaDoorGSigSteps
import Derived.Test.YtmpdijmcoboiiaaDoorE16
set_option linter.unusedVariables false
set_option linter.unusedSimpArgs false
set_option linter.unnecessarySimpa false
namespace Go.Proofs.YtmpdijmcoboiiaaDoor.Pure
open Go Go.Proofs.YtmpdijmcoboiiaaDoorE Go.Proofs.YtmpdijmcoboiiaaDoorGSigSteps
theorem wu8 (x : Int) : IntKind.wrap .u8 x = x % 256 := by simp [IntKind.wrap, IntKind.bits, IntKind.signed]
theorem wu16 (x : Int) : IntKind.wrap .u16 x = x % 65536 := by simp [IntKind.wrap, IntKind.bits, IntKind.signed]
theorem wu32 (x : Int) : IntKind.wrap .u32 x = x % 4294967296 := by simp [IntKind.wrap, IntKind.bits, IntKind.signed]
theorem wu64 (x : Int) : IntKind.wrap .u64 x = x % 18446744073709551616 := by simp [IntKind.wrap, IntKind.bits, IntKind.signed]
theorem wi64 {x : Int} (h : -9223372036854775808 ≤ x) (h' : x ≤ 9223372036854775807) : IntKind.wrap .i64 x = x := by
  simp [IntKind.wrap, IntKind.bits, IntKind.signed]
  omega
theorem wu8_id {x : Int} (h : 0 ≤ x ∧ x < 256) : IntKind.wrap .u8 x = x := by rw [wu8]; omega
theorem wu32_id {x : Int} (h : 0 ≤ x ∧ x < 4294967296) : IntKind.wrap .u32 x = x := by rw [wu32]; omega
theorem wu64_id {x : Int} (h : 0 ≤ x ∧ x < 18446744073709551616) : IntKind.wrap .u64 x = x := by rw [wu64]; omega
theorem wsucc {i : Nat} (h : i < 9223372036854775807) : IntKind.wrap .i64 ((i : Int) + 1) = ((i + 1 : Nat) : Int) := by rw [wi64 (by omega) (by omega)]; omega
theorem u8_bd {a : Int} (h : (Lit.int .u8 a).wf = true) : 0 ≤ a ∧ a < 256 := by
  simpa [Lit.wf, IntKind.min, IntKind.max, IntKind.signed, IntKind.bits, ← Int.lt_add_one_iff] using h
theorem u32_bd {a : Int} (h : (Lit.int .u32 a).wf = true) : 0 ≤ a ∧ a < 4294967296 := by
  simpa [Lit.wf, IntKind.min, IntKind.max, IntKind.signed, IntKind.bits, ← Int.lt_add_one_iff] using h
theorem u64_bd {a : Int} (h : (Lit.int .u64 a).wf = true) : 0 ≤ a ∧ a < 18446744073709551616 := by
  simpa [Lit.wf, IntKind.min, IntKind.max, IntKind.signed, IntKind.bits, ← Int.lt_add_one_iff] using h
theorem i64_bd {a : Int} (h : (Lit.int .i64 a).wf = true) : -9223372036854775808 ≤ a ∧ a < 9223372036854775808 := by
  simpa [Lit.wf, IntKind.min, IntKind.max, IntKind.signed, IntKind.bits, ← Int.lt_add_one_iff] using h
theorem fuel_gt {n : Nat} (h : n < 18446744073709551616) : n < FUEL := h
theorem bind_go {α β : Type} (a : α) (f : α → Option β) : (some a).bind f = f a := by rw [Option.bind_some]
theorem drop_getD {α : Type} (l : List α) (i : Nat) (d : α) (h : i < l.length) : l.drop i = l.getD i d :: l.drop (i + 1) := by
  rw [List.drop_eq_getElem_cons h, List.getD_eq_getElem?_getD, List.getElem?_eq_getElem h, Option.getD_some]
theorem getD_mem {α : Type} (l : List α) (i : Nat) (d : α) (h : i < l.length) : l.getD i d ∈ l := by
  rw [List.getD_eq_getElem?_getD, List.getElem?_eq_getElem h, Option.getD_some]; exact List.getElem_mem _
theorem toNat_nat (i : Nat) : Int.toNat (i : Int) = i := rfl
/-- A number behind another one: a round of a loop. -/
theorem fuel_step {d n : Nat} (h : d < n) : ∃ m, n = m + 1 := ⟨n - 1, by omega⟩
/-- Where something stands first. -/
def first (v : Int) : List Int → Option Nat
  | [] => none
  | x :: xs => if x = v then some 0 else (first v xs).map (· + 1)
theorem first_none {v : Int} : ∀ {l : List Int}, first v l = none → ∀ z ∈ l, z ≠ v
  | [], _, z, hz => by cases hz
  | x :: xs, h, z, hz => by
    unfold first at h
    split at h
    · cases h
    · rename_i hx
      rcases List.mem_cons.1 hz with rfl | hz
      · exact hx
      · exact first_none (by simpa using h) z hz
theorem first_some {v : Int} : ∀ {l : List Int} {k : Nat}, first v l = some k → k < l.length ∧ l.getD k 0 = v ∧ ∀ j, j < k → l.getD j 0 ≠ v
  | [], _, h => by cases h
  | x :: xs, k, h => by
    unfold first at h
    split at h
    · cases h
      rename_i hx
      exact ⟨by simp, by simpa using hx, fun j hj => by omega⟩
    · rename_i hx
      cases hf : first v xs with
      | none => simp [hf] at h
      | some m =>
        simp [hf] at h
        subst h
        obtain ⟨h1, h2, h3⟩ := first_some hf
        refine ⟨by simp; omega, by simpa using h2, fun j hj => ?_⟩
        cases j with
        | zero => simpa using hx
        | succ j => simpa using h3 j (by omega)

theorem ofInt_u32 (a : Nat) (ha : a < 4294967296) : (BitVec.ofInt 32 (a : Int)).toNat = a := by
  rw [BitVec.ofInt_natCast, BitVec.toNat_ofNat]; exact Nat.mod_eq_of_lt (by omega)
theorem w32 (a : Nat) (ha : a < 4294967296) : IntKind.wrap .u32 (a : Int) = (a : Int) := by rw [wu32]; omega
theorem b_and (a b : Nat) (ha : a < 4294967296) (hb : b < 4294967296) : bits .and .u32 (a : Int) (b : Int) = ((a &&& b : Nat) : Int) := by
  have hx : a &&& b < 2 ^ 32 := Nat.and_lt_two_pow _ (by omega)
  show IntKind.u32.wrap ((BitVec.ofInt 32 (a : Int) &&& BitVec.ofInt 32 (b : Int)).toNat : Int) = _
  rw [BitVec.toNat_and, ofInt_u32 a ha, ofInt_u32 b hb, w32 _ (by omega)]
theorem b_or (a b : Nat) (ha : a < 4294967296) (hb : b < 4294967296) : bits .or .u32 (a : Int) (b : Int) = ((a ||| b : Nat) : Int) := by
  have hx : a ||| b < 2 ^ 32 := Nat.or_lt_two_pow (by omega) (by omega)
  show IntKind.u32.wrap ((BitVec.ofInt 32 (a : Int) ||| BitVec.ofInt 32 (b : Int)).toNat : Int) = _
  rw [BitVec.toNat_or, ofInt_u32 a ha, ofInt_u32 b hb, w32 _ (by omega)]
/-- What the one has and the other has not. -/
def less (a b : Nat) : Nat := a &&& (4294967295 - b)
theorem b_andNot (a b : Nat) (ha : a < 4294967296) (hb : b < 4294967296) : bits .andNot .u32 (a : Int) (b : Int) = ((less a b : Nat) : Int) := by
  have hx : a &&& (4294967295 - b) < 2 ^ 32 := Nat.and_lt_two_pow _ (by omega)
  show IntKind.u32.wrap ((BitVec.ofInt 32 (a : Int) &&& ~~~BitVec.ofInt 32 (b : Int)).toNat : Int) = _
  rw [BitVec.toNat_and, BitVec.toNat_not, ofInt_u32 a ha, ofInt_u32 b hb]
  have e : 2 ^ 32 - 1 - b = 4294967295 - b := by omega
  rw [e, w32 _ (by omega)]
  rfl
theorem bit_hi {x j w : Nat} (hx : x < 2 ^ w) (hj : w ≤ j) : x.testBit j = false :=
  Nat.testBit_lt_two_pow (Nat.lt_of_lt_of_le hx (Nat.pow_le_pow_right (by omega) hj))
theorem less_bit {a b : Nat} (ha : a < 4294967296) (hb : b < 4294967296) (j : Nat) : (less a b).testBit j = (a.testBit j && !b.testBit j) := by
  unfold less
  rw [show 4294967295 - b = 2 ^ 32 - (b + 1) by omega, Nat.testBit_and, Nat.testBit_two_pow_sub_succ (by omega)]
  by_cases hj : j < 32
  · simp [hj]
  · rw [bit_hi (show a < 2 ^ 32 by omega) (by omega)]; simp
theorem less_le (a b : Nat) : less a b ≤ a := Nat.and_le_left
/-- The set's bits of 31. -/
theorem cut_eq {a : Nat} (ha : a < 2147483648) : a &&& 2147483647 = a := by
  have := Nat.and_two_pow_sub_one_eq_mod a 31
  rw [show (2147483647 : Nat) = 2 ^ 31 - 1 from rfl, this]
  omega
theorem cut_bit (a j : Nat) : (a &&& 2147483647).testBit j = (decide (j < 31) && a.testBit j) := by
  rw [show (2147483647 : Nat) = 2 ^ 31 - 1 from rfl, Nat.and_two_pow_sub_one_eq_mod, Nat.testBit_mod_two_pow]
theorem cut_lt (a : Nat) : a &&& 2147483647 < 2147483648 := by
  have : a &&& 2147483647 ≤ 2147483647 := Nat.and_le_right
  omega
/-- The lowest bit. -/
theorem lowest : ∀ (a : Nat), a ≠ 0 → ∃ k m, a = 2 ^ k * (2 * m + 1) := by
  intro a
  induction a using Nat.strongRecOn with
  | _ a ih =>
    intro h
    by_cases h2 : a % 2 = 1
    · exact ⟨0, a / 2, by omega⟩
    · obtain ⟨k, m, e⟩ := ih (a / 2) (by omega) (by omega)
      refine ⟨k + 1, m, ?_⟩
      rw [Nat.pow_succ, Nat.mul_assoc, Nat.mul_comm 2, ← Nat.mul_assoc, ← e]
      omega
theorem low_bits {a k m : Nat} (e : a = 2 ^ k * (2 * m + 1)) : (∀ j, j < k → a.testBit j = false) ∧ a.testBit k = true := by
  have e2 : a = 2 ^ (k + 1) * m + 2 ^ k := by rw [e, Nat.pow_succ, Nat.mul_add, Nat.mul_one, Nat.mul_assoc]
  have hk : (2 : Nat) ^ k < 2 ^ (k + 1) := Nat.pow_lt_pow_right (by omega) (by omega)
  constructor
  · intro j hj
    rw [e2, Nat.testBit_two_pow_mul_add _ hk, if_pos (by omega), Nat.testBit_two_pow]
    simp; omega
  · rw [e2, Nat.testBit_two_pow_mul_add _ hk, if_pos (by omega), Nat.testBit_two_pow]
    simp
theorem low_and {a k m : Nat} (ha : a < 4294967296) (e : a = 2 ^ k * (2 * m + 1)) : a &&& (4294967296 - a) = 2 ^ k := by
  have hp := Nat.two_pow_pos k
  have e2 : a = 2 ^ (k + 1) * m + 2 ^ k := by rw [e, Nat.pow_succ, Nat.mul_add, Nat.mul_one, Nat.mul_assoc]
  have hk : (2 : Nat) ^ k < 2 ^ (k + 1) := Nat.pow_lt_pow_right (by omega) (by omega)
  have e3 : a - 1 = 2 ^ (k + 1) * m + (2 ^ k - 1) := by omega
  have hk2 : (2 : Nat) ^ k - 1 < 2 ^ (k + 1) := by omega
  have ha0 : 0 < a := by omega
  apply Nat.eq_of_testBit_eq
  intro j
  rw [show 4294967296 - a = 2 ^ 32 - (a - 1 + 1) by omega, Nat.testBit_and, Nat.testBit_two_pow_sub_succ (by omega), Nat.testBit_two_pow]
  by_cases hj : j < 32
  · rw [e3]
    conv => lhs; rw [e2]
    rw [Nat.testBit_two_pow_mul_add _ hk, Nat.testBit_two_pow_mul_add _ hk2]
    by_cases h1 : j < k + 1
    · rw [if_pos h1, if_pos h1, Nat.testBit_two_pow, Nat.testBit_two_pow_sub_one]
      by_cases h2 : k = j
      · subst h2; simp [hj]
      · have : j < k := by omega
        simp [h2, this]
    · rw [if_neg h1, if_neg h1]
      have : ¬ k = j := by omega
      simp [this]
      intro h _; exact h
  · rw [bit_hi (show a < 2 ^ 32 by omega) (by omega)]
    have : ¬ k = j := by
      intro h
      have h1 : (2 : Nat) ^ 32 ≤ 2 ^ k := Nat.pow_le_pow_right (by omega) (by omega)
      have h2 : 2 ^ k ≤ a := by rw [e2]; exact Nat.le_add_left ..
      omega
    simp [this]
theorem low_lt {a k m w : Nat} (ha : a < 2 ^ w) (e : a = 2 ^ k * (2 * m + 1)) : k < w := by
  have h1 := (low_bits e).2
  apply Classical.byContradiction
  intro h
  rw [bit_hi ha (by omega)] at h1
  cases h1
theorem bits_zero {a : Nat} (h : ∀ j, a.testBit j = false) : a = 0 := by
  apply Nat.eq_of_testBit_eq
  intro j
  rw [h j, Nat.zero_testBit]

theorem One_eq (k : Nat) (h : k < 31) : sigset_One.f ((k + 1 : Nat) : Int) = some ((2 ^ k : Nat) : Int) := by
  have : ∀ q : Fin 31, sigset_One.f ((q.val + 1 : Nat) : Int) = some ((2 ^ q.val : Nat) : Int) := by decide +kernel
  exact this ⟨k, h⟩
theorem pw_lt {k : Nat} (h : k < 31) : (2 : Nat) ^ k < 2147483648 := by
  have : (2 : Nat) ^ k < 2 ^ 31 := Nat.pow_lt_pow_right (by omega) h
  omega
theorem and_pw (p k : Nat) : (((p &&& 2 ^ k : Nat) : Int) != 0) = p.testBit k := by
  cases h : p.testBit k with
  | true =>
    have : p &&& 2 ^ k ≠ 0 := by
      intro h2
      have h3 := congrArg (Nat.testBit · k) h2
      simp [h] at h3
    rw [bne_iff_ne]
    omega
  | false =>
    have : p &&& 2 ^ k = 0 := by
      apply bits_zero
      intro j
      rw [Nat.testBit_and, Nat.testBit_two_pow]
      by_cases hj : k = j
      · subst hj; simp [h]
      · simp [hj]
    rw [this]
    rfl
theorem Has_eq {p : Nat} (hp : p < 4294967296) {k : Nat} (h : k < 31) : sigset_Has.f (p : Int) ((k + 1 : Nat) : Int) = some (p.testBit k) := by
  have := pw_lt h
  unfold sigset_Has.f
  rw [One_eq k h, bind_go, b_and p (2 ^ k) hp (by omega)]
  rw [and_pw]
theorem Add_eq {p : Nat} (hp : p < 4294967296) {k : Nat} (h : k < 31) : sigset_Add.f (p : Int) ((k + 1 : Nat) : Int) = some (((p &&& 2147483647) ||| 2 ^ k : Nat) : Int) := by
  have := pw_lt h; have := cut_lt p
  unfold sigset_Add.f
  rw [One_eq k h, bind_go, show bits .and .u32 (p : Int) 2147483647 = ((p &&& 2147483647 : Nat) : Int) from b_and p 2147483647 hp (by omega), b_or _ _ (by omega) (by omega)]
theorem Del_eq {p : Nat} (hp : p < 4294967296) {k : Nat} (h : k < 31) : sigset_Del.f (p : Int) ((k + 1 : Nat) : Int) = some ((less (p &&& 2147483647) (2 ^ k) : Nat) : Int) := by
  have := pw_lt h; have := cut_lt p
  unfold sigset_Del.f
  rw [One_eq k h, bind_go, show bits .and .u32 (p : Int) 2147483647 = ((p &&& 2147483647 : Nat) : Int) from b_and p 2147483647 hp (by omega), b_andNot _ _ (by omega) (by omega)]
theorem tz_eq {a k m : Nat} (ha : a < 4294967296) (h0 : a ≠ 0) (e : a = 2 ^ k * (2 * m + 1)) : math_bits_TrailingZeros32.f (a : Int) = some (k : Int) := by
  have hk : k < 32 := low_lt (w := 32) (by omega) e
  unfold math_bits_TrailingZeros32.f
  rw [if_neg (by omega)]
  have e1 : IntKind.wrap .u32 (0 - (a : Int)) = ((4294967296 - a : Nat) : Int) := by rw [wu32]; omega
  rw [e1, b_and a (4294967296 - a) ha (by omega), low_and ha e]
  have : ∀ q : Fin 32, (if 0 ≤ (shr .u32 (IntKind.wrap .u32 (((2 ^ q.val : Nat) : Int) * (125613361 : Int))) (27 : Int)) ∧ (shr .u32 (IntKind.wrap .u32 (((2 ^ q.val : Nat) : Int) * (125613361 : Int))) (27 : Int)) < ((32 : Nat) : Int) then some (IntKind.wrap .i64 ((List.getD tab1 (Int.toNat (shr .u32 (IntKind.wrap .u32 (((2 ^ q.val : Nat) : Int) * (125613361 : Int))) (27 : Int))) (0 : Int)))) else none) = some (q.val : Int) := by decide +kernel
  exact this ⟨k, hk⟩
theorem First_eq {a : Nat} (ha : a < 2147483648) : (a = 0 ∧ sigset_First.f (a : Int) = some 0) ∨ (∃ k, k < 31 ∧ a.testBit k = true ∧ (∀ j, j < k → a.testBit j = false) ∧ sigset_First.f (a : Int) = some ((k + 1 : Nat) : Int)) := by
  by_cases h0 : a = 0
  · left; subst h0; exact ⟨rfl, by decide +kernel⟩
  · right
    obtain ⟨k, m, e⟩ := lowest a h0
    have hk : k < 31 := low_lt (w := 31) (by omega) e
    refine ⟨k, hk, (low_bits e).2, (low_bits e).1, ?_⟩
    unfold sigset_First.f
    rw [show bits .and .u32 (a : Int) 2147483647 = ((a &&& 2147483647 : Nat) : Int) from b_and a 2147483647 (by omega) (by omega), cut_eq ha, if_neg (by omega), tz_eq (by omega) h0 e, bind_go, wsucc (by omega)]
/-- What comes next. -/
inductive Nx (p b : Nat) : Int → Prop where
  | kill : p.testBit 8 = true → Nx p b 9
  | stop : p.testBit 8 = false → p.testBit 18 = true → Nx p b 19
  | other (k : Nat) : p.testBit 8 = false → p.testBit 18 = false → k < 31 → p.testBit k = true → b.testBit k = false → (∀ j, j < k → p.testBit j = true → b.testBit j = true) → Nx p b ((k + 1 : Nat) : Int)
  | none : p.testBit 8 = false → p.testBit 18 = false → less p b = 0 → Nx p b 0
theorem fuelS (n : Nat) : FUEL = 18446744073709551615 + 1 := rfl
theorem Next_eq {p b : Nat} (hp : p < 2147483648) (hb : b < 4294967296) (acts : List Int) : ∃ n, sig_Next.f (p : Int) (b : Int) acts = some n ∧ Nx p b n := by
  have h9 : sigset_Has.f (p : Int) 9 = some (p.testBit 8) := Has_eq (by omega) (k := 8) (by omega)
  have h19 : sigset_Has.f (p : Int) 19 = some (p.testBit 18) := Has_eq (by omega) (k := 18) (by omega)
  have s1 : ∀ n, sig_Next.l0 (p : Int) (b : Int) acts (n + 1) 0 = (if p.testBit 8 = true then some (.inr 9) else sig_Next.l0 (p : Int) (b : Int) acts n 1) := by
    intro n
    rw [sig_Next.l0, if_pos (by decide), if_pos (by decide), show List.getD [(9 : Int), 19] (Int.toNat 0) 0 = 9 from rfl, h9, bind_go]
    rfl
  have s2 : ∀ n, sig_Next.l0 (p : Int) (b : Int) acts (n + 1) 1 = (if p.testBit 18 = true then some (.inr 19) else sig_Next.l0 (p : Int) (b : Int) acts n 2) := by
    intro n
    rw [sig_Next.l0, if_pos (by decide), if_pos (by decide), show List.getD [(9 : Int), 19] (Int.toNat 1) 0 = 19 from rfl, h19, bind_go]
    rfl
  have s3 : ∀ n, sig_Next.l0 (p : Int) (b : Int) acts (n + 1) 2 = some (.inl ()) := by
    intro n
    rw [sig_Next.l0, if_neg (by decide)]
  have hl := less_le p b
  unfold sig_Next.f
  rw [show FUEL = 18446744073709551613 + 1 + 1 + 1 from rfl, s1]
  cases e8 : p.testBit 8 with
  | true => exact ⟨9, by rw [if_pos rfl, bind_go], .kill e8⟩
  | false =>
    rw [if_neg (by simp), s2]
    cases e18 : p.testBit 18 with
    | true => exact ⟨19, by rw [if_pos rfl, bind_go], .stop e8 e18⟩
    | false =>
      rw [if_neg (by simp), s3, bind_go]
      dsimp only
      rw [b_andNot p b (by omega) hb]
      rcases First_eq (a := less p b) (by omega) with ⟨h, hf⟩ | ⟨k, hk, h1, h2, hf⟩
      · exact ⟨0, by rw [hf, bind_go], .none e8 e18 h⟩
      · rw [less_bit (by omega) hb] at h1
        simp at h1
        refine ⟨_, by rw [hf, bind_go], .other k e8 e18 hk h1.1 h1.2 fun j hj hpj => ?_⟩
        have := h2 j hj
        rw [less_bit (by omega) hb, hpj] at this
        simpa using this
theorem sure_eq : halterlaw25_sure.f = some true := by kernel_rfl
theorem signal_eq (n : Int) : sig_signal.f n = some (decide (1 ≤ n ∧ n ≤ 31)) := by
  unfold sig_signal.f
  by_cases h : n ≥ 1
  · rw [if_pos h]; congr 1; exact decide_eq_decide.2 ⟨fun h2 => ⟨h, h2⟩, fun h2 => h2.2⟩
  · rw [if_neg h]; congr 1; simp; omega
theorem mask_bit (j : Nat) : (262400 : Nat).testBit j = decide (j = 8 ∨ j = 18) := by
  rw [show (262400 : Nat) = 2 ^ 8 ||| 2 ^ 18 from rfl, Nat.testBit_or, Nat.testBit_two_pow, Nat.testBit_two_pow]
  simp [eq_comm]
theorem mask_zero {b : Nat} : b &&& 262400 = 0 ↔ b.testBit 8 = false ∧ b.testBit 18 = false := by
  constructor
  · intro h
    have h1 := congrArg (Nat.testBit · 8) h
    have h2 := congrArg (Nat.testBit · 18) h
    simp only [Nat.testBit_and, mask_bit, Nat.zero_testBit] at h1 h2
    exact ⟨by simpa using h1, by simpa using h2⟩
  · rintro ⟨h1, h2⟩
    apply bits_zero
    intro j
    rw [Nat.testBit_and, mask_bit]
    by_cases h3 : j = 8
    · subst h3; simp [h1]
    · by_cases h4 : j = 18
      · subst h4; simp [h2]
      · simp [h3, h4]
/-- The state is one that may be. -/
def may (p b : Nat) (acts : List Int) : Prop := b.testBit 8 = false ∧ b.testBit 18 = false ∧ acts.getD 0 0 = 0 ∧ acts.getD 9 0 = 0 ∧ acts.getD 19 0 = 0 ∧ p < 2147483648 ∧ b < 2147483648
instance (p b : Nat) (acts : List Int) : Decidable (may p b acts) := by unfold may; exact inferInstance
theorem Check_eq {p b : Nat} (hb : b < 4294967296) (acts : List Int) : sig_Check.f (p : Int) (b : Int) acts = some (if may p b acts then none else some 22) := by
  have h := mask_zero (b := b)
  unfold sig_Check.f
  rw [show bits .and .u32 (b : Int) 262400 = ((b &&& 262400 : Nat) : Int) from b_and b 262400 (by omega) (by omega)]
  by_cases hm : may p b acts
  · obtain ⟨h1, h2, h3, h4, h5, h6, h7⟩ := hm
    rw [if_pos (show may p b acts from ⟨h1, h2, h3, h4, h5, h6, h7⟩)]
    rw [if_neg (by rw [h.2 ⟨h1, h2⟩]; simp), if_neg (by simpa using h3), if_neg (by simpa using h4), if_neg (by simpa using h5), if_neg (by omega), if_neg (by omega)]
  · rw [if_neg hm]
    by_cases h1 : b &&& 262400 = 0
    · rw [if_neg (by rw [h1]; simp)]
      by_cases h3 : acts.getD 0 0 = 0
      · rw [if_neg (by simpa using h3)]
        by_cases h4 : acts.getD 9 0 = 0
        · rw [if_neg (by simpa using h4)]
          by_cases h5 : acts.getD 19 0 = 0
          · rw [if_neg (by simpa using h5)]
            by_cases h6 : (p : Int) > 2147483647
            · rw [if_pos h6]
            · rw [if_neg h6]
              by_cases h7 : (b : Int) > 2147483647
              · rw [if_pos h7]
              · exact absurd ⟨(h.1 h1).1, (h.1 h1).2, h3, h4, h5, by omega, by omega⟩ hm
          · rw [if_pos h5]
        · rw [if_pos h4]
      · rw [if_pos h3]
    · rw [if_pos (by omega)]

def plainS (n : Int) : Int := if n = 17 then 0 else if n = 18 then 3 else if n = 19 then 2 else if n = 20 then 2 else 1
theorem plain_eq (n : Int) : sig_plain.f n = some (plainS n) := by
  unfold sig_plain.f plainS
  repeat' split
  all_goals rfl
/-- What a signal does. -/
def whatS (acts : List Int) (n : Int) : Int :=
  if 1 ≤ n ∧ n ≤ 31 then (if n = 9 then 1 else if n = 19 then 2 else if acts.getD n.toNat 0 = 0 then plainS n else if acts.getD n.toNat 0 > 1 then 4 else if n = 18 then 3 else 0) else 0
theorem What_eq (p b : Int) (acts : List Int) (n : Int) : sig_What.f p b acts n = some (whatS acts n) := by
  unfold sig_What.f whatS
  rw [signal_eq, bind_go]
  by_cases h : 1 ≤ n ∧ n ≤ 31
  · rw [if_neg (by simpa using h), if_pos h]
    have h1 : 0 ≤ n ∧ n < ((32 : Nat) : Int) := by omega
    have h2 : n.toNat < 32 := by omega
    simp only [plain_eq, bind_go, if_pos h1, if_pos h2]
    by_cases h9 : n = 9
    · subst h9; rfl
    rw [if_neg h9, if_neg h9]
    by_cases h19 : n = 19
    · subst h19; rfl
    rw [if_neg h19, if_neg h19]
    repeat' split
    all_goals rfl
  · rw [if_pos (by simpa using h), if_neg h]
def agN (n : Int) : Nat := if n = 18 then 786432 else if n = 19 then 131072 else if n = 20 then 131072 else 0
theorem ag_eq (n : Int) : sig_against.f n = some ((agN n : Nat) : Int) := by
  unfold sig_against.f agN
  by_cases h1 : n = 18
  · rw [if_pos h1, if_pos h1]; decide +kernel
  rw [if_neg h1, if_neg h1]
  by_cases h2 : n = 19
  · rw [if_pos h2, if_pos h2]; decide +kernel
  rw [if_neg h2, if_neg h2]
  by_cases h3 : n = 20
  · rw [if_pos h3, if_pos h3]; decide +kernel
  rw [if_neg h3, if_neg h3]
  rfl
theorem ag_lt (n : Int) : agN n < 2147483648 := by
  unfold agN
  repeat' split
  all_goals omega
/-- What waits when a signal is posted. -/
def postS (p b : Nat) (acts : List Int) (k : Nat) : Nat :=
  if b.testBit k = true ∨ whatS acts ((k + 1 : Nat) : Int) ≠ 0 then less p (agN ((k + 1 : Nat) : Int)) ||| 2 ^ k else less p (agN ((k + 1 : Nat) : Int))
theorem postS_lt {p : Nat} (hp : p < 2147483648) (b : Nat) (acts : List Int) {k : Nat} (hk : k < 31) : postS p b acts k < 2147483648 := by
  have := less_le p (agN ((k + 1 : Nat) : Int))
  have := pw_lt hk
  unfold postS
  split
  · exact Nat.or_lt_two_pow (n := 31) (by omega) (by omega)
  · omega
theorem Post_eq {p b : Nat} (hb : b < 4294967296) (acts : List Int) {k : Nat} (hk : k < 31) : sig_Post.f (p : Int) (b : Int) acts ((k + 1 : Nat) : Int) = some (if may p b acts then ((postS p b acts k : Int), (b : Int), acts, none) else (0, 0, List.replicate 32 0, some 22)) := by
  unfold sig_Post.f
  rw [Check_eq hb, bind_go, signal_eq]
  by_cases hm : may p b acts
  · rw [if_pos hm, if_pos hm, if_neg (by simp), bind_go, if_neg (by simp; omega), ag_eq, bind_go, Has_eq hb hk, bind_go]
    obtain ⟨h1, h2, h3, h4, h5, h6, h7⟩ := hm
    have hl := less_le p (agN ((k + 1 : Nat) : Int))
    have hg := ag_lt ((k + 1 : Nat) : Int)
    rw [b_andNot _ _ (by omega) (by omega), Add_eq (by omega) hk, What_eq, bind_go, bind_go, cut_eq (by omega)]
    unfold postS
    cases hbt : b.testBit k with
    | true => rw [if_pos rfl, if_pos (.inl rfl)]
    | false =>
      rw [if_neg (by simp)]
      by_cases hw : whatS acts ((k + 1 : Nat) : Int) = 0
      · rw [if_neg (by simpa using hw), if_neg (by simpa using hw)]
      · rw [if_pos hw, if_pos (.inr hw)]
  · rw [if_neg hm, if_neg hm, if_pos (by simp)]
theorem Take_eq {p : Nat} (hp : p < 2147483648) (b : Int) (acts : List Int) {k : Nat} (hk : k < 31) : sig_Take.f (p : Int) b acts ((k + 1 : Nat) : Int) = some (((less p (2 ^ k) : Nat) : Int), b, acts) := by
  unfold sig_Take.f
  rw [Del_eq (by omega) hk, bind_go, cut_eq hp]

/-- The signals of a set. -/
def els (f : Nat → Bool) : Nat → Nat → List Int
  | 0, _ => []
  | d + 1, i => (if f i = true then [((i + 1 : Nat) : Int)] else []) ++ els f d (i + 1)
theorem els_len (f : Nat → Bool) : ∀ d i, (els f d i).length ≤ d
  | 0, _ => by simp [els]
  | d + 1, i => by
    have := els_len f d (i + 1)
    unfold els
    split <;> simp <;> omega
theorem els_mem (f : Nat → Bool) (z : Int) : ∀ d i, z ∈ els f d i ↔ ∃ k, i ≤ k ∧ k < i + d ∧ f k = true ∧ z = ((k + 1 : Nat) : Int)
  | 0, i => by simp [els]; intro k h1 h2; omega
  | d + 1, i => by
    unfold els
    rw [List.mem_append, els_mem f z d (i + 1)]
    constructor
    · rintro (h | ⟨k, h1, h2, h3, h4⟩)
      · split at h
        · rename_i hf
          exact ⟨i, by omega, by omega, hf, by simpa using h⟩
        · cases h
      · exact ⟨k, by omega, by omega, h3, h4⟩
    · rintro ⟨k, h1, h2, h3, h4⟩
      by_cases hk : k = i
      · subst hk; left; rw [if_pos h3]; simpa using h4
      · right; exact ⟨k, by omega, by omega, h3, h4⟩
theorem els_mem31 (f : Nat → Bool) (k : Nat) (hk : k < 31) : ((k + 1 : Nat) : Int) ∈ els f 31 0 ↔ f k = true := by
  rw [els_mem]
  constructor
  · rintro ⟨j, h1, h2, h3, h4⟩
    have : j = k := by omega
    rw [← this]; exact h3
  · intro h
    exact ⟨k, by omega, by omega, h, rfl⟩
theorem ListL (p : Nat) (hp : p < 4294967296) : ∀ (d i n : Nat) (x : List Int), i + d = 31 → d < n → x.length ≤ i → halterref03_List.l0 n x ((p / 2 ^ i : Nat) : Int) ((i + 1 : Nat) : Int) = some (x ++ els p.testBit d i)
  | d, i, 0, x, h, hn, hx => by omega
  | 0, i, n + 1, x, h, hn, hx => by
    rw [halterref03_List.l0, if_neg (by omega)]
    simp [els]
  | d + 1, i, n + 1, x, h, hn, hx => by
    have hq : p / 2 ^ i ≤ p := Nat.div_le_self ..
    have hq0 : (0 : Int) ≤ ((p / 2 ^ i : Nat) : Int) := Int.natCast_nonneg _
    have e1 : IntKind.wrap .u32 (Int.tdiv ((p / 2 ^ i : Nat) : Int) 2) = ((p / 2 ^ (i + 1) : Nat) : Int) := by
      rw [Nat.pow_succ, ← Nat.div_div_eq_div_mul, Int.tdiv_eq_ediv_of_nonneg hq0, wu32]
      generalize p / 2 ^ i = q at *
      omega
    have e2 : Int.tmod ((p / 2 ^ i : Nat) : Int) 2 = 1 ↔ p.testBit i = true := by
      rw [Int.tmod_eq_emod_of_nonneg hq0, Nat.testBit_eq_decide_div_mod_eq, decide_eq_true_eq]
      generalize p / 2 ^ i = q
      omega
    have e3 : IntKind.wrap .i64 (((i + 1 : Nat) : Int) + 1) = ((i + 1 + 1 : Nat) : Int) := wsucc (by omega)
    rw [halterref03_List.l0, if_pos (by omega), e1, e3]
    have ih := fun y hy => ListL p hp d (i + 1) n y (by omega) (by omega) hy
    clear e1 e3
    unfold els
    by_cases hb : p.testBit i = true
    · rw [if_pos (e2.2 hb), if_pos (⟨⟨rfl, rfl⟩, rfl, rfl, by omega, by omega⟩), ih _ (by simp; omega), if_pos hb, List.append_assoc]
    · rw [if_neg (fun h => hb (e2.1 h)), ih _ (by omega), if_neg hb, List.nil_append]
theorem List_eq {p : Nat} (hp : p < 4294967296) : halterref03_List.f (p : Int) = some (els p.testBit 31 0) := by
  have := ListL p hp 31 0 FUEL [] (by omega) (fuel_gt (by omega)) (by simp)
  unfold halterref03_List.f
  rw [show (p / 2 ^ 0 : Nat) = p by simp] at this
  rw [show halterref03_List.l0 FUEL [] (p : Int) 1 = _ from this, bind_go, List.nil_append]
theorem HasL (l : List Int) (z : Int) (hl : l.length < 1000) : ∀ (d i n : Nat), l.length - i = d → i ≤ l.length → d < n → halterref03_Has.l0 l z n (i : Int) = some (if z ∈ l.drop i then .inr () else .inl ())
  | d, i, 0, hd, hi, hn => by omega
  | 0, i, n + 1, hd, hi, hn => by
    rw [halterref03_Has.l0, if_neg (by omega), List.drop_eq_nil_of_le (by omega), if_neg (by simp)]
  | d + 1, i, n + 1, hd, hi, hn => by
    rw [halterref03_Has.l0, if_pos (by omega), if_pos (by omega), toNat_nat, Nat.zero_add, if_pos (by omega), wsucc (by omega), HasL l z hl d (i + 1) n (by omega) (by omega) (by omega), drop_getD l i 0 (by omega)]
    by_cases h : l.getD i 0 = z
    · rw [if_pos h, if_pos (by rw [h]; exact List.mem_cons_self)]
    · rw [if_neg h]
      congr 1
      by_cases h2 : z ∈ l.drop (i + 1)
      · rw [if_pos h2, if_pos (List.mem_cons_of_mem _ h2)]
      · rw [if_neg h2, if_neg (by rw [List.mem_cons]; rintro (h3 | h3); exact h h3.symm; exact h2 h3)]
theorem RHas_eq {p : Nat} (hp : p < 4294967296) {k : Nat} (hk : k < 31) : halterref03_Has.f (p : Int) ((k + 1 : Nat) : Int) = some (p.testBit k) := by
  have hl := els_len p.testBit 31 0
  unfold halterref03_Has.f
  rw [List_eq hp, bind_go, show halterref03_Has.l0 (els p.testBit 31 0) ((k + 1 : Nat) : Int) FUEL 0 = _ from HasL _ _ (by omega) _ 0 FUEL rfl (by omega) (fuel_gt (by omega)), bind_go, List.drop_zero]
  cases h : p.testBit k with
  | true => rw [if_pos ((els_mem31 _ k hk).2 h)]
  | false => rw [if_neg (fun h2 => by rw [els_mem31 _ k hk, h] at h2; cases h2)]
theorem OfL1 (v : Int) (l : List Int) (hl : l.length < 1000) (s : Nat) (hs : s < 4294967295) : ∀ (d i n : Nat), l.length - i = d → i ≤ l.length → d < n → halterref03_Of.l1 v l n (s : Int) (i : Int) = some (((s + if v ∈ l.drop i then 1 else 0 : Nat)) : Int)
  | d, i, 0, hd, hi, hn => by omega
  | 0, i, n + 1, hd, hi, hn => by
    rw [halterref03_Of.l1, if_neg (by omega), List.drop_eq_nil_of_le (by omega), if_neg (by simp), Nat.add_zero]
  | d + 1, i, n + 1, hd, hi, hn => by
    rw [halterref03_Of.l1, if_pos (by omega), if_pos (by omega), toNat_nat, wsucc (by omega), OfL1 v l hl s hs d (i + 1) n (by omega) (by omega) (by omega), drop_getD l i 0 (by omega)]
    by_cases h : l.getD i 0 = v
    · rw [if_pos h, if_pos (by rw [h]; exact List.mem_cons_self), wu32]
      congr 1; omega
    · rw [if_neg h]
      by_cases h2 : v ∈ l.drop (i + 1)
      · rw [if_pos h2, if_pos (List.mem_cons_of_mem _ h2)]
      · rw [if_neg h2, if_neg (by rw [List.mem_cons]; rintro (h3 | h3); exact h h3.symm; exact h2 h3)]
theorem OfL0 (l : List Int) (hl : l.length < 1000) : ∀ (m n s : Nat), m ≤ 31 → m < n → s < 2 ^ (31 - m) → (∀ k, k < 31 - m → s.testBit k = decide (((m + k + 1 : Nat) : Int) ∈ l)) → ∃ r : Nat, r < 2147483648 ∧ (∀ k, k < 31 → r.testBit k = decide (((k + 1 : Nat) : Int) ∈ l)) ∧ halterref03_Of.l0 l n (s : Int) (m : Int) = some (r : Int)
  | m, 0, s, hm, hn, hs, hb => by omega
  | 0, n + 1, s, hm, hn, hs, hb => by
    refine ⟨s, hs, fun k hk => ?_, ?_⟩
    · rw [hb k hk, Nat.zero_add]
    · rw [halterref03_Of.l0, if_neg (by omega)]
  | m + 1, n + 1, s, hm, hn, hs, hb => by
    have hs2 : (2 : Nat) ^ (31 - (m + 1)) ≤ 2 ^ 30 := Nat.pow_le_pow_right (by omega) (by omega)
    have e1 : IntKind.wrap .u32 ((2 : Int) * (s : Int)) = ((2 * s : Nat) : Int) := by rw [wu32]; omega
    have e2 : IntKind.wrap .i64 (((m + 1 : Nat) : Int) - 1) = (m : Int) := by rw [wi64 (by omega) (by omega)]; omega
    have hp : (2 : Nat) ^ (31 - m) = 2 * 2 ^ (31 - (m + 1)) := by
      rw [show 31 - m = 31 - (m + 1) + 1 by omega, Nat.pow_succ]; omega
    obtain ⟨r, h1, h2, h3⟩ := OfL0 l hl m n (2 * s + if ((m + 1 : Nat) : Int) ∈ l then 1 else 0) (by omega) (by omega) (by split <;> omega) (fun k hk => by
      cases k with
      | zero =>
        rw [Nat.testBit_zero]
        by_cases h : ((m + 1 : Nat) : Int) ∈ l
        · rw [if_pos h, show m + 0 + 1 = m + 1 from rfl, decide_eq_true h, decide_eq_true (by omega)]
        · rw [if_neg h, show m + 0 + 1 = m + 1 from rfl, decide_eq_false h, decide_eq_false (by omega)]
      | succ k =>
        rw [Nat.testBit_succ, show (2 * s + if ((m + 1 : Nat) : Int) ∈ l then 1 else 0) / 2 = s by split <;> omega, hb k (by omega), show m + 1 + k + 1 = m + (k + 1) + 1 by omega])
    refine ⟨r, h1, h2, ?_⟩
    rw [halterref03_Of.l0, if_pos (by omega), e1, e2, show halterref03_Of.l1 ((m + 1 : Nat) : Int) l FUEL ((2 * s : Nat) : Int) 0 = _ from OfL1 _ l hl (2 * s) (by omega) _ 0 FUEL rfl (by omega) (fuel_gt (by omega)), bind_go, List.drop_zero]
    exact h3
theorem Of_eq (l : List Int) (hl : l.length < 1000) : ∃ r : Nat, r < 2147483648 ∧ (∀ k, k < 31 → r.testBit k = decide (((k + 1 : Nat) : Int) ∈ l)) ∧ halterref03_Of.f l = some (r : Int) := by
  obtain ⟨r, h1, h2, h3⟩ := OfL0 l hl 31 FUEL 0 (by omega) (fuel_gt (by omega)) (by decide) (fun k hk => by omega)
  refine ⟨r, h1, h2, ?_⟩
  unfold halterref03_Of.f
  rw [show halterref03_Of.l0 l FUEL 0 31 = _ from h3, bind_go]
theorem ext31 {a b : Nat} (ha : a < 2147483648) (hb : b < 2147483648) (h : ∀ k, k < 31 → a.testBit k = b.testBit k) : a = b := by
  apply Nat.eq_of_testBit_eq
  intro j
  by_cases hj : j < 31
  · exact h j hj
  · rw [bit_hi (show a < 2 ^ 31 from ha) (by omega), bit_hi (show b < 2 ^ 31 from hb) (by omega)]
theorem DelL (l : List Int) (z : Int) (hl : l.length < 1000) : ∀ (d i n : Nat) (x : List Int), l.length - i = d → i ≤ l.length → d < n → x.length ≤ i → halterref03_Del.l0 l z n x (i : Int) = some (x ++ (l.drop i).filter (fun y => decide (y ≠ z)))
  | d, i, 0, x, hd, hi, hn, hx => by omega
  | 0, i, n + 1, x, hd, hi, hn, hx => by
    rw [halterref03_Del.l0, if_neg (by omega), List.drop_eq_nil_of_le (by omega)]
    simp
  | d + 1, i, n + 1, x, hd, hi, hn, hx => by
    have ih := fun y hy => DelL l z hl d (i + 1) n y (by omega) (by omega) (by omega) hy
    rw [halterref03_Del.l0, if_pos (by omega), if_pos (by omega), toNat_nat, Nat.zero_add, if_pos (by omega), wsucc (by omega), drop_getD l i 0 (by omega), List.filter_cons]
    by_cases h : l.getD i 0 = z
    · rw [if_neg (fun h2 => h2 h), ih _ (by omega), if_neg (by simpa using h)]
    · rw [if_pos h, if_pos (by omega), if_pos (by omega), if_pos (⟨⟨rfl, rfl⟩, rfl, rfl, by omega, by omega⟩), ih _ (by simp; omega), if_pos (by simpa using h), List.append_assoc]
      rfl
theorem RDel (p : Nat) (hp : p < 4294967296) (z : Int) : ∃ r : Nat, r < 2147483648 ∧ (∀ k, k < 31 → r.testBit k = (p.testBit k && decide (((k + 1 : Nat) : Int) ≠ z))) ∧ halterref03_Del.f (p : Int) z = some (r : Int) := by
  have hl := els_len p.testBit 31 0
  obtain ⟨r, h1, h2, h3⟩ := Of_eq ((els p.testBit 31 0).filter (fun y => decide (y ≠ z))) (Nat.lt_of_le_of_lt (List.length_filter_le _ _) (by omega))
  refine ⟨r, h1, fun k hk => ?_, ?_⟩
  · rw [h2 k hk, Bool.eq_iff_iff]
    simp only [decide_eq_true_eq, List.mem_filter, Bool.and_eq_true]
    rw [els_mem31 _ k hk]
  · unfold halterref03_Del.f
    rw [List_eq hp, bind_go, show halterref03_Del.l0 (els p.testBit 31 0) z FUEL [] 0 = _ from DelL _ z (by omega) _ 0 FUEL [] rfl (by omega) (fuel_gt (by omega)) (by simp), bind_go, List.drop_zero, List.nil_append, h3, bind_go]
theorem RAdd (p : Nat) (hp : p < 4294967296) (z : Int) : ∃ r : Nat, r < 2147483648 ∧ (∀ k, k < 31 → r.testBit k = (p.testBit k || decide (((k + 1 : Nat) : Int) = z))) ∧ halterref03_Add.f (p : Int) z = some (r : Int) := by
  have hl := els_len p.testBit 31 0
  obtain ⟨r, h1, h2, h3⟩ := Of_eq (els p.testBit 31 0 ++ [z]) (by simp; omega)
  refine ⟨r, h1, fun k hk => ?_, ?_⟩
  · rw [h2 k hk, Bool.eq_iff_iff]
    simp only [decide_eq_true_eq, List.mem_append, List.mem_singleton, Bool.or_eq_true]
    rw [els_mem31 _ k hk]
  · unfold halterref03_Add.f
    rw [List_eq hp, bind_go, if_pos (⟨⟨rfl, rfl⟩, rfl, rfl, by omega, by omega⟩), h3, bind_go]
/-- One signal taken out: both ways. -/
theorem RDel_eq {p : Nat} (hp : p < 4294967296) {k : Nat} (hk : k < 31) : halterref03_Del.f (p : Int) ((k + 1 : Nat) : Int) = some ((less (p &&& 2147483647) (2 ^ k) : Nat) : Int) := by
  obtain ⟨r, h1, h2, h3⟩ := RDel p hp ((k + 1 : Nat) : Int)
  have hc := cut_lt p; have hpw := pw_lt hk
  have hle := less_le (p &&& 2147483647) (2 ^ k)
  rw [h3]
  congr 2
  refine ext31 h1 (by omega) fun j hj => ?_
  rw [h2 j hj, less_bit (by omega) (by omega), cut_bit, Nat.testBit_two_pow]
  by_cases e : j = k
  · subst e; simp
  · have : ¬ ((j + 1 : Nat) : Int) = ((k + 1 : Nat) : Int) := by omega
    simp only [ne_eq, this, not_false_eq_true, decide_true, Bool.and_true, hj, Bool.true_and]
    have : ¬ k = j := fun h => e h.symm
    simp [this]
theorem RAdd_eq {p : Nat} (hp : p < 4294967296) {k : Nat} (hk : k < 31) : halterref03_Add.f (p : Int) ((k + 1 : Nat) : Int) = some (((p &&& 2147483647) ||| 2 ^ k : Nat) : Int) := by
  obtain ⟨r, h1, h2, h3⟩ := RAdd p hp ((k + 1 : Nat) : Int)
  have hc := cut_lt p; have hpw := pw_lt hk
  rw [h3]
  congr 2
  refine ext31 h1 (Nat.or_lt_two_pow (n := 31) (by omega) (by omega)) fun j hj => ?_
  rw [h2 j hj, Nat.testBit_or, cut_bit, Nat.testBit_two_pow]
  by_cases e : j = k
  · subst e; simp
  · have : ¬ ((j + 1 : Nat) : Int) = ((k + 1 : Nat) : Int) := by omega
    simp only [this, decide_false, Bool.or_false, hj, decide_true, Bool.true_and]
    have : ¬ k = j := fun h => e h.symm
    simp [this]

theorem RMay_eq {p b : Nat} (hb : b < 4294967296) (acts : List Int) : halterref25_May.f (p : Int) (b : Int) acts = some (decide (may p b acts)) := by
  unfold halterref25_May.f
  rw [show halterref03_Has.f (b : Int) 9 = _ from RHas_eq hb (k := 8) (by omega), bind_go, show halterref03_Has.f (b : Int) 19 = _ from RHas_eq hb (k := 18) (by omega), bind_go]
  have bad : ¬ may p b acts → some false = some (decide (may p b acts)) := fun h => by rw [decide_eq_false h]
  cases h8 : b.testBit 8 with
  | true => rw [if_neg (by simp)]; exact bad (fun h => by have := h.1; rw [h8] at this; cases this)
  | false =>
    rw [if_pos (by simp)]
    cases h18 : b.testBit 18 with
    | true => rw [if_neg (by simp)]; exact bad (fun h => by have := h.2.1; rw [h18] at this; cases this)
    | false =>
      rw [if_pos (by simp)]
      by_cases h0 : acts.getD 0 0 = 0
      · rw [if_pos h0]
        by_cases h9 : acts.getD 9 0 = 0
        · rw [if_pos h9]
          by_cases h19 : acts.getD 19 0 = 0
          · rw [if_pos h19]
            by_cases hp : (p : Int) < 2147483648
            · rw [if_pos hp]
              by_cases hb2 : (b : Int) < 2147483648
              · rw [decide_eq_true hb2, decide_eq_true (show may p b acts from ⟨h8, h18, h0, h9, h19, by omega, by omega⟩)]
              · rw [decide_eq_false hb2]; exact bad (fun h => by have := h.2.2.2.2.2.2; omega)
            · rw [if_neg hp]; exact bad (fun h => by have := h.2.2.2.2.2.1; omega)
          · rw [if_neg h19]; exact bad (fun h => h19 h.2.2.2.2.1)
        · rw [if_neg h9]; exact bad (fun h => h9 h.2.2.2.1)
      · rw [if_neg h0]; exact bad (fun h => h0 h.2.2.1)
theorem whatS_nn (acts : List Int) (n : Int) : 0 ≤ whatS acts n := by
  unfold whatS plainS
  repeat' split
  all_goals omega
theorem RWhat_eq (p b : Int) (acts : List Int) (n : Int) (hnn : ∀ j, 0 ≤ acts.getD j 0) : halterref25_What.f p b acts n = some (whatS acts n) := by
  unfold halterref25_What.f whatS
  have hx := hnn n.toNat
  generalize acts.getD n.toNat 0 = x at *
  by_cases h1 : n < 1
  · rw [if_pos h1, if_neg (by omega)]
  rw [if_neg h1]
  by_cases h2 : n > 31
  · rw [if_pos h2, if_neg (by omega)]
  rw [if_neg h2, if_pos (by omega), if_pos (by omega), if_pos (show 1 ≤ n ∧ n ≤ 31 by omega)]
  unfold plainS
  by_cases h9 : n = 9
  · subst h9; rfl
  rw [if_neg h9, if_neg h9]
  by_cases h19 : n = 19
  · subst h19; rfl
  rw [if_neg h19, if_neg h19]
  by_cases hx1 : x > 1
  · rw [if_pos hx1, if_neg (by omega), if_pos hx1]
  rw [if_neg hx1, if_neg hx1]
  by_cases h18 : n = 18
  · rw [if_pos h18, if_pos h18, if_pos h18, if_neg (show ¬ n = 17 by omega)]
    split <;> rfl
  rw [if_neg h18, if_neg h18, if_neg h18]
  by_cases hx0 : x = 0
  · rw [if_neg (by omega), if_pos hx0]
    by_cases h17 : n = 17
    · rw [if_pos h17, if_pos h17]
    · rw [if_neg h17, if_neg h17, if_neg h19]
      split <;> rfl
  · rw [if_pos (by omega), if_neg hx0]
theorem against_18 {p : Nat} (hp : p < 2147483648) : less (less p (2 ^ 18)) (2 ^ 19) = less p 786432 := by
  have h1 := less_le p (2 ^ 18)
  have h2 := less_le (less p (2 ^ 18)) (2 ^ 19)
  have h3 := less_le p 786432
  refine ext31 (by omega) (by omega) fun j hj => ?_
  rw [less_bit (by omega) (by omega), less_bit (by omega) (by omega), less_bit (by omega) (by omega), show (786432 : Nat) = 2 ^ 18 ||| 2 ^ 19 from rfl, Nat.testBit_or]
  cases p.testBit j <;> cases (2 ^ 18 : Nat).testBit j <;> cases (2 ^ 19 : Nat).testBit j <;> rfl
theorem less_none {p : Nat} (hp : p < 2147483648) : less p 0 = p := by
  have h1 := less_le p 0
  refine ext31 (by omega) hp fun j hj => ?_
  rw [less_bit (by omega) (by omega)]
  simp
theorem RPost_eq {p b : Nat} (hb : b < 4294967296) (acts : List Int) (hnn : ∀ j, 0 ≤ acts.getD j 0) {k : Nat} (hk : k < 31) : halterref25_Post.f (p : Int) (b : Int) acts ((k + 1 : Nat) : Int) = some (if may p b acts then ((postS p b acts k : Int), (b : Int), acts, 0) else (0, 0, List.replicate 32 0, 22)) := by
  unfold halterref25_Post.f
  rw [RMay_eq hb, bind_go]
  by_cases hm : may p b acts
  · have hp := hm.2.2.2.2.2.1
    rw [if_pos hm, if_neg (by simpa using hm), if_neg (by omega), if_neg (by omega)]
    have hag : ∀ q : Nat, q < 2147483648 → q = less p (agN ((k + 1 : Nat) : Int)) → ((halterref03_Has.f (b : Int) ((k + 1 : Nat) : Int)).bind fun t10 => if t10 = true then (halterref03_Add.f (q : Int) ((k + 1 : Nat) : Int)).bind fun t12 => some (t12, (b : Int), acts, (0 : Int)) else (halterref25_What.f (q : Int) (b : Int) acts ((k + 1 : Nat) : Int)).bind fun t13 => if t13 > (0 : Int) then (halterref03_Add.f (q : Int) ((k + 1 : Nat) : Int)).bind fun t15 => some (t15, (b : Int), acts, (0 : Int)) else some ((q : Int), (b : Int), acts, (0 : Int))) = some ((postS p b acts k : Int), (b : Int), acts, 0) := by
      intro q hq e
      have hw := whatS_nn acts ((k + 1 : Nat) : Int)
      rw [RHas_eq hb hk, bind_go, RAdd_eq (by omega) hk, RWhat_eq _ _ _ _ hnn, bind_go, bind_go, cut_eq hq]
      unfold postS
      rw [← e]
      cases hbt : b.testBit k with
      | true => rw [if_pos rfl, if_pos (.inl rfl)]
      | false =>
        rw [if_neg (by simp)]
        by_cases hz : whatS acts ((k + 1 : Nat) : Int) = 0
        · rw [if_neg (by omega), if_neg (by simpa using hz)]
        · rw [if_pos (by omega), if_pos (.inr hz)]
    have d1 : ∀ q : Nat, q < 2147483648 → ∀ j, j < 31 → halterref03_Del.f (q : Int) ((j + 1 : Nat) : Int) = some ((less q (2 ^ j) : Nat) : Int) := fun q hq j hj => by rw [RDel_eq (by omega) hj, cut_eq hq]
    have l1 := less_le p (2 ^ 18)
    have l2 := less_le (less p (2 ^ 18)) (2 ^ 19)
    have l3 := less_le p (2 ^ 17)
    by_cases h18 : ((k + 1 : Nat) : Int) = 18
    · have := hag (less (less p (2 ^ 18)) (2 ^ 19)) (by omega) (by rw [against_18 hp]; unfold agN; rw [if_pos h18])
      rw [if_pos h18, show halterref03_Del.f (p : Int) 19 = _ from d1 p hp 18 (by omega), bind_go, show halterref03_Del.f ((less p (2 ^ 18) : Nat) : Int) 20 = _ from d1 _ (by omega) 19 (by omega), bind_go, if_neg (by omega), if_neg (by omega)]
      exact this
    rw [if_neg h18]
    by_cases h19 : ((k + 1 : Nat) : Int) = 19
    · have := hag (less p (2 ^ 17)) (by omega) (by unfold agN; rw [if_neg h18, if_pos h19])
      rw [if_pos h19, show halterref03_Del.f (p : Int) 18 = _ from d1 p hp 17 (by omega), bind_go]
      exact this
    rw [if_neg h19]
    by_cases h20 : ((k + 1 : Nat) : Int) = 20
    · have := hag (less p (2 ^ 17)) (by omega) (by unfold agN; rw [if_neg h18, if_neg h19, if_pos h20])
      rw [if_pos h20, show halterref03_Del.f (p : Int) 18 = _ from d1 p hp 17 (by omega), bind_go]
      exact this
    rw [if_neg h20]
    exact hag p hp (by unfold agN; rw [if_neg h18, if_neg h19, if_neg h20, less_none hp])
  · rw [if_neg hm, if_pos (by simpa using hm)]
theorem outN {n : Int} (h : ¬ (1 ≤ n ∧ n ≤ 31)) (p b : Nat) (hb : b < 4294967296) (acts : List Int) : sig_Post.f (p : Int) (b : Int) acts n = some (0, 0, List.replicate 32 0, some 22) ∧ halterref25_Post.f (p : Int) (b : Int) acts n = some (0, 0, List.replicate 32 0, 22) := by
  unfold sig_Post.f halterref25_Post.f
  rw [Check_eq hb, RMay_eq hb, bind_go, bind_go, signal_eq, bind_go]
  constructor
  · by_cases hm : may p b acts
    · rw [if_pos hm, if_neg (by simp), if_pos (by simpa using h)]
    · rw [if_neg hm, if_pos (by simp)]
  · by_cases hm : may p b acts
    · rw [if_neg (by simpa using hm)]
      by_cases h1 : n < 1
      · rw [if_pos h1]
      · rw [if_neg h1, if_pos (by omega)]
    · rw [if_pos (by simpa using hm)]
theorem Post_both {p b : Nat} (hb : b < 4294967296) (acts : List Int) (hnn : ∀ j, 0 ≤ acts.getD j 0) (n : Int) : ∃ x y z, ∃ e : Option Int, sig_Post.f (p : Int) (b : Int) acts n = some (x, y, z, e) ∧ halterref25_Post.f (p : Int) (b : Int) acts n = some (x, y, z, e.getD 0) := by
  by_cases h : 1 ≤ n ∧ n ≤ 31
  · obtain ⟨k, rfl⟩ : ∃ k : Nat, n = ((k + 1 : Nat) : Int) := ⟨(n - 1).toNat, by omega⟩
    rw [Post_eq hb acts (by omega), RPost_eq hb acts hnn (by omega)]
    by_cases hm : may p b acts
    · rw [if_pos hm, if_pos hm]; exact ⟨_, _, _, _, rfl, rfl⟩
    · rw [if_neg hm, if_neg hm]; exact ⟨_, _, _, _, rfl, rfl⟩
  · obtain ⟨h1, h2⟩ := outN h p b hb acts
    rw [h1, h2]
    exact ⟨_, _, _, _, rfl, rfl⟩
theorem Del_both {p : Nat} (hp : p < 4294967296) (n : Int) : ∃ r : Int, sigset_Del.f (p : Int) n = some r ∧ halterref03_Del.f (p : Int) n = some r := by
  by_cases h : 1 ≤ n ∧ n ≤ 31
  · obtain ⟨k, rfl⟩ : ∃ k : Nat, n = ((k + 1 : Nat) : Int) := ⟨(n - 1).toNat, by omega⟩
    exact ⟨_, Del_eq hp (by omega), RDel_eq hp (by omega)⟩
  · obtain ⟨r, h1, h2, h3⟩ := RDel p hp n
    have hc := cut_lt p
    have hz : sigset_One.f n = some 0 := by
      unfold sigset_One.f
      by_cases h1 : n < 1
      · rw [if_pos h1]
      · rw [if_neg h1, if_pos (by omega)]
    refine ⟨_, ?_, h3⟩
    unfold sigset_Del.f
    rw [hz, bind_go, show bits .and .u32 (p : Int) 2147483647 = ((p &&& 2147483647 : Nat) : Int) from b_and p 2147483647 hp (by omega), show (0 : Int) = ((0 : Nat) : Int) from rfl, b_andNot _ _ (by omega) (by omega), less_none hc]
    congr 2
    refine ext31 hc h1 fun j hj => ?_
    rw [h2 j hj, cut_bit]
    have : ¬ ((j + 1 : Nat) : Int) = n := by omega
    simp only [ne_eq, this, not_false_eq_true, decide_true, Bool.and_true, hj, Bool.true_and]
theorem Act_both {p b : Nat} (hp : p < 4294967296) (hb : b < 4294967296) (acts : List Int) (n v : Int) (hnn : ∀ k j, 0 ≤ (acts.set k v).getD j 0) : ∃ x y z, ∃ e : Option Int, sig_Act.f (p : Int) (b : Int) acts n v = some (x, y, z, e) ∧ halterref25_Act.f (p : Int) (b : Int) acts n v = some (x, y, z, e.getD 0) := by
  unfold sig_Act.f halterref25_Act.f
  rw [Check_eq hb, RMay_eq hb, bind_go, bind_go, signal_eq, bind_go]
  have bad : ∃ x y z, ∃ e : Option Int, some ((0 : Int), (0 : Int), List.replicate 32 (0 : Int), some (22 : Int)) = some (x, y, z, e) ∧ some ((0 : Int), (0 : Int), List.replicate 32 (0 : Int), (22 : Int)) = some (x, y, z, e.getD 0) := ⟨_, _, _, _, rfl, rfl⟩
  by_cases hm : may p b acts
  · rw [if_pos hm, if_neg (by simp), if_neg (show ¬ ¬ decide (may p b acts) = true by simpa using hm)]
    by_cases h1 : n < 1
    · rw [if_pos h1, if_pos (by simp; omega)]; exact bad
    rw [if_neg h1]
    by_cases h2 : n > 31
    · rw [if_pos h2, if_pos (by simp; omega)]; exact bad
    rw [if_neg h2, if_neg (by simp; omega)]
    by_cases h9 : n = 9
    · rw [if_pos h9, if_pos h9]; exact bad
    rw [if_neg h9, if_neg h9]
    by_cases h19 : n = 19
    · rw [if_pos h19, if_pos h19]; exact bad
    rw [if_neg h19, if_neg h19, if_pos (by omega), if_pos (by omega), if_pos (by omega), if_pos (by omega), What_eq, RWhat_eq _ _ _ _ (hnn _), bind_go, bind_go]
    obtain ⟨r, hr1, hr2⟩ := Del_both hp n
    unfold sig_Take.f
    rw [hr1, hr2]
    simp only [bind_go]
    split
    · exact ⟨_, _, _, _, rfl, rfl⟩
    · exact ⟨_, _, _, _, rfl, rfl⟩
  · rw [if_neg hm, if_pos (by simp), if_pos (show ¬ decide (may p b acts) = true by simpa using hm)]
    exact bad
/-- Which signals are not taken then. -/
def nowB (b a : Nat) (how : Int) (k : Nat) : Bool := (if how = 0 then b.testBit k || a.testBit k else if how = 1 then b.testBit k && !a.testBit k else a.testBit k) && !(decide (k = 8 ∨ k = 18))
theorem MaskL (p : Int) {b a : Nat} (hb : b < 4294967296) (ha : a < 4294967296) (acts : List Int) (how : Int) : ∀ (d i n : Nat) (x : List Int), i + d = 31 → d < n → x.length ≤ i → halterref25_Mask.l0 p (b : Int) acts how (a : Int) n x ((i + 1 : Nat) : Int) = some (x ++ els (nowB b a how) d i)
  | d, i, 0, x, h, hn, hx => by omega
  | 0, i, n + 1, x, h, hn, hx => by
    rw [halterref25_Mask.l0, if_neg (by omega)]
    simp [els]
  | d + 1, i, n + 1, x, h, hn, hx => by
    have e3 : IntKind.wrap .i64 (((i + 1 : Nat) : Int) + 1) = ((i + 1 + 1 : Nat) : Int) := wsucc (by omega)
    have ih := fun y hy => MaskL p hb ha acts how d (i + 1) n y (by omega) (by omega) hy
    rw [halterref25_Mask.l0, if_pos (by omega), RHas_eq hb (by omega), bind_go, RHas_eq ha (by omega), bind_go, e3, ih x (by omega), ih (x ++ [((i + 1 : Nat) : Int)]) (by simp; omega)]
    clear ih e3
    have hg : (0 = 0 ∧ 1 = 1) ∧ 0 = 0 ∧ (List.length x) = (List.length x) ∧ (((List.length x) + 1) * 8 ≤ 140737488355328 ∧ (List.length x) + 1 ≤ 9223372036854775807) := ⟨⟨rfl, rfl⟩, rfl, rfl, by omega, by omega⟩
    have no : nowB b a how i = false → some (x ++ els (nowB b a how) d (i + 1)) = some (x ++ els (nowB b a how) (d + 1) i) := fun h => by
      conv => rhs; unfold els
      rw [h, if_neg (by simp), List.nil_append]
    have yes : (decide (i = 8 ∨ i = 18) = false → nowB b a how i = true) → (if ¬ ((i + 1 : Nat) : Int) = 9 then if ¬ ((i + 1 : Nat) : Int) = 19 then if (0 = 0 ∧ 1 = 1) ∧ 0 = 0 ∧ (List.length x) = (List.length x) ∧ (((List.length x) + 1) * 8 ≤ 140737488355328 ∧ (List.length x) + 1 ≤ 9223372036854775807) then some (x ++ [((i + 1 : Nat) : Int)] ++ els (nowB b a how) d (i + 1)) else none else some (x ++ els (nowB b a how) d (i + 1)) else some (x ++ els (nowB b a how) d (i + 1))) = some (x ++ els (nowB b a how) (d + 1) i) := fun h => by
      by_cases h1 : i = 8
      · rw [if_neg (by omega)]; exact no (by unfold nowB; rw [decide_eq_true (.inl h1)]; simp)
      rw [if_pos (by omega)]
      by_cases h2 : i = 18
      · rw [if_neg (by omega)]; exact no (by unfold nowB; rw [decide_eq_true (.inr h2)]; simp)
      rw [if_pos (by omega), if_pos hg]
      conv => rhs; unfold els
      rw [h (decide_eq_false (by omega)), if_pos rfl, List.append_assoc]
    by_cases w0 : how = 0
    · rw [if_pos w0]
      have w1 : ¬ how = 1 := by omega
      rw [if_neg w1, if_neg w1]
      cases hbi : b.testBit i with
      | true => rw [if_pos rfl]; exact yes (fun h => by unfold nowB; rw [h, if_pos w0, hbi]; rfl)
      | false =>
        rw [if_neg (by simp)]
        cases hai : a.testBit i with
        | true => rw [if_pos rfl]; exact yes (fun h => by unfold nowB; rw [h, if_pos w0, hai]; simp)
        | false => rw [if_neg (by simp)]; exact no (by unfold nowB; rw [if_pos w0, hai, hbi]; rfl)
    · rw [if_neg w0]
      by_cases w1 : how = 1
      · rw [if_pos w1]
        cases hbi : b.testBit i with
        | true =>
          rw [if_pos rfl]
          cases hai : a.testBit i with
          | true => rw [if_neg (by simp)]; exact no (by unfold nowB; rw [if_neg w0, if_pos w1, hai]; simp)
          | false => rw [if_pos (by simp)]; exact yes (fun h => by unfold nowB; rw [h, if_neg w0, if_pos w1, hai, hbi]; rfl)
        | false => rw [if_neg (by simp)]; exact no (by unfold nowB; rw [if_neg w0, if_pos w1, hbi]; rfl)
      · rw [if_neg w1]
        cases hai : a.testBit i with
        | true => rw [if_pos rfl]; exact yes (fun h => by unfold nowB; rw [h, if_neg w0, if_neg w1, hai]; rfl)
        | false => rw [if_neg (by simp)]; exact no (by unfold nowB; rw [if_neg w0, if_neg w1, hai]; rfl)
theorem Mask_both {p b a : Nat} (hp : p < 4294967296) (hb : b < 4294967296) (ha : a < 4294967296) (acts : List Int) (how : Int) : ∃ x y z, ∃ e : Option Int, sig_Mask.f (p : Int) (b : Int) acts how (a : Int) = some (x, y, z, e) ∧ halterref25_Mask.f (p : Int) (b : Int) acts how (a : Int) = some (x, y, z, e.getD 0) := by
  have bad : ∃ x y z, ∃ e : Option Int, some ((0 : Int), (0 : Int), List.replicate 32 (0 : Int), some (22 : Int)) = some (x, y, z, e) ∧ some ((0 : Int), (0 : Int), List.replicate 32 (0 : Int), (22 : Int)) = some (x, y, z, e.getD 0) := ⟨_, _, _, _, rfl, rfl⟩
  unfold sig_Mask.f halterref25_Mask.f
  rw [Check_eq hb, RMay_eq hb, bind_go, bind_go]
  by_cases hm : may p b acts
  · rw [if_pos hm, if_neg (by simp), if_neg (show ¬ ¬ decide (may p b acts) = true by simpa using hm)]
    have hb2 := hm.2.2.2.2.2.2
    have hl := els_len (nowB b a how) 31 0
    obtain ⟨r, h1, h2, h3⟩ := Of_eq (els (nowB b a how) 31 0) (by omega)
    have hbit : ∀ k, k < 31 → r.testBit k = nowB b a how k := fun k hk => by
      rw [h2 k hk, Bool.eq_iff_iff, decide_eq_true_eq, els_mem31 _ k hk]
    have hc := cut_lt a
    rw [show halterref25_Mask.l0 (p : Int) (b : Int) acts how (a : Int) FUEL [] 1 = _ from MaskL _ hb ha acts how 31 0 FUEL [] (by omega) (fuel_gt (by omega)) (by simp), bind_go, List.nil_append, h3, bind_go, show bits .and .u32 (a : Int) 2147483647 = ((a &&& 2147483647 : Nat) : Int) from b_and a 2147483647 ha (by omega), show (262400 : Int) = ((262400 : Nat) : Int) from rfl]
    have hor : b ||| (a &&& 2147483647) < 2147483648 := Nat.or_lt_two_pow (n := 31) (by omega) (by omega)
    have hle := less_le b (a &&& 2147483647)
    rw [b_or b _ (by omega) (by omega), b_andNot b _ (by omega) (by omega), b_andNot _ 262400 (by omega) (by omega), b_andNot _ 262400 (by omega) (by omega), b_andNot _ 262400 (by omega) (by omega)]
    have fin : ∀ q : Nat, q < 2147483648 → (∀ k, k < 31 → q.testBit k = (if how = 0 then b.testBit k || a.testBit k else if how = 1 then b.testBit k && !a.testBit k else a.testBit k)) → less q 262400 = r := fun q hq hk => by
      have := less_le q 262400
      refine ext31 (by omega) h1 fun k h => ?_
      rw [less_bit (by omega) (by omega), mask_bit, hk k h, hbit k h]
      rfl
    by_cases w0 : how = 0
    · rw [if_pos w0, if_neg (by omega), if_neg (by omega), fin _ hor (fun k hk => by rw [if_pos w0, Nat.testBit_or, cut_bit, decide_eq_true hk]; simp)]
      exact ⟨_, _, _, _, rfl, rfl⟩
    rw [if_neg w0]
    by_cases w1 : how = 1
    · rw [if_pos w1, if_neg (by omega), if_neg (by omega), fin _ (by omega) (fun k hk => by rw [if_neg w0, if_pos w1, less_bit (by omega) (by omega), cut_bit, decide_eq_true hk]; simp)]
      exact ⟨_, _, _, _, rfl, rfl⟩
    rw [if_neg w1]
    by_cases w2 : how = 2
    · rw [if_pos w2, if_neg (by omega), if_neg (by omega), fin _ hc (fun k hk => by rw [if_neg w0, if_neg w1, cut_bit, decide_eq_true hk]; simp)]
      exact ⟨_, _, _, _, rfl, rfl⟩
    rw [if_neg w2]
    by_cases h0 : how < 0
    · rw [if_pos h0]; exact bad
    · rw [if_neg h0, if_pos (by omega)]; exact bad
  · rw [if_neg hm, if_pos (by simp), if_pos (show ¬ decide (may p b acts) = true by simpa using hm)]
    exact bad
theorem getD_set {l : List Int} {i j : Nat} (h : j ≠ i) (v : Int) : (l.set i v).getD j 0 = l.getD j 0 := by
  rw [List.getD_eq_getElem?_getD, List.getElem?_set_ne (fun e => h e.symm), ← List.getD_eq_getElem?_getD]
theorem Exec_loops (p b : Int) (acts : List Int) : ∀ (d i n : Nat) (x : List Int), i + d = 32 → d < n → x.length = 32 → (∀ j, i ≤ j → x.getD j 0 = acts.getD j 0) → ∃ y, sig_Exec.l0 p b acts n x (i : Int) = some y ∧ halterref25_Exec.l0 p b n x (i : Int) = some y
  | d, i, 0, x, h, hn, hl, hx => by omega
  | 0, i, n + 1, x, h, hn, hl, hx => by
    refine ⟨x, ?_, ?_⟩
    · rw [sig_Exec.l0, if_neg (by omega)]
    · rw [halterref25_Exec.l0, if_neg (by omega)]
  | d + 1, i, n + 1, x, h, hn, hl, hx => by
    have h1 : (i : Int) < 32 := by omega
    have h2 : 0 ≤ (i : Int) ∧ (i : Int) < ((32 : Nat) : Int) := by omega
    have h3 : i < 32 := by omega
    rw [sig_Exec.l0, halterref25_Exec.l0, if_pos h1, if_pos h1, toNat_nat, hx i (by omega), wsucc (by omega), if_pos h2, if_pos h2, if_pos h2, if_pos h2, if_pos h3, if_pos h3, if_pos h3]
    by_cases hv : acts.getD i 0 > 1
    · rw [if_pos hv, if_pos hv]
      exact Exec_loops p b acts d (i + 1) n _ (by omega) (by omega) (by simpa using hl) (fun j hj => by rw [getD_set (by omega), hx j (by omega)])
    · rw [if_neg hv, if_neg hv]
      exact Exec_loops p b acts d (i + 1) n _ (by omega) (by omega) hl (fun j hj => hx j (by omega))
theorem Exec_both (p b : Int) (acts : List Int) (hl : acts.length = 32) : ∃ y, sig_Exec.f p b acts = some (p, b, y) ∧ halterref25_Exec.f p b acts = some (p, b, y) := by
  obtain ⟨y, h1, h2⟩ := Exec_loops p b acts 32 0 FUEL acts (by omega) (fuel_gt (by omega)) hl (fun _ _ => rfl)
  refine ⟨y, ?_, ?_⟩
  · unfold sig_Exec.f; rw [show sig_Exec.l0 p b acts FUEL acts 0 = _ from h1, bind_go]
  · unfold halterref25_Exec.f; rw [show halterref25_Exec.l0 p b FUEL acts 0 = _ from h2, bind_go]
theorem First2_eq {a : Nat} (ha : a < 4294967296) : ((∀ k, k < 31 → a.testBit k = false) ∧ sigset_First.f (a : Int) = some 0) ∨ (∃ k, k < 31 ∧ a.testBit k = true ∧ (∀ j, j < k → a.testBit j = false) ∧ sigset_First.f (a : Int) = some ((k + 1 : Nat) : Int)) := by
  have hc := cut_lt a
  unfold sigset_First.f
  rw [show bits .and .u32 (a : Int) 2147483647 = ((a &&& 2147483647 : Nat) : Int) from b_and a 2147483647 (by omega) (by omega)]
  by_cases h0 : a &&& 2147483647 = 0
  · left
    refine ⟨fun k hk => ?_, by rw [h0, if_pos (show ((0 : Nat) : Int) = 0 from rfl)]⟩
    have := congrArg (Nat.testBit · k) h0
    simp only [cut_bit, decide_eq_true hk, Bool.true_and, Nat.zero_testBit] at this
    exact this
  · right
    have hne : a ≠ 0 := by rintro rfl; exact h0 rfl
    obtain ⟨k, m, e⟩ := lowest a hne
    have hb := low_bits e
    have hk : k < 31 := by
      apply Classical.byContradiction
      intro h
      apply h0
      apply bits_zero
      intro j
      rw [cut_bit]
      by_cases hj : j < 31
      · rw [hb.1 j (by omega)]; simp
      · simp [hj]
    refine ⟨k, hk, hb.2, hb.1, ?_⟩
    rw [if_neg (by omega), tz_eq ha hne e, bind_go, wsucc (by omega)]
theorem RNextL {p b : Nat} (hp : p < 4294967296) (hb : b < 4294967296) (acts : List Int) : ∀ (d i n : Nat), i + d = 31 → d < n → ((∀ k, i ≤ k → k < 31 → p.testBit k = true → b.testBit k = true) ∧ halterref25_Next.l0 (p : Int) (b : Int) acts n ((i + 1 : Nat) : Int) = some (.inl ())) ∨ (∃ k, i ≤ k ∧ k < 31 ∧ p.testBit k = true ∧ b.testBit k = false ∧ (∀ j, i ≤ j → j < k → p.testBit j = true → b.testBit j = true) ∧ halterref25_Next.l0 (p : Int) (b : Int) acts n ((i + 1 : Nat) : Int) = some (.inr ((k + 1 : Nat) : Int)))
  | d, i, 0, h, hn => by omega
  | 0, i, n + 1, h, hn => by
    left
    refine ⟨fun k h1 h2 => by omega, ?_⟩
    rw [halterref25_Next.l0, if_neg (by omega)]
  | d + 1, i, n + 1, h, hn => by
    rw [halterref25_Next.l0, if_pos (by omega), RHas_eq hp (by omega), bind_go, RHas_eq hb (by omega), bind_go, wsucc (by omega)]
    have ih := RNextL hp hb acts d (i + 1) n (by omega) (by omega)
    have go : (p.testBit i = true → b.testBit i = true) → ((∀ k, i ≤ k → k < 31 → p.testBit k = true → b.testBit k = true) ∧ halterref25_Next.l0 (p : Int) (b : Int) acts n ((i + 1 + 1 : Nat) : Int) = some (.inl ())) ∨ (∃ k, i ≤ k ∧ k < 31 ∧ p.testBit k = true ∧ b.testBit k = false ∧ (∀ j, i ≤ j → j < k → p.testBit j = true → b.testBit j = true) ∧ halterref25_Next.l0 (p : Int) (b : Int) acts n ((i + 1 + 1 : Nat) : Int) = some (.inr ((k + 1 : Nat) : Int))) := by
      intro hi
      rcases ih with ⟨h1, h2⟩ | ⟨k, h1, h2, h3, h4, h5, h6⟩
      · left
        refine ⟨fun k h3 h4 h5 => ?_, h2⟩
        by_cases e : k = i
        · subst e; exact hi h5
        · exact h1 k (by omega) h4 h5
      · right
        refine ⟨k, by omega, h2, h3, h4, fun j h7 h8 h9 => ?_, h6⟩
        by_cases e : j = i
        · subst e; exact hi h9
        · exact h5 j (by omega) h8 h9
    cases hpi : p.testBit i with
    | false => rw [if_neg (by simp)]; exact go (fun h => by rw [hpi] at h; cases h)
    | true =>
      rw [if_pos rfl]
      cases hbi : b.testBit i with
      | true => rw [if_neg (by simp)]; exact go (fun _ => hbi)
      | false =>
        rw [if_pos (by simp)]
        right
        exact ⟨i, by omega, by omega, hpi, hbi, fun j h1 h2 => by omega, rfl⟩
theorem Next_both {p b : Nat} (hp : p < 4294967296) (hb : b < 4294967296) (acts : List Int) : ∃ v, sig_Next.f (p : Int) (b : Int) acts = some v ∧ halterref25_Next.f (p : Int) (b : Int) acts = some v := by
  have h9 : sigset_Has.f (p : Int) 9 = some (p.testBit 8) := Has_eq (by omega) (k := 8) (by omega)
  have h19 : sigset_Has.f (p : Int) 19 = some (p.testBit 18) := Has_eq (by omega) (k := 18) (by omega)
  have r9 : halterref03_Has.f (p : Int) 9 = some (p.testBit 8) := RHas_eq (by omega) (k := 8) (by omega)
  have r19 : halterref03_Has.f (p : Int) 19 = some (p.testBit 18) := RHas_eq (by omega) (k := 18) (by omega)
  have s1 : ∀ n, sig_Next.l0 (p : Int) (b : Int) acts (n + 1) 0 = (if p.testBit 8 = true then some (.inr 9) else sig_Next.l0 (p : Int) (b : Int) acts n 1) := by
    intro n
    rw [sig_Next.l0, if_pos (by decide), if_pos (by decide), show List.getD [(9 : Int), 19] (Int.toNat 0) 0 = 9 from rfl, h9, bind_go]
    rfl
  have s2 : ∀ n, sig_Next.l0 (p : Int) (b : Int) acts (n + 1) 1 = (if p.testBit 18 = true then some (.inr 19) else sig_Next.l0 (p : Int) (b : Int) acts n 2) := by
    intro n
    rw [sig_Next.l0, if_pos (by decide), if_pos (by decide), show List.getD [(9 : Int), 19] (Int.toNat 1) 0 = 19 from rfl, h19, bind_go]
    rfl
  have s3 : ∀ n, sig_Next.l0 (p : Int) (b : Int) acts (n + 1) 2 = some (.inl ()) := by
    intro n
    rw [sig_Next.l0, if_neg (by decide)]
  have hl := less_le p b
  have hlb := fun j => less_bit hp hb j
  have hF := First2_eq (a := less p b) (by omega)
  have hR := RNextL hp hb acts 31 0 FUEL (by omega) (fuel_gt (by omega))
  unfold sig_Next.f halterref25_Next.f
  rw [r9, bind_go, r19, bind_go]
  rw [show sig_Next.l0 (p : Int) (b : Int) acts FUEL 0 = _ from s1 18446744073709551615, show sig_Next.l0 (p : Int) (b : Int) acts 18446744073709551615 1 = _ from s2 18446744073709551614, show sig_Next.l0 (p : Int) (b : Int) acts 18446744073709551614 2 = _ from s3 18446744073709551613]
  clear s1 s2 s3
  cases e8 : p.testBit 8 with
  | true => exact ⟨9, by rw [if_pos rfl, bind_go], by rw [if_pos rfl]⟩
  | false =>
    rw [if_neg (show ¬ (false = true) by decide), if_neg (show ¬ (false = true) by decide)]
    cases e18 : p.testBit 18 with
    | true => exact ⟨19, by rw [if_pos rfl, bind_go], by rw [if_pos rfl]⟩
    | false =>
      rw [if_neg (show ¬ (false = true) by decide), if_neg (show ¬ (false = true) by decide), bind_go]
      dsimp only
      rw [b_andNot p b hp hb]
      rcases hF with ⟨f1, f2⟩ | ⟨k, f1, f2, f3, f4⟩
      · rcases hR with ⟨r1, r2⟩ | ⟨k, _, r2, r3, r4, r5, r6⟩
        · exact ⟨0, by rw [f2, bind_go], by rw [show halterref25_Next.l0 (p : Int) (b : Int) acts FUEL 1 = _ from r2, bind_go]⟩
        · have := f1 k r2
          rw [hlb, r3, r4] at this
          cases this
      · rw [hlb] at f2
        simp at f2
        rcases hR with ⟨r1, r2⟩ | ⟨m, _, r2, r3, r4, r5, r6⟩
        · have := r1 k (by omega) f1 f2.1
          rw [f2.2] at this
          cases this
        · have hkm : k = m := by
            rcases Nat.lt_trichotomy k m with h | h | h
            · have := r5 k (by omega) h f2.1
              rw [f2.2] at this
              cases this
            · exact h
            · have := f3 m h
              rw [hlb, r3, r4] at this
              cases this
          subst hkm
          exact ⟨_, by rw [f4, bind_go], by rw [show halterref25_Next.l0 (p : Int) (b : Int) acts FUEL 1 = _ from r6, bind_go]⟩
theorem give_eq (x y : Int) (z : List Int) : halterlaw25_giveSig.f x y z = some (x, y, z) := rfl
theorem num_eq (e : Option Int) : num.f e = some (e.getD 0) := rfl
theorem nn_of {l : List Int} (h : ∀ z ∈ l, (Lit.int .u32 z).wf = true) (j : Nat) : 0 ≤ l.getD j 0 := by
  by_cases hj : j < l.length
  · exact (u32_bd (h _ (getD_mem l j 0 hj))).1
  · rw [List.getD_eq_getElem?_getD, List.getElem?_eq_none (by omega)]
    exact Int.le_refl 0
theorem SigSteps (a0 : Int) (a1 : Int) (a2 : (List Int)) (a3 : (List Int)) (a4 : Int) (h0 : (Lit.int .u32 a0).wf = true) (h1 : (Lit.int .u32 a1).wf = true) (h2 : List.length a2 = 32) (h3 : ∀ z ∈ a2, (Lit.int .u32 z).wf = true) (h4 : List.length a3 = 2) (h5 : ∀ z ∈ a3, (Lit.int .i64 z).wf = true) (h6 : (Lit.int .u32 a4).wf = true) : halterlaw25_SigSteps.f a0 a1 a2 a3 a4 = some true := by
  obtain ⟨p, rfl⟩ := Int.eq_ofNat_of_zero_le (u32_bd h0).1
  obtain ⟨b, rfl⟩ := Int.eq_ofNat_of_zero_le (u32_bd h1).1
  obtain ⟨a, rfl⟩ := Int.eq_ofNat_of_zero_le (u32_bd h6).1
  have hp : p < 4294967296 := by have := (u32_bd h0).2; omega
  have hb : b < 4294967296 := by have := (u32_bd h1).2; omega
  have ha : a < 4294967296 := by have := (u32_bd h6).2; omega
  have hnn := nn_of h3
  have hns : ∀ k j, 0 ≤ (a2.set k (a : Int)).getD j 0 := fun k j => nn_of (l := a2.set k (a : Int)) (fun z hz => by
    rcases List.mem_or_eq_of_mem_set hz with hz | rfl
    · exact h3 z hz
    · exact h6) j
  obtain ⟨x1, y1, z1, e1, p1, q1⟩ := Post_both (p := p) hb a2 hnn (a3.getD 0 0)
  obtain ⟨x2, y2, z2, e2, p2, q2⟩ := Act_both hp hb a2 (a3.getD 0 0) (a : Int) hns
  obtain ⟨x3, y3, z3, e3, p3, q3⟩ := Mask_both hp hb ha a2 (a3.getD 1 0)
  obtain ⟨r, p4, q4⟩ := Del_both hp (a3.getD 0 0)
  obtain ⟨y5, p5, q5⟩ := Exec_both (p : Int) (b : Int) a2 h2
  obtain ⟨v6, p6, q6⟩ := Next_both hp hb a2
  have p7 : sig_Take.f (p : Int) (b : Int) a2 (a3.getD 0 0) = some (r, (b : Int), a2) := by unfold sig_Take.f; rw [p4, bind_go]
  unfold halterlaw25_SigSteps.f
  simp only [give_eq, num_eq, bind_go, p1, q1, p2, q2, p3, q3, q4, p5, q5, p6, q6, p7, What_eq, RWhat_eq _ _ _ _ hnn, Check_eq hb, RMay_eq hb, sure_eq, sig_Fork.f, and_self, if_true]
  by_cases hm : may p b a2
  · simp [hm]
  · simp [hm]

end Go.Proofs.YtmpdijmcoboiiaaDoor.Pure
