/- The plain law: what the law computes is true, whatever it is handed. -/
import Derived.Test.YtmpdijmcoboiiaaDoorGSigLaws
import Derived.Test.YtmpdijmcoboiiaaDoorE16
set_option linter.unusedVariables false
set_option linter.unusedSimpArgs false
set_option linter.unnecessarySimpa false
namespace Go.Proofs.YtmpdijmcoboiiaaDoor.Pure
open Go Go.Proofs.YtmpdijmcoboiiaaDoorE Go.Proofs.YtmpdijmcoboiiaaDoorGSigLaws
theorem wu8 (x : Int) : IntKind.wrap .u8 x = x % 256 := by simp [IntKind.wrap, IntKind.bits, IntKind.signed]
theorem wu16 (x : Int) : IntKind.wrap .u16 x = x % 65536 := by simp [IntKind.wrap, IntKind.bits, IntKind.signed]
theorem wu32 (x : Int) : IntKind.wrap .u32 x = x % 4294967296 := by simp [IntKind.wrap, IntKind.bits, IntKind.signed]
theorem wu64 (x : Int) : IntKind.wrap .u64 x = x % 18446744073709551616 := by simp [IntKind.wrap, IntKind.bits, IntKind.signed]
theorem wi64 {x : Int} (h : -9223372036854775808 ≤ x) (h' : x ≤ 9223372036854775807) : IntKind.wrap .i64 x = x := by
  simp [IntKind.wrap, IntKind.bits, IntKind.signed]
  omega
theorem wu8_id {x : Int} (h : 0 ≤ x ∧ x < 256) : IntKind.wrap .u8 x = x := by rw [wu8]; omega
theorem wu32_id {x : Int} (h : 0 ≤ x ∧ x < 4294967296) : IntKind.wrap .u32 x = x := by rw [wu32]; omega
theorem wu64_id {x : Int} (h : 0 ≤ x ∧ x < 18446744073709551616) : IntKind.wrap .u64 x = x := by rw [wu64]; omega
theorem wsucc {i : Nat} (h : i < 9223372036854775807) : IntKind.wrap .i64 ((i : Int) + 1) = ((i + 1 : Nat) : Int) := by rw [wi64 (by omega) (by omega)]; omega
theorem u8_bd {a : Int} (h : (Lit.int .u8 a).wf = true) : 0 ≤ a ∧ a < 256 := by
  simpa [Lit.wf, IntKind.min, IntKind.max, IntKind.signed, IntKind.bits, ← Int.lt_add_one_iff] using h
theorem u32_bd {a : Int} (h : (Lit.int .u32 a).wf = true) : 0 ≤ a ∧ a < 4294967296 := by
  simpa [Lit.wf, IntKind.min, IntKind.max, IntKind.signed, IntKind.bits, ← Int.lt_add_one_iff] using h
theorem u64_bd {a : Int} (h : (Lit.int .u64 a).wf = true) : 0 ≤ a ∧ a < 18446744073709551616 := by
  simpa [Lit.wf, IntKind.min, IntKind.max, IntKind.signed, IntKind.bits, ← Int.lt_add_one_iff] using h
theorem i64_bd {a : Int} (h : (Lit.int .i64 a).wf = true) : -9223372036854775808 ≤ a ∧ a < 9223372036854775808 := by
  simpa [Lit.wf, IntKind.min, IntKind.max, IntKind.signed, IntKind.bits, ← Int.lt_add_one_iff] using h
theorem fuel_gt {n : Nat} (h : n < 18446744073709551616) : n < FUEL := h
theorem bind_go {α β : Type} (a : α) (f : α → Option β) : (some a).bind f = f a := by rw [Option.bind_some]
theorem drop_getD {α : Type} (l : List α) (i : Nat) (d : α) (h : i < l.length) : l.drop i = l.getD i d :: l.drop (i + 1) := by
  rw [List.drop_eq_getElem_cons h, List.getD_eq_getElem?_getD, List.getElem?_eq_getElem h, Option.getD_some]
theorem getD_mem {α : Type} (l : List α) (i : Nat) (d : α) (h : i < l.length) : l.getD i d ∈ l := by
  rw [List.getD_eq_getElem?_getD, List.getElem?_eq_getElem h, Option.getD_some]; exact List.getElem_mem _
theorem toNat_nat (i : Nat) : Int.toNat (i : Int) = i := rfl
/-- A number behind another one: a round of a loop. -/
theorem fuel_step {d n : Nat} (h : d < n) : ∃ m, n = m + 1 := ⟨n - 1, by omega⟩
/-- Where something stands first. -/
def first (v : Int) : List Int → Option Nat
  | [] => none
  | x :: xs => if x = v then some 0 else (first v xs).map (· + 1)
theorem first_none {v : Int} : ∀ {l : List Int}, first v l = none → ∀ z ∈ l, z ≠ v
  | [], _, z, hz => by cases hz
  | x :: xs, h, z, hz => by
    unfold first at h
    split at h
    · cases h
    · rename_i hx
      rcases List.mem_cons.1 hz with rfl | hz
      · exact hx
      · exact first_none (by simpa using h) z hz
theorem first_some {v : Int} : ∀ {l : List Int} {k : Nat}, first v l = some k → k < l.length ∧ l.getD k 0 = v ∧ ∀ j, j < k → l.getD j 0 ≠ v
  | [], _, h => by cases h
  | x :: xs, k, h => by
    unfold first at h
    split at h
    · cases h
      rename_i hx
      exact ⟨by simp, by simpa using hx, fun j hj => by omega⟩
    · rename_i hx
      cases hf : first v xs with
      | none => simp [hf] at h
      | some m =>
        simp [hf] at h
        subst h
        obtain ⟨h1, h2, h3⟩ := first_some hf
        refine ⟨by simp; omega, by simpa using h2, fun j hj => ?_⟩
        cases j with
        | zero => simpa using hx
        | succ j => simpa using h3 j (by omega)

theorem ofInt_u32 (a : Nat) (ha : a < 4294967296) : (BitVec.ofInt 32 (a : Int)).toNat = a := by
  rw [BitVec.ofInt_natCast, BitVec.toNat_ofNat]; exact Nat.mod_eq_of_lt (by omega)
theorem w32 (a : Nat) (ha : a < 4294967296) : IntKind.wrap .u32 (a : Int) = (a : Int) := by rw [wu32]; omega
theorem b_and (a b : Nat) (ha : a < 4294967296) (hb : b < 4294967296) : bits .and .u32 (a : Int) (b : Int) = ((a &&& b : Nat) : Int) := by
  have hx : a &&& b < 2 ^ 32 := Nat.and_lt_two_pow _ (by omega)
  show IntKind.u32.wrap ((BitVec.ofInt 32 (a : Int) &&& BitVec.ofInt 32 (b : Int)).toNat : Int) = _
  rw [BitVec.toNat_and, ofInt_u32 a ha, ofInt_u32 b hb, w32 _ (by omega)]
theorem b_or (a b : Nat) (ha : a < 4294967296) (hb : b < 4294967296) : bits .or .u32 (a : Int) (b : Int) = ((a ||| b : Nat) : Int) := by
  have hx : a ||| b < 2 ^ 32 := Nat.or_lt_two_pow (by omega) (by omega)
  show IntKind.u32.wrap ((BitVec.ofInt 32 (a : Int) ||| BitVec.ofInt 32 (b : Int)).toNat : Int) = _
  rw [BitVec.toNat_or, ofInt_u32 a ha, ofInt_u32 b hb, w32 _ (by omega)]
/-- What the one has and the other has not. -/
def less (a b : Nat) : Nat := a &&& (4294967295 - b)
theorem b_andNot (a b : Nat) (ha : a < 4294967296) (hb : b < 4294967296) : bits .andNot .u32 (a : Int) (b : Int) = ((less a b : Nat) : Int) := by
  have hx : a &&& (4294967295 - b) < 2 ^ 32 := Nat.and_lt_two_pow _ (by omega)
  show IntKind.u32.wrap ((BitVec.ofInt 32 (a : Int) &&& ~~~BitVec.ofInt 32 (b : Int)).toNat : Int) = _
  rw [BitVec.toNat_and, BitVec.toNat_not, ofInt_u32 a ha, ofInt_u32 b hb]
  have e : 2 ^ 32 - 1 - b = 4294967295 - b := by omega
  rw [e, w32 _ (by omega)]
  rfl
theorem bit_hi {x j w : Nat} (hx : x < 2 ^ w) (hj : w ≤ j) : x.testBit j = false :=
  Nat.testBit_lt_two_pow (Nat.lt_of_lt_of_le hx (Nat.pow_le_pow_right (by omega) hj))
theorem less_bit {a b : Nat} (ha : a < 4294967296) (hb : b < 4294967296) (j : Nat) : (less a b).testBit j = (a.testBit j && !b.testBit j) := by
  unfold less
  rw [show 4294967295 - b = 2 ^ 32 - (b + 1) by omega, Nat.testBit_and, Nat.testBit_two_pow_sub_succ (by omega)]
  by_cases hj : j < 32
  · simp [hj]
  · rw [bit_hi (show a < 2 ^ 32 by omega) (by omega)]; simp
theorem less_le (a b : Nat) : less a b ≤ a := Nat.and_le_left
/-- The set's bits of 31. -/
theorem cut_eq {a : Nat} (ha : a < 2147483648) : a &&& 2147483647 = a := by
  have := Nat.and_two_pow_sub_one_eq_mod a 31
  rw [show (2147483647 : Nat) = 2 ^ 31 - 1 from rfl, this]
  omega
theorem cut_bit (a j : Nat) : (a &&& 2147483647).testBit j = (decide (j < 31) && a.testBit j) := by
  rw [show (2147483647 : Nat) = 2 ^ 31 - 1 from rfl, Nat.and_two_pow_sub_one_eq_mod, Nat.testBit_mod_two_pow]
theorem cut_lt (a : Nat) : a &&& 2147483647 < 2147483648 := by
  have : a &&& 2147483647 ≤ 2147483647 := Nat.and_le_right
  omega
/-- The lowest bit. -/
theorem lowest : ∀ (a : Nat), a ≠ 0 → ∃ k m, a = 2 ^ k * (2 * m + 1) := by
  intro a
  induction a using Nat.strongRecOn with
  | _ a ih =>
    intro h
    by_cases h2 : a % 2 = 1
    · exact ⟨0, a / 2, by omega⟩
    · obtain ⟨k, m, e⟩ := ih (a / 2) (by omega) (by omega)
      refine ⟨k + 1, m, ?_⟩
      rw [Nat.pow_succ, Nat.mul_assoc, Nat.mul_comm 2, ← Nat.mul_assoc, ← e]
      omega
theorem low_bits {a k m : Nat} (e : a = 2 ^ k * (2 * m + 1)) : (∀ j, j < k → a.testBit j = false) ∧ a.testBit k = true := by
  have e2 : a = 2 ^ (k + 1) * m + 2 ^ k := by rw [e, Nat.pow_succ, Nat.mul_add, Nat.mul_one, Nat.mul_assoc]
  have hk : (2 : Nat) ^ k < 2 ^ (k + 1) := Nat.pow_lt_pow_right (by omega) (by omega)
  constructor
  · intro j hj
    rw [e2, Nat.testBit_two_pow_mul_add _ hk, if_pos (by omega), Nat.testBit_two_pow]
    simp; omega
  · rw [e2, Nat.testBit_two_pow_mul_add _ hk, if_pos (by omega), Nat.testBit_two_pow]
    simp
theorem low_and {a k m : Nat} (ha : a < 4294967296) (e : a = 2 ^ k * (2 * m + 1)) : a &&& (4294967296 - a) = 2 ^ k := by
  have hp := Nat.two_pow_pos k
  have e2 : a = 2 ^ (k + 1) * m + 2 ^ k := by rw [e, Nat.pow_succ, Nat.mul_add, Nat.mul_one, Nat.mul_assoc]
  have hk : (2 : Nat) ^ k < 2 ^ (k + 1) := Nat.pow_lt_pow_right (by omega) (by omega)
  have e3 : a - 1 = 2 ^ (k + 1) * m + (2 ^ k - 1) := by omega
  have hk2 : (2 : Nat) ^ k - 1 < 2 ^ (k + 1) := by omega
  have ha0 : 0 < a := by omega
  apply Nat.eq_of_testBit_eq
  intro j
  rw [show 4294967296 - a = 2 ^ 32 - (a - 1 + 1) by omega, Nat.testBit_and, Nat.testBit_two_pow_sub_succ (by omega), Nat.testBit_two_pow]
  by_cases hj : j < 32
  · rw [e3]
    conv => lhs; rw [e2]
    rw [Nat.testBit_two_pow_mul_add _ hk, Nat.testBit_two_pow_mul_add _ hk2]
    by_cases h1 : j < k + 1
    · rw [if_pos h1, if_pos h1, Nat.testBit_two_pow, Nat.testBit_two_pow_sub_one]
      by_cases h2 : k = j
      · subst h2; simp [hj]
      · have : j < k := by omega
        simp [h2, this]
    · rw [if_neg h1, if_neg h1]
      have : ¬ k = j := by omega
      simp [this]
      intro h _; exact h
  · rw [bit_hi (show a < 2 ^ 32 by omega) (by omega)]
    have : ¬ k = j := by
      intro h
      have h1 : (2 : Nat) ^ 32 ≤ 2 ^ k := Nat.pow_le_pow_right (by omega) (by omega)
      have h2 : 2 ^ k ≤ a := by rw [e2]; exact Nat.le_add_left ..
      omega
    simp [this]
theorem low_lt {a k m w : Nat} (ha : a < 2 ^ w) (e : a = 2 ^ k * (2 * m + 1)) : k < w := by
  have h1 := (low_bits e).2
  apply Classical.byContradiction
  intro h
  rw [bit_hi ha (by omega)] at h1
  cases h1
theorem bits_zero {a : Nat} (h : ∀ j, a.testBit j = false) : a = 0 := by
  apply Nat.eq_of_testBit_eq
  intro j
  rw [h j, Nat.zero_testBit]

theorem One_eq (k : Nat) (h : k < 31) : sigset_One.f ((k + 1 : Nat) : Int) = some ((2 ^ k : Nat) : Int) := by
  have : ∀ q : Fin 31, sigset_One.f ((q.val + 1 : Nat) : Int) = some ((2 ^ q.val : Nat) : Int) := by decide +kernel
  exact this ⟨k, h⟩
theorem pw_lt {k : Nat} (h : k < 31) : (2 : Nat) ^ k < 2147483648 := by
  have : (2 : Nat) ^ k < 2 ^ 31 := Nat.pow_lt_pow_right (by omega) h
  omega
theorem and_pw (p k : Nat) : (((p &&& 2 ^ k : Nat) : Int) != 0) = p.testBit k := by
  cases h : p.testBit k with
  | true =>
    have : p &&& 2 ^ k ≠ 0 := by
      intro h2
      have h3 := congrArg (Nat.testBit · k) h2
      simp [h] at h3
    rw [bne_iff_ne]
    omega
  | false =>
    have : p &&& 2 ^ k = 0 := by
      apply bits_zero
      intro j
      rw [Nat.testBit_and, Nat.testBit_two_pow]
      by_cases hj : k = j
      · subst hj; simp [h]
      · simp [hj]
    rw [this]
    rfl
theorem Has_eq {p : Nat} (hp : p < 4294967296) {k : Nat} (h : k < 31) : sigset_Has.f (p : Int) ((k + 1 : Nat) : Int) = some (p.testBit k) := by
  have := pw_lt h
  unfold sigset_Has.f
  rw [One_eq k h, bind_go, b_and p (2 ^ k) hp (by omega)]
  rw [and_pw]
theorem Add_eq {p : Nat} (hp : p < 4294967296) {k : Nat} (h : k < 31) : sigset_Add.f (p : Int) ((k + 1 : Nat) : Int) = some (((p &&& 2147483647) ||| 2 ^ k : Nat) : Int) := by
  have := pw_lt h; have := cut_lt p
  unfold sigset_Add.f
  rw [One_eq k h, bind_go, show bits .and .u32 (p : Int) 2147483647 = ((p &&& 2147483647 : Nat) : Int) from b_and p 2147483647 hp (by omega), b_or _ _ (by omega) (by omega)]
theorem Del_eq {p : Nat} (hp : p < 4294967296) {k : Nat} (h : k < 31) : sigset_Del.f (p : Int) ((k + 1 : Nat) : Int) = some ((less (p &&& 2147483647) (2 ^ k) : Nat) : Int) := by
  have := pw_lt h; have := cut_lt p
  unfold sigset_Del.f
  rw [One_eq k h, bind_go, show bits .and .u32 (p : Int) 2147483647 = ((p &&& 2147483647 : Nat) : Int) from b_and p 2147483647 hp (by omega), b_andNot _ _ (by omega) (by omega)]
theorem tz_eq {a k m : Nat} (ha : a < 4294967296) (h0 : a ≠ 0) (e : a = 2 ^ k * (2 * m + 1)) : math_bits_TrailingZeros32.f (a : Int) = some (k : Int) := by
  have hk : k < 32 := low_lt (w := 32) (by omega) e
  unfold math_bits_TrailingZeros32.f
  rw [if_neg (by omega)]
  have e1 : IntKind.wrap .u32 (0 - (a : Int)) = ((4294967296 - a : Nat) : Int) := by rw [wu32]; omega
  rw [e1, b_and a (4294967296 - a) ha (by omega), low_and ha e]
  have : ∀ q : Fin 32, (if 0 ≤ (shr .u32 (IntKind.wrap .u32 (((2 ^ q.val : Nat) : Int) * (125613361 : Int))) (27 : Int)) ∧ (shr .u32 (IntKind.wrap .u32 (((2 ^ q.val : Nat) : Int) * (125613361 : Int))) (27 : Int)) < ((32 : Nat) : Int) then some (IntKind.wrap .i64 ((List.getD tab1 (Int.toNat (shr .u32 (IntKind.wrap .u32 (((2 ^ q.val : Nat) : Int) * (125613361 : Int))) (27 : Int))) (0 : Int)))) else none) = some (q.val : Int) := by decide +kernel
  exact this ⟨k, hk⟩
theorem First_eq {a : Nat} (ha : a < 2147483648) : (a = 0 ∧ sigset_First.f (a : Int) = some 0) ∨ (∃ k, k < 31 ∧ a.testBit k = true ∧ (∀ j, j < k → a.testBit j = false) ∧ sigset_First.f (a : Int) = some ((k + 1 : Nat) : Int)) := by
  by_cases h0 : a = 0
  · left; subst h0; exact ⟨rfl, by decide +kernel⟩
  · right
    obtain ⟨k, m, e⟩ := lowest a h0
    have hk : k < 31 := low_lt (w := 31) (by omega) e
    refine ⟨k, hk, (low_bits e).2, (low_bits e).1, ?_⟩
    unfold sigset_First.f
    rw [show bits .and .u32 (a : Int) 2147483647 = ((a &&& 2147483647 : Nat) : Int) from b_and a 2147483647 (by omega) (by omega), cut_eq ha, if_neg (by omega), tz_eq (by omega) h0 e, bind_go, wsucc (by omega)]
/-- What comes next. -/
inductive Nx (p b : Nat) : Int → Prop where
  | kill : p.testBit 8 = true → Nx p b 9
  | stop : p.testBit 8 = false → p.testBit 18 = true → Nx p b 19
  | other (k : Nat) : p.testBit 8 = false → p.testBit 18 = false → k < 31 → p.testBit k = true → b.testBit k = false → (∀ j, j < k → p.testBit j = true → b.testBit j = true) → Nx p b ((k + 1 : Nat) : Int)
  | none : p.testBit 8 = false → p.testBit 18 = false → less p b = 0 → Nx p b 0
theorem fuelS (n : Nat) : FUEL = 18446744073709551615 + 1 := rfl
theorem Next_eq {p b : Nat} (hp : p < 2147483648) (hb : b < 4294967296) (acts : List Int) : ∃ n, sig_Next.f (p : Int) (b : Int) acts = some n ∧ Nx p b n := by
  have h9 : sigset_Has.f (p : Int) 9 = some (p.testBit 8) := Has_eq (by omega) (k := 8) (by omega)
  have h19 : sigset_Has.f (p : Int) 19 = some (p.testBit 18) := Has_eq (by omega) (k := 18) (by omega)
  have s1 : ∀ n, sig_Next.l0 (p : Int) (b : Int) acts (n + 1) 0 = (if p.testBit 8 = true then some (.inr 9) else sig_Next.l0 (p : Int) (b : Int) acts n 1) := by
    intro n
    rw [sig_Next.l0, if_pos (by decide), if_pos (by decide), show List.getD [(9 : Int), 19] (Int.toNat 0) 0 = 9 from rfl, h9, bind_go]
    rfl
  have s2 : ∀ n, sig_Next.l0 (p : Int) (b : Int) acts (n + 1) 1 = (if p.testBit 18 = true then some (.inr 19) else sig_Next.l0 (p : Int) (b : Int) acts n 2) := by
    intro n
    rw [sig_Next.l0, if_pos (by decide), if_pos (by decide), show List.getD [(9 : Int), 19] (Int.toNat 1) 0 = 19 from rfl, h19, bind_go]
    rfl
  have s3 : ∀ n, sig_Next.l0 (p : Int) (b : Int) acts (n + 1) 2 = some (.inl ()) := by
    intro n
    rw [sig_Next.l0, if_neg (by decide)]
  have hl := less_le p b
  unfold sig_Next.f
  rw [show FUEL = 18446744073709551613 + 1 + 1 + 1 from rfl, s1]
  cases e8 : p.testBit 8 with
  | true => exact ⟨9, by rw [if_pos rfl, bind_go], .kill e8⟩
  | false =>
    rw [if_neg (by simp), s2]
    cases e18 : p.testBit 18 with
    | true => exact ⟨19, by rw [if_pos rfl, bind_go], .stop e8 e18⟩
    | false =>
      rw [if_neg (by simp), s3, bind_go]
      dsimp only
      rw [b_andNot p b (by omega) hb]
      rcases First_eq (a := less p b) (by omega) with ⟨h, hf⟩ | ⟨k, hk, h1, h2, hf⟩
      · exact ⟨0, by rw [hf, bind_go], .none e8 e18 h⟩
      · rw [less_bit (by omega) hb] at h1
        simp at h1
        refine ⟨_, by rw [hf, bind_go], .other k e8 e18 hk h1.1 h1.2 fun j hj hpj => ?_⟩
        have := h2 j hj
        rw [less_bit (by omega) hb, hpj] at this
        simpa using this
theorem sure_eq : halterlaw25_sure.f = some true := by kernel_rfl
theorem signal_eq (n : Int) : sig_signal.f n = some (decide (1 ≤ n ∧ n ≤ 31)) := by
  unfold sig_signal.f
  by_cases h : n ≥ 1
  · rw [if_pos h]; congr 1; exact decide_eq_decide.2 ⟨fun h2 => ⟨h, h2⟩, fun h2 => h2.2⟩
  · rw [if_neg h]; congr 1; simp; omega
theorem mask_bit (j : Nat) : (262400 : Nat).testBit j = decide (j = 8 ∨ j = 18) := by
  rw [show (262400 : Nat) = 2 ^ 8 ||| 2 ^ 18 from rfl, Nat.testBit_or, Nat.testBit_two_pow, Nat.testBit_two_pow]
  simp [eq_comm]
theorem mask_zero {b : Nat} : b &&& 262400 = 0 ↔ b.testBit 8 = false ∧ b.testBit 18 = false := by
  constructor
  · intro h
    have h1 := congrArg (Nat.testBit · 8) h
    have h2 := congrArg (Nat.testBit · 18) h
    simp only [Nat.testBit_and, mask_bit, Nat.zero_testBit] at h1 h2
    exact ⟨by simpa using h1, by simpa using h2⟩
  · rintro ⟨h1, h2⟩
    apply bits_zero
    intro j
    rw [Nat.testBit_and, mask_bit]
    by_cases h3 : j = 8
    · subst h3; simp [h1]
    · by_cases h4 : j = 18
      · subst h4; simp [h2]
      · simp [h3, h4]
/-- The state is one that may be. -/
def may (p b : Nat) (acts : List Int) : Prop := b.testBit 8 = false ∧ b.testBit 18 = false ∧ acts.getD 0 0 = 0 ∧ acts.getD 9 0 = 0 ∧ acts.getD 19 0 = 0 ∧ p < 2147483648 ∧ b < 2147483648
instance (p b : Nat) (acts : List Int) : Decidable (may p b acts) := by unfold may; exact inferInstance
theorem Check_eq {p b : Nat} (hb : b < 4294967296) (acts : List Int) : sig_Check.f (p : Int) (b : Int) acts = some (if may p b acts then none else some 22) := by
  have h := mask_zero (b := b)
  unfold sig_Check.f
  rw [show bits .and .u32 (b : Int) 262400 = ((b &&& 262400 : Nat) : Int) from b_and b 262400 (by omega) (by omega)]
  by_cases hm : may p b acts
  · obtain ⟨h1, h2, h3, h4, h5, h6, h7⟩ := hm
    rw [if_pos (show may p b acts from ⟨h1, h2, h3, h4, h5, h6, h7⟩)]
    rw [if_neg (by rw [h.2 ⟨h1, h2⟩]; simp), if_neg (by simpa using h3), if_neg (by simpa using h4), if_neg (by simpa using h5), if_neg (by omega), if_neg (by omega)]
  · rw [if_neg hm]
    by_cases h1 : b &&& 262400 = 0
    · rw [if_neg (by rw [h1]; simp)]
      by_cases h3 : acts.getD 0 0 = 0
      · rw [if_neg (by simpa using h3)]
        by_cases h4 : acts.getD 9 0 = 0
        · rw [if_neg (by simpa using h4)]
          by_cases h5 : acts.getD 19 0 = 0
          · rw [if_neg (by simpa using h5)]
            by_cases h6 : (p : Int) > 2147483647
            · rw [if_pos h6]
            · rw [if_neg h6]
              by_cases h7 : (b : Int) > 2147483647
              · rw [if_pos h7]
              · exact absurd ⟨(h.1 h1).1, (h.1 h1).2, h3, h4, h5, by omega, by omega⟩ hm
          · rw [if_pos h5]
        · rw [if_pos h4]
      · rw [if_pos h3]
    · rw [if_pos (by omega)]

def plainS (n : Int) : Int := if n = 17 then 0 else if n = 18 then 3 else if n = 19 then 2 else if n = 20 then 2 else 1
theorem plain_eq (n : Int) : sig_plain.f n = some (plainS n) := by
  unfold sig_plain.f plainS
  repeat' split
  all_goals rfl
/-- What a signal does. -/
def whatS (acts : List Int) (n : Int) : Int :=
  if 1 ≤ n ∧ n ≤ 31 then (if n = 9 then 1 else if n = 19 then 2 else if acts.getD n.toNat 0 = 0 then plainS n else if acts.getD n.toNat 0 > 1 then 4 else if n = 18 then 3 else 0) else 0
theorem What_eq (p b : Int) (acts : List Int) (n : Int) : sig_What.f p b acts n = some (whatS acts n) := by
  unfold sig_What.f whatS
  rw [signal_eq, bind_go]
  by_cases h : 1 ≤ n ∧ n ≤ 31
  · rw [if_neg (by simpa using h), if_pos h]
    have h1 : 0 ≤ n ∧ n < ((32 : Nat) : Int) := by omega
    have h2 : n.toNat < 32 := by omega
    simp only [plain_eq, bind_go, if_pos h1, if_pos h2]
    by_cases h9 : n = 9
    · subst h9; rfl
    rw [if_neg h9, if_neg h9]
    by_cases h19 : n = 19
    · subst h19; rfl
    rw [if_neg h19, if_neg h19]
    repeat' split
    all_goals rfl
  · rw [if_pos (by simpa using h), if_neg h]
def agN (n : Int) : Nat := if n = 18 then 786432 else if n = 19 then 131072 else if n = 20 then 131072 else 0
theorem ag_eq (n : Int) : sig_against.f n = some ((agN n : Nat) : Int) := by
  unfold sig_against.f agN
  by_cases h1 : n = 18
  · rw [if_pos h1, if_pos h1]; decide +kernel
  rw [if_neg h1, if_neg h1]
  by_cases h2 : n = 19
  · rw [if_pos h2, if_pos h2]; decide +kernel
  rw [if_neg h2, if_neg h2]
  by_cases h3 : n = 20
  · rw [if_pos h3, if_pos h3]; decide +kernel
  rw [if_neg h3, if_neg h3]
  rfl
theorem ag_lt (n : Int) : agN n < 2147483648 := by
  unfold agN
  repeat' split
  all_goals omega
/-- What waits when a signal is posted. -/
def postS (p b : Nat) (acts : List Int) (k : Nat) : Nat :=
  if b.testBit k = true ∨ whatS acts ((k + 1 : Nat) : Int) ≠ 0 then less p (agN ((k + 1 : Nat) : Int)) ||| 2 ^ k else less p (agN ((k + 1 : Nat) : Int))
theorem postS_lt {p : Nat} (hp : p < 2147483648) (b : Nat) (acts : List Int) {k : Nat} (hk : k < 31) : postS p b acts k < 2147483648 := by
  have := less_le p (agN ((k + 1 : Nat) : Int))
  have := pw_lt hk
  unfold postS
  split
  · exact Nat.or_lt_two_pow (n := 31) (by omega) (by omega)
  · omega
theorem Post_eq {p b : Nat} (hb : b < 4294967296) (acts : List Int) {k : Nat} (hk : k < 31) : sig_Post.f (p : Int) (b : Int) acts ((k + 1 : Nat) : Int) = some (if may p b acts then ((postS p b acts k : Int), (b : Int), acts, none) else (0, 0, List.replicate 32 0, some 22)) := by
  unfold sig_Post.f
  rw [Check_eq hb, bind_go, signal_eq]
  by_cases hm : may p b acts
  · rw [if_pos hm, if_pos hm, if_neg (by simp), bind_go, if_neg (by simp; omega), ag_eq, bind_go, Has_eq hb hk, bind_go]
    obtain ⟨h1, h2, h3, h4, h5, h6, h7⟩ := hm
    have hl := less_le p (agN ((k + 1 : Nat) : Int))
    have hg := ag_lt ((k + 1 : Nat) : Int)
    rw [b_andNot _ _ (by omega) (by omega), Add_eq (by omega) hk, What_eq, bind_go, bind_go, cut_eq (by omega)]
    unfold postS
    cases hbt : b.testBit k with
    | true => rw [if_pos rfl, if_pos (.inl rfl)]
    | false =>
      rw [if_neg (by simp)]
      by_cases hw : whatS acts ((k + 1 : Nat) : Int) = 0
      · rw [if_neg (by simpa using hw), if_neg (by simpa using hw)]
      · rw [if_pos hw, if_pos (.inr hw)]
  · rw [if_neg hm, if_neg hm, if_pos (by simp)]
theorem Take_eq {p : Nat} (hp : p < 2147483648) (b : Int) (acts : List Int) {k : Nat} (hk : k < 31) : sig_Take.f (p : Int) b acts ((k + 1 : Nat) : Int) = some (((less p (2 ^ k) : Nat) : Int), b, acts) := by
  unfold sig_Take.f
  rw [Del_eq (by omega) hk, bind_go, cut_eq hp]

/-- What follows a step: the checks at a state that may be. -/
theorem tail_facts {p b : Nat} {acts : List Int} (hm : may p b acts) : ∃ n : Int, sig_Next.f (p : Int) (b : Int) acts = some n ∧ sig_Check.f (p : Int) (b : Int) acts = some none ∧ sigset_Has.f (b : Int) 9 = some false ∧
    ((n = 9 ∧ sigset_Has.f (p : Int) 9 = some true) ∨ (n ≠ 9 ∧ n ≠ 0 ∧ sigset_Has.f (p : Int) 9 = some false ∧ sigset_Has.f (p : Int) n = some true ∧ sigset_Has.f (b : Int) n = some false) ∨ (n = 0 ∧ sigset_Has.f (p : Int) 9 = some false ∧ less p b = 0)) := by
  obtain ⟨h8, h18, _, _, _, hp, hb⟩ := id hm
  obtain ⟨n, h1, h2⟩ := Next_eq hp (show b < 4294967296 by omega) acts
  have c9 : ∀ q : Nat, q < 2147483648 → sigset_Has.f (q : Int) 9 = some (q.testBit 8) := fun q hq => Has_eq (by omega) (k := 8) (by omega)
  have c19 : ∀ q : Nat, q < 2147483648 → sigset_Has.f (q : Int) 19 = some (q.testBit 18) := fun q hq => Has_eq (by omega) (k := 18) (by omega)
  refine ⟨n, h1, by rw [Check_eq (by omega), if_pos hm], by rw [c9 b hb, h8], ?_⟩
  cases h2 with
  | kill e8 => left; exact ⟨rfl, by rw [c9 p hp, e8]⟩
  | stop e8 e18 => right; left; exact ⟨by omega, by omega, by rw [c9 p hp, e8], by rw [c19 p hp, e18], by rw [c19 b hb, h18]⟩
  | other k e8 e18 hk hpk hbk _ =>
    right; left
    refine ⟨?_, by omega, by rw [c9 p hp, e8], by rw [Has_eq (by omega) hk, hpk], by rw [Has_eq (by omega) hk, hbk]⟩
    intro h
    have : k = 8 := by omega
    subst this
    rw [e8] at hpk; cases hpk
  | none e8 e18 hz => right; right; exact ⟨rfl, by rw [c9 p hp, e8], hz⟩
theorem count_zero : sigset_Count.f 0 = some 0 := by kernel_rfl
/-- What a step makes: a state that may be, or an error at Kill or Stop, the state as it was. -/
theorem j1_ok {p b : Nat} {acts : List Int} (hm : may p b acts) (a0 : List (Int × (Int × Int))) (i : Int) (h0 : 0 ≤ i ∧ i < ((a0.length : Nat) : Int)) {x y : Int} {z : List Int} {e : Option Int} (hj : halterlaw25_SigLaws.j2 (p : Int) (b : Int) acts i a0 = some (.inl (x, y, z, e)))
    (he : e = none → ∃ p' b' : Nat, x = (p' : Int) ∧ y = (b' : Int) ∧ may p' b' z)
    (hn : e ≠ none → IntKind.wrap .i64 (1 + IntKind.wrap .i64 (Int.tmod (IntKind.wrap .u64 (a0.getD i.toNat (0, (0, 0))).2.1) 31)) = 9 ∨ IntKind.wrap .i64 (1 + IntKind.wrap .i64 (Int.tmod (IntKind.wrap .u64 (a0.getD i.toNat (0, (0, 0))).2.1) 31)) = 19) :
    ∃ p' b' : Nat, ∃ z, halterlaw25_SigLaws.j1 (p : Int) (b : Int) acts i a0 = some (.inl ((p' : Int), (b' : Int), z)) ∧ may p' b' z := by
  have fin : ∀ {p b : Nat} {acts : List Int}, may p b acts → True := fun _ => trivial
  unfold halterlaw25_SigLaws.j1
  rw [if_pos h0, if_pos h0, hj, bind_go]
  dsimp only
  by_cases h1 : e = none
  · obtain ⟨p', b', rfl, rfl, hm'⟩ := he h1
    refine ⟨p', b', z, ?_, hm'⟩
    obtain ⟨n, f1, f2, f3, f4⟩ := tail_facts hm'
    obtain ⟨_, _, _, _, _, hp', hb'⟩ := id hm'
    rw [if_pos h1, f1, bind_go, f2, bind_go, if_neg (by simp), f3, bind_go, if_neg (by simp)]
    rcases f4 with ⟨rfl, g1⟩ | ⟨g1, g2, g3, g4, g5⟩ | ⟨rfl, g1, g2⟩
    · simp [g1, f3]
    · simp [g3, g4, g5, g1, g2]
    · rw [b_andNot _ _ (by omega) (by omega), g2]
      simp [g1, show sigset_Count.f ((0 : Nat) : Int) = some 0 from count_zero, count_zero]
  · refine ⟨p, b, acts, ?_, hm⟩
    obtain ⟨n, f1, f2, f3, f4⟩ := tail_facts hm
    obtain ⟨_, _, _, _, _, hp, hb⟩ := id hm
    rw [if_neg h1]
    rcases hn h1 with h9 | h19
    · simp only [h9]
      rcases f4 with ⟨rfl, g1⟩ | ⟨g1, g2, g3, g4, g5⟩ | ⟨rfl, g1, g2⟩
      · simp [f1, f2, f3, g1]
      · simp [f1, f2, f3, g3, g4, g5, g1, g2]
      · rw [b_andNot _ _ (by omega) (by omega), g2]
        simp [f1, f2, f3, g1, show sigset_Count.f ((0 : Nat) : Int) = some 0 from count_zero, count_zero]
    · simp only [h19]
      rcases f4 with ⟨rfl, g1⟩ | ⟨g1, g2, g3, g4, g5⟩ | ⟨rfl, g1, g2⟩
      · simp [f1, f2, f3, g1]
      · simp [f1, f2, f3, g3, g4, g5, g1, g2]
      · rw [b_andNot _ _ (by omega) (by omega), g2]
        simp [f1, f2, f3, g1, show sigset_Count.f ((0 : Nat) : Int) = some 0 from count_zero, count_zero]
theorem pick (n : Int) (m : Int) (hm : 0 < m ∧ m < 1000) : 0 ≤ Int.tmod (IntKind.wrap .u64 n) m ∧ Int.tmod (IntKind.wrap .u64 n) m < m := by
  rw [wu64, Int.tmod_eq_emod_of_nonneg (by omega)]
  exact ⟨Int.emod_nonneg _ (by omega), Int.emod_lt_of_pos _ hm.1⟩
theorem set_ne {l : List Int} {i j : Nat} (h : j ≠ i) (v : Int) : (l.set i v).getD j 0 = l.getD j 0 := by
  rw [List.getD_eq_getElem?_getD, List.getElem?_set_ne (fun e => h e.symm), ← List.getD_eq_getElem?_getD]
theorem Act_ok {p b : Nat} {acts : List Int} (hm : may p b acts) {k : Nat} (hk : k < 31) (v : Int) : ∃ x y z, ∃ e : Option Int, sig_Act.f (p : Int) (b : Int) acts ((k + 1 : Nat) : Int) v = some (x, y, z, e) ∧ (e = none → ∃ p' b' : Nat, x = (p' : Int) ∧ y = (b' : Int) ∧ may p' b' z) ∧ (e ≠ none → k = 8 ∨ k = 18) := by
  obtain ⟨m1, m2, m3, m4, m5, hp, hb⟩ := id hm
  unfold sig_Act.f
  rw [Check_eq (by omega), if_pos hm, bind_go, if_neg (by simp), signal_eq, bind_go, if_neg (by simp; omega)]
  by_cases h9 : k = 8
  · rw [if_pos (by omega)]; exact ⟨_, _, _, _, rfl, fun h => by simp at h, fun _ => .inl h9⟩
  rw [if_neg (by omega)]
  by_cases h19 : k = 18
  · rw [if_pos (by omega)]; exact ⟨_, _, _, _, rfl, fun h => by simp at h, fun _ => .inr h19⟩
  rw [if_neg (by omega), if_pos (by omega), if_pos (by omega), What_eq, bind_go, Take_eq hp _ _ hk, bind_go]
  have hl := less_le p (2 ^ k)
  have hms : ∀ q : Nat, q < 2147483648 → may q b (acts.set (Int.toNat ((k + 1 : Nat) : Int)) v) := fun q hq =>
    ⟨m1, m2, by rw [set_ne (by rw [toNat_nat]; omega)]; exact m3, by rw [set_ne (by rw [toNat_nat]; omega)]; exact m4, by rw [set_ne (by rw [toNat_nat]; omega)]; exact m5, hq, hb⟩
  split
  · exact ⟨_, _, _, _, rfl, fun _ => ⟨_, _, rfl, rfl, hms _ (by omega)⟩, fun h => absurd rfl h⟩
  · exact ⟨_, _, _, _, rfl, fun _ => ⟨_, _, rfl, rfl, hms _ hp⟩, fun h => absurd rfl h⟩
theorem Mask_ok {p b : Nat} {acts : List Int} (hm : may p b acts) {how : Int} (hw : 0 ≤ how ∧ how < 3) {a : Nat} (ha : a < 4294967296) : ∃ b' : Nat, sig_Mask.f (p : Int) (b : Int) acts how (a : Int) = some ((p : Int), (b' : Int), acts, none) ∧ may p b' acts := by
  obtain ⟨m1, m2, m3, m4, m5, hp, hb⟩ := id hm
  have hc := cut_lt a
  have hor : b ||| (a &&& 2147483647) < 2147483648 := Nat.or_lt_two_pow (n := 31) (by omega) (by omega)
  have hle := less_le b (a &&& 2147483647)
  have fin : ∀ q : Nat, q < 2147483648 → may p (less q 262400) acts := fun q hq => by
    have := less_le q 262400
    exact ⟨by rw [less_bit (by omega) (by omega), mask_bit]; simp, by rw [less_bit (by omega) (by omega), mask_bit]; simp, m3, m4, m5, hp, by omega⟩
  unfold sig_Mask.f
  rw [Check_eq (by omega), if_pos hm, bind_go, if_neg (by simp), show bits .and .u32 (a : Int) 2147483647 = ((a &&& 2147483647 : Nat) : Int) from b_and a 2147483647 ha (by omega), show (262400 : Int) = ((262400 : Nat) : Int) from rfl, b_or b _ (by omega) (by omega), b_andNot b _ (by omega) (by omega), b_andNot _ 262400 (by omega) (by omega), b_andNot _ 262400 (by omega) (by omega), b_andNot _ 262400 (by omega) (by omega)]
  by_cases w0 : how = 0
  · rw [if_pos w0]; exact ⟨_, rfl, fin _ hor⟩
  rw [if_neg w0]
  by_cases w1 : how = 1
  · rw [if_pos w1]; exact ⟨_, rfl, fin _ (by omega)⟩
  rw [if_neg w1, if_pos (by omega)]
  exact ⟨_, rfl, fin _ hc⟩
theorem post_bit {p b : Nat} (hp : p < 2147483648) (acts : List Int) {k : Nat} (hk : k < 31) (hno : b.testBit k = true ∨ whatS acts ((k + 1 : Nat) : Int) ≠ 0) : (postS p b acts k).testBit k = true := by
  unfold postS
  rw [if_pos hno, Nat.testBit_or, Nat.testBit_two_pow]
  simp
theorem post_bit0 {p b : Nat} (hp : p < 2147483648) (acts : List Int) {k : Nat} (hk : k < 31) (hb : b.testBit k = false) (hpk : p.testBit k = false) : (postS p b acts k).testBit k = (whatS acts ((k + 1 : Nat) : Int) != 0) := by
  by_cases hw : whatS acts ((k + 1 : Nat) : Int) = 0
  · have hg := ag_lt ((k + 1 : Nat) : Int)
    unfold postS
    rw [if_neg (by rw [hb]; simpa using hw), less_bit (by omega) (by omega), hpk, hw]
    rfl
  · rw [post_bit hp acts hk (.inr hw), bne_iff_ne.2 hw]
theorem j2_ok {p b : Nat} {acts : List Int} (hm : may p b acts) (a0 : List (Int × (Int × Int))) (i : Int) (h0 : 0 ≤ i ∧ i < ((a0.length : Nat) : Int)) {a : Nat} (ha : a < 4294967296) (hv : (a0.getD i.toNat (0, (0, 0))).2.2 = (a : Int)) {k : Nat} (hk : k < 31) (hn : IntKind.wrap .i64 (1 + IntKind.wrap .i64 (Int.tmod (IntKind.wrap .u64 (a0.getD i.toNat (0, (0, 0))).2.1) 31)) = ((k + 1 : Nat) : Int)) :
    ∃ x y z, ∃ e : Option Int, halterlaw25_SigLaws.j2 (p : Int) (b : Int) acts i a0 = some (.inl (x, y, z, e)) ∧ (e = none → ∃ p' b' : Nat, x = (p' : Int) ∧ y = (b' : Int) ∧ may p' b' z) ∧ (e ≠ none → k = 8 ∨ k = 18) := by
  obtain ⟨m1, m2, m3, m4, m5, hp, hb⟩ := id hm
  have hpk := pick (a0.getD i.toNat (0, (0, 0))).2.1 3 (by omega)
  unfold halterlaw25_SigLaws.j2
  simp only [hn, hv]
  by_cases c2 : IntKind.wrap .i64 (Int.tmod (IntKind.wrap .u64 (a0.getD i.toNat (0, (0, 0))).1) 5) = 2
  · obtain ⟨x, y, z, e, f1, f2, f3⟩ := Act_ok hm hk (a : Int)
    rw [if_pos c2, if_pos h0, f1, bind_go]
    exact ⟨x, y, z, e, rfl, f2, f3⟩
  rw [if_neg c2]
  by_cases c3 : IntKind.wrap .i64 (Int.tmod (IntKind.wrap .u64 (a0.getD i.toNat (0, (0, 0))).1) 5) = 3
  · obtain ⟨b', f1, f2⟩ := Mask_ok hm (how := IntKind.wrap .i64 (Int.tmod (IntKind.wrap .u64 (a0.getD i.toNat (0, (0, 0))).2.1) 3)) (by rw [wi64 (by omega) (by omega)]; exact hpk) ha
    rw [if_pos c3, if_pos h0, if_pos h0, f1, bind_go]
    exact ⟨_, _, _, _, rfl, fun _ => ⟨_, _, rfl, rfl, f2⟩, fun h => absurd rfl h⟩
  rw [if_neg c3]
  have hmp : ∀ q : Nat, q < 2147483648 → may q b acts := fun q hq => ⟨m1, m2, m3, m4, m5, hq, hb⟩
  by_cases c4 : IntKind.wrap .i64 (Int.tmod (IntKind.wrap .u64 (a0.getD i.toNat (0, (0, 0))).1) 5) = 4
  · obtain ⟨n, f1, f2⟩ := Next_eq hp (show b < 4294967296 by omega) acts
    have ht : ∃ q : Nat, q < 2147483648 ∧ sig_Take.f (p : Int) (b : Int) acts n = some ((q : Int), (b : Int), acts) := by
      cases f2 with
      | kill _ => have := less_le p (2 ^ 8); exact ⟨_, by omega, Take_eq hp _ _ (k := 8) (by omega)⟩
      | stop _ _ => have := less_le p (2 ^ 18); exact ⟨_, by omega, Take_eq hp _ _ (k := 18) (by omega)⟩
      | other j _ _ hj _ _ _ => have := less_le p (2 ^ j); exact ⟨_, by omega, Take_eq hp _ _ hj⟩
      | none _ _ _ =>
        have := less_le (p &&& 2147483647) 0
        have hc := cut_lt p
        refine ⟨less (p &&& 2147483647) 0, by omega, ?_⟩
        unfold sig_Take.f sigset_Del.f
        rw [show sigset_One.f 0 = some 0 by decide +kernel, bind_go, show bits .and .u32 (p : Int) 2147483647 = ((p &&& 2147483647 : Nat) : Int) from b_and p 2147483647 (by omega) (by omega), show (0 : Int) = ((0 : Nat) : Int) from rfl, b_andNot _ _ (by omega) (by omega), bind_go]
    obtain ⟨q, hq, ht⟩ := ht
    rw [if_pos c4, f1, bind_go, ht, bind_go]
    exact ⟨_, _, _, _, rfl, fun _ => ⟨_, _, rfl, rfl, hmp q hq⟩, fun h => absurd rfl h⟩
  rw [if_neg c4, Post_eq (by omega) acts hk, if_pos hm, bind_go]
  have hq := postS_lt hp b acts hk
  have good : ∃ x y z, ∃ e : Option Int, some (Sum.inl (((postS p b acts k : Nat) : Int), (b : Int), acts, (none : Option Int)) : (Int × Int × List Int × Option Int) ⊕ Unit) = some (.inl (x, y, z, e)) ∧ (e = none → ∃ p' b' : Nat, x = (p' : Int) ∧ y = (b' : Int) ∧ may p' b' z) ∧ (e ≠ none → k = 8 ∨ k = 18) :=
    ⟨_, _, _, _, rfl, fun _ => ⟨_, _, rfl, rfl, hmp _ hq⟩, fun h => absurd rfl h⟩
  dsimp only
  rw [if_neg (by simp)]
  simp only [Has_eq (show b < 4294967296 by omega) hk, Has_eq (show p < 4294967296 by omega) hk, Has_eq (show postS p b acts k < 4294967296 by omega) hk, What_eq, bind_go]
  cases hbk : b.testBit k with
  | true =>
    rw [post_bit hp acts hk (.inl hbk)]
    simp only [if_true, not_true_eq_false, if_false]
    exact good
  | false =>
    cases hpk2 : p.testBit k with
    | true => simp only [Bool.false_eq_true, if_false, not_false_eq_true, not_true_eq_false, if_true]; exact good
    | false =>
      rw [post_bit0 hp acts hk hbk hpk2]
      simp only [Bool.false_eq_true, if_false, not_false_eq_true, not_true_eq_false, if_true]
      exact good
theorem l0_ok (a0 : List (Int × (Int × Int))) (hl : a0.length < 1000000000000000) (hg : ∀ j, j < a0.length → ∃ a : Nat, a < 4294967296 ∧ (a0.getD j (0, (0, 0))).2.2 = (a : Int)) : ∀ (d i n p b : Nat) (acts : List Int), a0.length - i = d → i ≤ a0.length → d < n → may p b acts → ∃ r, halterlaw25_SigLaws.l0 a0 n (p : Int) (b : Int) acts (i : Int) = some (.inl r)
  | d, i, 0, p, b, acts, hd, hi, hn, hm => by omega
  | 0, i, n + 1, p, b, acts, hd, hi, hn, hm => by
    rw [halterlaw25_SigLaws.l0, if_neg (by omega)]; exact ⟨_, rfl⟩
  | d + 1, i, n + 1, p, b, acts, hd, hi, hn, hm => by
    rw [halterlaw25_SigLaws.l0, if_pos (by omega)]
    by_cases h40 : (i : Int) < 40
    · obtain ⟨a, ha, hv⟩ := hg i (by omega)
      have hpk := pick (a0.getD i (0, (0, 0))).2.1 31 (by omega)
      obtain ⟨k, hk⟩ := Int.eq_ofNat_of_zero_le hpk.1
      have hn2 : IntKind.wrap .i64 (1 + IntKind.wrap .i64 (Int.tmod (IntKind.wrap .u64 (a0.getD (i : Int).toNat (0, (0, 0))).2.1) 31)) = ((k + 1 : Nat) : Int) := by
        rw [toNat_nat, wi64 (x := Int.tmod _ _) (by omega) (by omega), hk, wi64 (by omega) (by omega)]; omega
      obtain ⟨x, y, z, e, f1, f2, f3⟩ := j2_ok hm a0 (i : Int) (by omega) ha hv (k := k) (by omega) hn2
      obtain ⟨p', b', z', g1, g2⟩ := j1_ok hm a0 (i : Int) (by omega) f1 f2 (fun h => by rw [hn2]; rcases f3 h with rfl | rfl <;> simp)
      rw [if_pos h40, g1, bind_go]
      dsimp only
      rw [wsucc (by omega)]
      exact l0_ok a0 hl hg d (i + 1) n p' b' z' (by omega) (by omega) (by omega) g2
    · rw [if_neg h40]; exact ⟨_, rfl⟩
theorem zeros (j : Nat) : (List.replicate 32 (0 : Int)).getD j 0 = 0 := by
  rw [List.getD_eq_getElem?_getD, List.getElem?_replicate]
  split <;> rfl
theorem SigLaws (a0 : (List (Int × (Int × Int)))) (h0 : List.length a0 * 24 ≤ reachBytes) (h1 : ∀ z : (Int × (Int × Int)), z ∈ a0 → goodT (.pair (.int .i64) (.pair (.int .i64) (.int .u32))) z) : halterlaw25_SigLaws.f a0 = some true := by
  have hl : a0.length < 1000000000000000 := by have : reachBytes < 1000000000000000 := by decide
                                               omega
  obtain ⟨r, h⟩ := l0_ok a0 hl (fun j hj => by
    have hg := h1 _ (getD_mem a0 j (0, (0, 0)) hj)
    have h2 := u32_bd (show (Lit.int .u32 (a0.getD j (0, (0, 0))).2.2).wf = true from hg.2.2)
    obtain ⟨a, ha⟩ := Int.eq_ofNat_of_zero_le h2.1
    exact ⟨a, by omega, ha⟩) a0.length 0 FUEL 0 0 (List.replicate 32 0) rfl (by omega) (fuel_gt (by omega)) ⟨by simp, by simp, zeros 0, zeros 9, zeros 19, by omega, by omega⟩
  unfold halterlaw25_SigLaws.f
  rw [show halterlaw25_SigLaws.l0 a0 FUEL 0 0 (List.replicate 32 0) 0 = _ from h, bind_go]
  dsimp only
  rw [sure_eq, bind_go]

end Go.Proofs.YtmpdijmcoboiiaaDoor.Pure
