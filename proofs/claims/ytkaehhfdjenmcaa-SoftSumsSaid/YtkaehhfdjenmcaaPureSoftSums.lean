/- The plain law: what the law computes is true, whatever it is handed. -/
import Derived.Test.YtkaehhfdjenmcaaGSoftSums
import Derived.Test.YtkaehhfdjenmcaaE16
set_option linter.unusedVariables false
set_option linter.unusedSimpArgs false
set_option linter.unnecessarySimpa false
namespace Go.Proofs.Ytkaehhfdjenmcaa.Pure
open Go Go.Proofs.YtkaehhfdjenmcaaE Go.Proofs.YtkaehhfdjenmcaaGSoftSums
theorem wu8 (x : Int) : IntKind.wrap .u8 x = x % 256 := by simp [IntKind.wrap, IntKind.bits, IntKind.signed]
theorem wu16 (x : Int) : IntKind.wrap .u16 x = x % 65536 := by simp [IntKind.wrap, IntKind.bits, IntKind.signed]
theorem wu32 (x : Int) : IntKind.wrap .u32 x = x % 4294967296 := by simp [IntKind.wrap, IntKind.bits, IntKind.signed]
theorem wu64 (x : Int) : IntKind.wrap .u64 x = x % 18446744073709551616 := by simp [IntKind.wrap, IntKind.bits, IntKind.signed]
theorem wi64 {x : Int} (h : -9223372036854775808 ≤ x) (h' : x ≤ 9223372036854775807) : IntKind.wrap .i64 x = x := by
  simp [IntKind.wrap, IntKind.bits, IntKind.signed]
  omega
theorem wu8_id {x : Int} (h : 0 ≤ x ∧ x < 256) : IntKind.wrap .u8 x = x := by rw [wu8]; omega
theorem wu32_id {x : Int} (h : 0 ≤ x ∧ x < 4294967296) : IntKind.wrap .u32 x = x := by rw [wu32]; omega
theorem wu64_id {x : Int} (h : 0 ≤ x ∧ x < 18446744073709551616) : IntKind.wrap .u64 x = x := by rw [wu64]; omega
theorem wsucc {i : Nat} (h : i < 9223372036854775807) : IntKind.wrap .i64 ((i : Int) + 1) = ((i + 1 : Nat) : Int) := by rw [wi64 (by omega) (by omega)]; omega
theorem u8_bd {a : Int} (h : (Lit.int .u8 a).wf = true) : 0 ≤ a ∧ a < 256 := by
  simpa [Lit.wf, IntKind.min, IntKind.max, IntKind.signed, IntKind.bits, ← Int.lt_add_one_iff] using h
theorem u32_bd {a : Int} (h : (Lit.int .u32 a).wf = true) : 0 ≤ a ∧ a < 4294967296 := by
  simpa [Lit.wf, IntKind.min, IntKind.max, IntKind.signed, IntKind.bits, ← Int.lt_add_one_iff] using h
theorem u64_bd {a : Int} (h : (Lit.int .u64 a).wf = true) : 0 ≤ a ∧ a < 18446744073709551616 := by
  simpa [Lit.wf, IntKind.min, IntKind.max, IntKind.signed, IntKind.bits, ← Int.lt_add_one_iff] using h
theorem i64_bd {a : Int} (h : (Lit.int .i64 a).wf = true) : -9223372036854775808 ≤ a ∧ a < 9223372036854775808 := by
  simpa [Lit.wf, IntKind.min, IntKind.max, IntKind.signed, IntKind.bits, ← Int.lt_add_one_iff] using h
theorem fuel_gt {n : Nat} (h : n < 18446744073709551616) : n < FUEL := h
theorem bind_go {α β : Type} (a : α) (f : α → Option β) : (some a).bind f = f a := by rw [Option.bind_some]
theorem drop_getD {α : Type} (l : List α) (i : Nat) (d : α) (h : i < l.length) : l.drop i = l.getD i d :: l.drop (i + 1) := by
  rw [List.drop_eq_getElem_cons h, List.getD_eq_getElem?_getD, List.getElem?_eq_getElem h, Option.getD_some]
theorem getD_mem {α : Type} (l : List α) (i : Nat) (d : α) (h : i < l.length) : l.getD i d ∈ l := by
  rw [List.getD_eq_getElem?_getD, List.getElem?_eq_getElem h, Option.getD_some]; exact List.getElem_mem _
theorem toNat_nat (i : Nat) : Int.toNat (i : Int) = i := rfl
/-- A number behind another one: a round of a loop. -/
theorem fuel_step {d n : Nat} (h : d < n) : ∃ m, n = m + 1 := ⟨n - 1, by omega⟩
/-- Where something stands first. -/
def first (v : Int) : List Int → Option Nat
  | [] => none
  | x :: xs => if x = v then some 0 else (first v xs).map (· + 1)
theorem first_none {v : Int} : ∀ {l : List Int}, first v l = none → ∀ z ∈ l, z ≠ v
  | [], _, z, hz => by cases hz
  | x :: xs, h, z, hz => by
    unfold first at h
    split at h
    · cases h
    · rename_i hx
      rcases List.mem_cons.1 hz with rfl | hz
      · exact hx
      · exact first_none (by simpa using h) z hz
theorem first_some {v : Int} : ∀ {l : List Int} {k : Nat}, first v l = some k → k < l.length ∧ l.getD k 0 = v ∧ ∀ j, j < k → l.getD j 0 ≠ v
  | [], _, h => by cases h
  | x :: xs, k, h => by
    unfold first at h
    split at h
    · cases h
      rename_i hx
      exact ⟨by simp, by simpa using hx, fun j hj => by omega⟩
    · rename_i hx
      cases hf : first v xs with
      | none => simp [hf] at h
      | some m =>
        simp [hf] at h
        subst h
        obtain ⟨h1, h2, h3⟩ := first_some hf
        refine ⟨by simp; omega, by simpa using h2, fun j hj => ?_⟩
        cases j with
        | zero => simpa using hx
        | succ j => simpa using h3 j (by omega)

open Go.Proofs.YtkaehhfdjenmcaaF (ofB ofB_none sg rg mag val fin D wordN rnd read_fin read_inf read_nan word_self write_read rnd_mag mag_rnd mag_exact order_fin add_fin sub_fin nearest_units nearest_scale nearest_eq word_eq D_eq D_inf D_binade D_sign D_least D_frac cut_rne rne rne_zero rne_scale rne_exact log2_shift log2_of signed_eq val_of cmp_int cmp_scale pick geB leB)
theorem ofInt_u64 (a : Nat) (ha : a < 18446744073709551616) : (BitVec.ofInt 64 (a : Int)).toNat = a := by
  rw [BitVec.ofInt_natCast, BitVec.toNat_ofNat]; exact Nat.mod_eq_of_lt (by omega)
theorem and64 (a b : Nat) (ha : a < 18446744073709551616) (hb : b < 18446744073709551616) : bits .and .u64 (a : Int) (b : Int) = ((a &&& b : Nat) : Int) := by
  have hx : a &&& b < 2 ^ 64 := Nat.and_lt_two_pow _ (by omega)
  show IntKind.u64.wrap ((BitVec.ofInt 64 (a : Int) &&& BitVec.ofInt 64 (b : Int)).toNat : Int) = _
  rw [BitVec.toNat_and, ofInt_u64 a ha, ofInt_u64 b hb, wu64_id (by omega)]
theorem shr52 (a : Nat) : shr .u64 (a : Int) 52 = ((a / 4503599627370496 : Nat) : Int) := by simp [shr, IntKind.bits]
theorem shr63 (a : Nat) : shr .u64 (a : Int) 63 = ((a / 9223372036854775808 : Nat) : Int) := by simp [shr, IntKind.bits]
theorem class_eq (x : Nat) (h : x < 18446744073709551616) : soft_Class.f (x : Int) = some (if rg x = 0 then 0 else if rg x < 4503599627370496 then 1 else if rg x < 9218868437227405312 then 2 else if rg x = 9218868437227405312 then 3 else 4) := by
  have e1 : bits .and .u64 (shr .u64 (x : Int) 52) 2047 = ((x / 4503599627370496 % 2048 : Nat) : Int) := by
    rw [shr52, show bits .and .u64 ((x / 4503599627370496 : Nat) : Int) 2047 = ((x / 4503599627370496 &&& 2047 : Nat) : Int) from and64 _ 2047 (by omega) (by omega), show (2047 : Nat) = 2 ^ 11 - 1 from rfl, Nat.and_two_pow_sub_one_eq_mod]
  have e2 : bits .and .u64 (x : Int) 4503599627370495 = ((x % 4503599627370496 : Nat) : Int) := by
    rw [show bits .and .u64 (x : Int) 4503599627370495 = ((x &&& 4503599627370495 : Nat) : Int) from and64 _ 4503599627370495 h (by omega), show (4503599627370495 : Nat) = 2 ^ 52 - 1 from rfl, Nat.and_two_pow_sub_one_eq_mod]
  unfold soft_Class.f rg
  rw [e1, e2]
  by_cases h1 : ((x / 4503599627370496 % 2048 : Nat) : Int) = 0
  · rw [if_pos h1]
    by_cases h2 : ((x % 4503599627370496 : Nat) : Int) = 0
    · rw [if_pos h2, if_pos (show x % 9223372036854775808 = 0 by omega)]
    · rw [if_neg h2, if_neg (show ¬ x % 9223372036854775808 = 0 by omega), if_pos (show x % 9223372036854775808 < 4503599627370496 by omega)]
  · rw [if_neg h1, if_neg (show ¬ x % 9223372036854775808 = 0 by omega), if_neg (show ¬ x % 9223372036854775808 < 4503599627370496 by omega)]
    by_cases h2 : ((x / 4503599627370496 % 2048 : Nat) : Int) < 2047
    · rw [if_pos h2, if_pos (show x % 9223372036854775808 < 9218868437227405312 by omega)]
    · rw [if_neg h2, if_neg (show ¬ x % 9223372036854775808 < 9218868437227405312 by omega)]
      by_cases h3 : ((x % 4503599627370496 : Nat) : Int) = 0
      · rw [if_pos h3, if_pos (show x % 9223372036854775808 = 9218868437227405312 by omega)]
      · rw [if_neg h3, if_neg (show ¬ x % 9223372036854775808 = 9218868437227405312 by omega)]
theorem sg_eq (x : Nat) (h : x < 18446744073709551616) : (shr .u64 (x : Int) 63 == 1) = sg x := by
  rw [shr63, Bool.eq_iff_iff, beq_iff_eq]
  unfold sg
  rw [beq_iff_eq]
  omega
theorem mag_pos (r : Nat) (h : r ≠ 0) : mag r ≠ 0 := by
  unfold mag
  have hp := Nat.two_pow_pos (r / 4503599627370496 - 1)
  split
  · exact h
  · intro e
    rcases Nat.mul_eq_zero.1 e with e | e <;> omega
theorem read_pos (x : Nat) (h : fin x) (h0 : rg x ≠ 0) : ∃ m j : Nat, m ≠ 0 ∧ D.read x = .number (sg x) m ((j : Int) - 1074) ∧ m * 2 ^ j = mag (rg x) := by
  obtain ⟨m, j, h1, h2⟩ := read_fin x h
  refine ⟨m, j, fun e => ?_, h1, h2⟩
  rw [e, Nat.zero_mul] at h2
  exact mag_pos _ h0 h2.symm
theorem order_self (x : Nat) (h : rg x ≤ 9218868437227405312) : D.order x x = some .eq := by
  by_cases h1 : fin x
  · rw [order_fin x x h1 h1, cmp_int, if_neg (by omega), if_pos rfl]
  · have h2 : rg x = 9218868437227405312 := by have : ¬ rg x < 9218868437227405312 := h1; omega
    unfold Ieee.Format.order
    rw [read_inf x h2]
    show some (compare (sg x).toNat (sg x).toNat) = some .eq
    cases sg x <;> rfl
theorem ofB_some (x : Nat) (h : rg x ≤ 9218868437227405312) : ofB (some x) = (x : Int) := by
  unfold ofB
  dsimp only
  rw [if_pos (show FloatKind.f64.format.order x x = some .eq from order_self x h)]
theorem div_zero (x z : Nat) (hx : fin x) (h0 : rg x ≠ 0) (t : Bool) (hz : D.read z = .number t 0 (-1074)) : D.div x z = some (wordN (sg x ^^ t) 9218868437227405312) := by
  obtain ⟨m, j, hm, h1, h2⟩ := read_pos x hx h0
  unfold Ieee.Format.div
  rw [h1, hz]
  unfold Ieee.Datum.quotient
  dsimp only
  rw [if_pos rfl, if_neg hm]
  show some (D.word _ _) = _
  rw [word_eq, D_inf]
theorem mul_inf (x z : Nat) (hx : fin x) (h0 : rg x ≠ 0) (t : Bool) (hz : D.read z = .infinity t) : D.mul x z = some (wordN (t ^^ sg x) 9218868437227405312) := by
  obtain ⟨m, j, hm, h1, h2⟩ := read_pos x hx h0
  unfold Ieee.Format.mul
  rw [h1, hz]
  show ((if m = 0 then none else some (Ieee.Datum.infinity (t ^^ sg x))).map D.write) = _
  rw [if_neg hm]
  show some (D.word _ _) = _
  rw [word_eq, D_inf]
theorem add_inf (x z : Nat) (hx : fin x) (t : Bool) (hz : D.read z = .infinity t) : D.add x z = some (wordN t 9218868437227405312) := by
  obtain ⟨m, j, h1, h2⟩ := read_fin x hx
  unfold Ieee.Format.add
  rw [h1, hz]
  show some (D.word _ _) = _
  rw [word_eq, D_inf]
theorem div_inf (x z : Nat) (hx : fin x) (t : Bool) (hz : D.read z = .infinity t) : D.div x z = some (wordN (sg x ^^ t) 0) := by
  obtain ⟨m, j, h1, h2⟩ := read_fin x hx
  unfold Ieee.Format.div
  rw [h1, hz]
  show some (D.nearest _ 0 0) = _
  rw [nearest_eq, if_pos rfl]
theorem nearest_rg (m : Nat) (p : Int) : rg (D.nearest false m p) ≤ 9218868437227405312 ∧ D.nearest false m p ≤ 9218868437227405312 := by
  rw [nearest_eq]
  unfold wordN rg
  split
  · rw [if_neg (by simp)]; omega
  · rw [if_neg (by simp)]; omega
theorem sqrt_pos (x : Nat) (hx : fin x) (h0 : rg x ≠ 0) (hs : sg x = false) : ∃ b : Nat, D.sqrt x = some b ∧ rg b ≤ 9218868437227405312 ∧ b ≤ 9218868437227405312 := by
  obtain ⟨m, j, hm, h1, h2⟩ := read_pos x hx h0
  unfold Ieee.Format.sqrt
  rw [h1, hs]
  unfold Ieee.Datum.root
  dsimp only
  rw [if_neg hm, if_neg (by simp)]
  exact ⟨_, rfl, nearest_rg _ _⟩
theorem sqrt_neg (x : Nat) (hx : fin x) (h0 : rg x ≠ 0) (hs : sg x = true) : D.sqrt x = none := by
  obtain ⟨m, j, hm, h1, h2⟩ := read_pos x hx h0
  unfold Ieee.Format.sqrt
  rw [h1, hs]
  unfold Ieee.Datum.root
  dsimp only
  rw [if_neg hm, if_pos rfl]
  rfl
theorem f_add (x y : Nat) : soft_Add.f (x : Int) (y : Int) = some (ofB (D.add x y)) := rfl
theorem f_sub (x y : Nat) : soft_Sub.f (x : Int) (y : Int) = some (ofB (D.sub x y)) := rfl
theorem f_mul (x y : Nat) : soft_Mul.f (x : Int) (y : Int) = some (ofB (D.mul x y)) := rfl
theorem f_div (x y : Nat) : soft_Div.f (x : Int) (y : Int) = some (ofB (D.div x y)) := rfl
theorem f_sqrt (x : Nat) : soft_Sqrt.f (x : Int) = some (ofB (D.sqrt x)) := rfl
theorem inf_t : ofB (some (wordN true 9218868437227405312)) = 18442240474082181120 := by kernel_rfl
theorem inf_f : ofB (some (wordN false 9218868437227405312)) = 9218868437227405312 := by kernel_rfl
theorem zer_t : ofB (some (wordN true 0)) = 9223372036854775808 := by kernel_rfl
theorem zer_f : ofB (some (wordN false 0)) = 0 := by kernel_rfl
theorem sqrt_is (x : Nat) (hx : fin x) (h0 : rg x ≠ 0) : ∃ v : Int, soft_Sqrt.f (x : Int) = some v ∧ (v == 9221120237041090560) = sg x := by
  refine ⟨_, f_sqrt x, ?_⟩
  cases hs : sg x with
  | true => rw [sqrt_neg x hx h0 hs]; rfl
  | false =>
    obtain ⟨b, h1, h2, h3⟩ := sqrt_pos x hx h0 hs
    rw [h1, ofB_some b h2, beq_eq_false_iff_ne]
    omega
theorem sure_t : halterlaw02_sure.f = some true := by kernel_rfl

open Go.RowKit (wrap32)
/-- Units of a whole one. -/
def uE : Nat := 1074
def U : Nat := 2 ^ uE
theorem uE_eq : (uE : Int) - 1074 = 0 := by decide
theorem uE_is : uE = 1074 := rfl
theorem U_pos : 0 < U := Nat.two_pow_pos uE
theorem units_U (neg : Bool) (m : Nat) : D.nearest neg m 0 = wordN neg (rnd (m * U)) := by
  have := nearest_units neg m uE
  rw [uE_eq] at this
  exact this
theorem exact_U (m : Nat) (h : m < 9007199254740992) : rnd (m * U) < 9218868437227405312 ∧ mag (rnd (m * U)) = m * U := mag_exact m uE h (by decide)
theorem f_from (v : Int) : soft_FromInt.f v = some (ofB (some (floatOfInt .f64 (wrap32 v)))) := rfl
theorem rg_word (s : Bool) (r : Nat) (h : r < 9223372036854775808) : rg (wordN s r) = r ∧ sg (wordN s r) = s ∧ wordN s r < 18446744073709551616 := by
  unfold wordN rg sg
  cases s
  · rw [if_neg (by simp)]
    refine ⟨by omega, ?_, by omega⟩
    rw [beq_eq_false_iff_ne]; omega
  · rw [if_pos rfl]
    refine ⟨by omega, ?_, by omega⟩
    rw [beq_iff_eq]; omega
theorem int_eq (n : Int) : floatOfInt .f64 n = wordN (decide (n < 0)) (rnd (n.natAbs * U)) := by
  rw [← units_U]
  rfl
theorem int_word (n : Int) (h : n.natAbs < 9007199254740992) : fin (floatOfInt .f64 n) ∧ val (floatOfInt .f64 n) = n * (U : Int) ∧ sg (floatOfInt .f64 n) = decide (n < 0) ∧ rg (floatOfInt .f64 n) ≤ 9218868437227405312 := by
  obtain ⟨m1, m2⟩ := exact_U n.natAbs h
  rw [int_eq]
  obtain ⟨w1, w2, w3⟩ := rg_word (decide (n < 0)) (rnd (n.natAbs * U)) (by omega)
  refine ⟨by show rg _ < _; rw [w1]; exact m1, ?_, w2, by rw [w1]; omega⟩
  unfold val
  rw [w1, w2, m2, Int.natCast_mul]
  by_cases h0 : n < 0
  · rw [decide_eq_true h0, if_pos rfl, ← Int.neg_mul, show -((n.natAbs : Nat) : Int) = n by omega]
  · rw [decide_eq_false h0, if_neg (by simp), show ((n.natAbs : Nat) : Int) = n by omega]
theorem from_eq (n : Int) (h : n.natAbs < 9007199254740992) : ofB (some (floatOfInt .f64 n)) = ((floatOfInt .f64 n : Nat) : Int) := ofB_some _ (int_word n h).2.2.2
theorem scale_abs (k : Int) (U : Nat) : (k * (U : Int)).natAbs = k.natAbs * U := by rw [Int.natAbs_mul]; rfl
theorem int_add (n m : Int) (hn : n.natAbs < 9007199254740992) (hm : m.natAbs < 9007199254740992) : D.add (floatOfInt .f64 n) (floatOfInt .f64 m) = some (floatOfInt .f64 (n + m)) := by
  obtain ⟨a1, a2, a3, _⟩ := int_word n hn
  obtain ⟨b1, b2, b3, _⟩ := int_word m hm
  have hp := U_pos
  rw [add_fin _ _ a1 b1, a2, b2, a3, b3, ← Int.add_mul, scale_abs, int_eq (n + m)]
  generalize U = U at *
  have z : ((n + m) * (U : Int) = 0) = (n + m = 0) := by
    rw [eq_iff_iff]
    constructor
    · intro h
      rcases Int.mul_eq_zero.1 h with h | h
      · exact h
      · omega
    · intro h; rw [h, Int.zero_mul]
  have l : ((n + m) * (U : Int) < 0) = (n + m < 0) := by
    rw [eq_iff_iff]
    constructor
    · intro h
      apply Classical.byContradiction
      intro h2
      have := Int.mul_nonneg (show 0 ≤ n + m by omega) (show (0 : Int) ≤ (U : Int) by omega)
      omega
    · intro h; exact Int.mul_neg_of_neg_of_pos h (by omega)
  simp only [z, l]
  congr 2
  by_cases h : n + m = 0
  · rw [if_pos h, decide_eq_false (show ¬ n + m < 0 by omega)]
    by_cases h1 : n < 0
    · rw [decide_eq_false (show ¬ m < 0 by omega), Bool.and_false]
    · rw [decide_eq_false h1, Bool.false_and]
  · rw [if_neg h]
theorem int_sub (n m : Int) (hn : n.natAbs < 9007199254740992) (hm : m.natAbs < 9007199254740992) : D.sub (floatOfInt .f64 n) (floatOfInt .f64 m) = some (floatOfInt .f64 (n - m)) := by
  obtain ⟨a1, a2, a3, _⟩ := int_word n hn
  obtain ⟨b1, b2, b3, _⟩ := int_word m hm
  have hp := U_pos
  rw [sub_fin _ _ a1 b1, a2, b2, a3, b3, ← Int.sub_mul, scale_abs, int_eq (n - m)]
  generalize U = U at *
  have z : ((n - m) * (U : Int) = 0) = (n - m = 0) := by
    rw [eq_iff_iff]
    constructor
    · intro h
      rcases Int.mul_eq_zero.1 h with h | h
      · exact h
      · omega
    · intro h; rw [h, Int.zero_mul]
  have l : ((n - m) * (U : Int) < 0) = (n - m < 0) := by
    rw [eq_iff_iff]
    constructor
    · intro h
      apply Classical.byContradiction
      intro h2
      have := Int.mul_nonneg (show 0 ≤ n - m by omega) (show (0 : Int) ≤ (U : Int) by omega)
      omega
    · intro h; exact Int.mul_neg_of_neg_of_pos h (by omega)
  simp only [z, l]
  congr 2
  by_cases h : n - m = 0
  · rw [if_pos h, decide_eq_false (show ¬ n - m < 0 by omega)]
    by_cases h1 : n < 0
    · rw [decide_eq_true (show m < 0 by omega), Bool.not_true, Bool.and_false]
    · rw [decide_eq_false h1, Bool.false_and]
  · rw [if_neg h]
theorem int_order (n m : Int) (hn : n.natAbs < 9007199254740992) (hm : m.natAbs < 9007199254740992) : D.order (floatOfInt .f64 n) (floatOfInt .f64 m) = some (compare n m) := by
  obtain ⟨a1, a2, a3, _⟩ := int_word n hn
  obtain ⟨b1, b2, b3, _⟩ := int_word m hm
  rw [order_fin _ _ a1 b1, a2, b2, cmp_scale _ _ _ U_pos]
theorem cut_zero (neg : Bool) (n d : Nat) : Ieee.Toward.zero.cut neg n d = n / 2 ^ d := by
  unfold Ieee.Toward.cut
  dsimp only
  rw [Nat.shiftLeft_eq, Nat.one_mul]
  show n / 2 ^ min d (n.log2 + 2) + 0 = _
  rw [Nat.add_zero]
  by_cases h : d ≤ n.log2 + 2
  · rw [Nat.min_eq_left h]
  · rw [Nat.min_eq_right (by omega)]
    have h1 : n < 2 ^ (n.log2 + 1) := Nat.lt_log2_self
    have h2 : 2 ^ (n.log2 + 1) ≤ 2 ^ (n.log2 + 2) := Nat.pow_le_pow_right (by omega) (by omega)
    have h3 : 2 ^ (n.log2 + 2) ≤ 2 ^ d := Nat.pow_le_pow_right (by omega) (by omega)
    rw [Nat.div_eq_of_lt (by omega), Nat.div_eq_of_lt (by omega)]
theorem toInt_fin (x : Nat) (hx : fin x) : (D.read x).toInt .zero = some (if sg x then -((mag (rg x) / U : Nat) : Int) else ((mag (rg x) / U : Nat) : Int)) := by
  obtain ⟨m, j, h1, h2⟩ := read_fin x hx
  rw [h1]
  show some (Ieee.signed (sg x) (Ieee.Toward.zero.cut (sg x) (m <<< ((j : Int) - 1074).toNat) (-((j : Int) - 1074)).toNat) 0) = _
  have e : m <<< ((j : Int) - 1074).toNat / 2 ^ (-((j : Int) - 1074)).toNat = mag (rg x) / U := by
    rw [Nat.shiftLeft_eq, ← h2]
    by_cases hj : 1074 ≤ j
    · rw [show (-((j : Int) - 1074)).toNat = 0 by omega, show ((j : Int) - 1074).toNat = j - 1074 by omega, Nat.pow_zero, Nat.div_one]
      have hE := uE_is
      have : 2 ^ j = 2 ^ (j - 1074) * U := by unfold U; rw [← Nat.pow_add, show j - 1074 + uE = j by omega]
      rw [this, ← Nat.mul_assoc, Nat.mul_div_cancel _ U_pos]
    · rw [show (-((j : Int) - 1074)).toNat = 1074 - j by omega, show ((j : Int) - 1074).toNat = 0 by omega, Nat.pow_zero, Nat.mul_one]
      have hE := uE_is
      have : U = 2 ^ (1074 - j) * 2 ^ j := by rw [← Nat.pow_add, show 1074 - j + j = uE by omega]; rfl
      rw [this, Nat.mul_div_mul_right _ _ (Nat.two_pow_pos _)]
  rw [cut_zero, e, signed_eq, Nat.pow_zero, Nat.mul_one]
theorem int_toInt (n : Int) (h : n.natAbs < 9007199254740992) : (D.read (floatOfInt .f64 n)).toInt .zero = some n := by
  obtain ⟨a1, a2, a3, _⟩ := int_word n h
  obtain ⟨m1, m2⟩ := exact_U n.natAbs h
  obtain ⟨w1, w2, w3⟩ := rg_word (decide (n < 0)) (rnd (n.natAbs * U)) (by omega)
  rw [toInt_fin _ a1, a3]
  have e : mag (rg (floatOfInt .f64 n)) = n.natAbs * U := by rw [int_eq, w1, m2]
  rw [e, Nat.mul_div_cancel _ U_pos]
  by_cases h0 : n < 0
  · have e2 : -((n.natAbs : Nat) : Int) = n := by omega
    rw [decide_eq_true h0, if_pos rfl, e2]
  · have e2 : ((n.natAbs : Nat) : Int) = n := by omega
    rw [decide_eq_false h0, if_neg (by simp), e2]
theorem c_hi : floatOfInt .f64 2147483647 = 4746794007244308480 := by kernel_rfl
theorem c_lo : floatOfInt .f64 (-2147483648) = 13970166044103278592 := by kernel_rfl
/-- A whole number, cut to 32 bits with signs. -/
def clamp (n : Int) : Int := if n ≥ 2147483647 then 2147483647 else if n ≤ -2147483648 then 2147483648 else n % 4294967296
theorem toInt_is (n : Int) (h : n.natAbs < 9007199254740992) : soft_ToInt.f ((floatOfInt .f64 n : Nat) : Int) = some (clamp n) := by
  have h1 := int_order n 2147483647 h (by decide)
  have h2 := int_order n (-2147483648) h (by decide)
  have h3 := int_order n n h h
  rw [c_hi] at h1
  rw [c_lo] at h2
  have hv : floatToIntVal .f64 (floatOfInt .f64 n) .i32 = if -2147483648 ≤ n ∧ n ≤ 2147483647 then some n else none := by
    show (match (D.read (floatOfInt .f64 n)).toInt .zero with | some n => if IntKind.min .i32 ≤ n ∧ n ≤ IntKind.max .i32 then some n else none | none => none) = _
    rw [int_toInt n h]
    rfl
  show Go.Proofs.YtkaehhfdjenmcaaF.soft_ToInt.f _ = _
  unfold Go.Proofs.YtkaehhfdjenmcaaF.soft_ToInt.f clamp
  rw [toNat_nat]
  rw [show FloatKind.f64.format.order (floatOfInt .f64 n) (floatOfInt .f64 n) = some (compare n n) from h3, show FloatKind.f64.format.order (floatOfInt .f64 n) 4746794007244308480 = some (compare n 2147483647) from h1, show FloatKind.f64.format.order (floatOfInt .f64 n) 13970166044103278592 = some (compare n (-2147483648)) from h2, hv, cmp_int, cmp_int, cmp_int, if_neg (show ¬ n < n by omega), if_pos (show n = n from rfl), if_pos (show some Ordering.eq = some Ordering.eq from rfl)]
  unfold geB leB
  by_cases g : n ≥ 2147483647
  · rw [if_pos g]
    by_cases g2 : n = 2147483647
    · rw [if_neg (show ¬ n < 2147483647 by omega), if_pos g2, if_pos (by decide)]
    · rw [if_neg (show ¬ n < 2147483647 by omega), if_neg g2, if_pos (by decide)]
  · rw [if_neg g, if_pos (show n < 2147483647 by omega), if_neg (by decide)]
    by_cases g3 : n ≤ -2147483648
    · rw [if_pos g3]
      by_cases g4 : n = -2147483648
      · rw [if_neg (show ¬ n < -2147483648 by omega), if_pos g4, if_pos (by decide)]
      · rw [if_pos (show n < -2147483648 by omega), if_pos (by decide)]
    · rw [if_neg g3, if_neg (show ¬ n < -2147483648 by omega), if_neg (show ¬ n = -2147483648 by omega), if_neg (by decide), if_pos (show -2147483648 ≤ n ∧ n ≤ 2147483647 by omega), bind_go]

theorem sum_comm (d e : Ieee.Datum) : d.sum e = e.sum d := by
  cases d with
  | nan => cases e <;> rfl
  | infinity s =>
    cases e with
    | nan => rfl
    | infinity t =>
      show (if s = t then some (Ieee.Datum.infinity s) else none) = (if t = s then some (Ieee.Datum.infinity t) else none)
      cases s <;> cases t <;> rfl
    | number => rfl
  | number s m i =>
    cases e with
    | nan => rfl
    | infinity t => rfl
    | number t n j =>
      unfold Ieee.Datum.sum
      dsimp only
      rw [Int.min_comm i j, Int.add_comm (Ieee.signed s m _), Bool.and_comm s t]
theorem prod_comm (d e : Ieee.Datum) : d.product e = e.product d := by
  cases d with
  | nan => cases e <;> rfl
  | infinity s =>
    cases e with
    | nan => rfl
    | infinity t =>
      show some (Ieee.Datum.infinity (s ^^ t)) = some (Ieee.Datum.infinity (t ^^ s))
      rw [Bool.xor_comm]
    | number => rfl
  | number s m i =>
    cases e with
    | nan => rfl
    | infinity t => rfl
    | number t n j =>
      unfold Ieee.Datum.product
      dsimp only
      rw [Bool.xor_comm s t, Nat.mul_comm m n, Int.add_comm i j]
theorem add_comm' (x y : Nat) : D.add x y = D.add y x := by unfold Ieee.Format.add; rw [sum_comm]
theorem mul_comm' (x y : Nat) : D.mul x y = D.mul y x := by unfold Ieee.Format.mul; rw [prod_comm]
theorem nan_add (x y : Nat) (h : 9218868437227405312 < rg x) : D.add x y = none := by unfold Ieee.Format.add; rw [read_nan x h]; rfl
theorem nan_mul (x y : Nat) (h : 9218868437227405312 < rg x) : D.mul x y = none := by unfold Ieee.Format.mul; rw [read_nan x h]; rfl
theorem nan_div (x y : Nat) (h : 9218868437227405312 < rg x) : D.div x y = none := by unfold Ieee.Format.div; rw [read_nan x h]; rfl
theorem nan_sqrt (x : Nat) (h : 9218868437227405312 < rg x) : D.sqrt x = none := by unfold Ieee.Format.sqrt; rw [read_nan x h]; rfl
theorem nan_ord (x y : Nat) (h : 9218868437227405312 < rg x) : D.order x y = none := by unfold Ieee.Format.order; rw [read_nan x h]; rfl
theorem nan_ord2 (x y : Nat) (h : 9218868437227405312 < rg x) : D.order y x = none := by unfold Ieee.Format.order; rw [read_nan x h]; cases D.read y <;> rfl
theorem inf_sub (x : Nat) (h : rg x = 9218868437227405312) : D.sub x x = none := by
  unfold Ieee.Format.sub
  rw [read_inf x h]
  show ((if sg x = !sg x then some (Ieee.Datum.infinity (sg x)) else none).map D.write) = none
  cases sg x <;> rfl
theorem sub_self (x : Nat) (h : fin x) : D.sub x x = some 0 := by
  rw [sub_fin x x h h, Int.sub_self, if_pos rfl]
  cases sg x <;> rfl
theorem rd_one : D.read 4607182418800017408 = .number false 4503599627370496 (-52) := by kernel_rfl
theorem mul_one' (x : Nat) (h : fin x) (hx : x < 18446744073709551616) : D.mul x 4607182418800017408 = some x := by
  obtain ⟨m, j, h1, h2⟩ := read_fin x h
  unfold Ieee.Format.mul
  rw [h1, rd_one]
  show some (D.nearest (sg x ^^ false) (m * 4503599627370496) ((j : Int) - 1074 + -52)) = some x
  have e := nearest_scale (sg x) m 52 ((j : Int) - 1074)
  rw [show (j : Int) - 1074 - (52 : Nat) = (j : Int) - 1074 + -52 by omega, show m * 2 ^ 52 = m * 4503599627370496 from rfl, write_read x h hx m j h2] at e
  rw [Bool.xor_false, e]
theorem div_one' (x : Nat) (h : fin x) (hx : x < 18446744073709551616) : D.div x 4607182418800017408 = some x := by
  obtain ⟨m, j, h1, h2⟩ := read_fin x h
  have hl : m.log2 < 53 := by
    by_cases h0 : m = 0
    · subst h0; decide
    · refine (Nat.log2_lt h0).2 ?_
      have : m ≤ mag (rg x) := by rw [← h2]; exact Nat.le_mul_of_pos_right _ (Nat.two_pow_pos j)
      have hm : m < 9007199254740992 := by
        have hr := h1
        unfold Ieee.Format.read at hr
        rw [D_sign, D_binade, D_inf] at hr
        dsimp only at hr
        split at hr
        · have := (Ieee.Datum.number.inj hr).2.1; omega
        · split at hr
          · have := (Ieee.Datum.number.inj hr).2.1; omega
          · split at hr <;> cases hr
      omega
  unfold Ieee.Format.div
  rw [h1, rd_one]
  unfold Ieee.Datum.quotient
  dsimp only
  rw [if_neg (by decide), Bool.xor_false, show (4503599627370496 : Nat).log2 = 52 by decide, D_frac, Nat.shiftLeft_eq]
  obtain ⟨k, hk⟩ : ∃ k, 52 + 2 + 52 - m.log2 = 52 + k := ⟨54 - m.log2, by omega⟩
  rw [hk]
  have e1 : m * 2 ^ (52 + k) / 4503599627370496 = m * 2 ^ k := by
    rw [Nat.pow_add, show (2 : Nat) ^ 52 = 4503599627370496 from rfl, Nat.mul_comm 4503599627370496, ← Nat.mul_assoc, Nat.mul_div_cancel _ (by omega)]
  have e2 : m * 2 ^ (52 + k) % 4503599627370496 = 0 := by
    rw [Nat.pow_add, show (2 : Nat) ^ 52 = 4503599627370496 from rfl, Nat.mul_comm 4503599627370496, ← Nat.mul_assoc, Nat.mul_mod_left]
  rw [e1, e2]
  show some (D.nearest (sg x) (2 * (m * 2 ^ k) + 0) ((j : Int) - 1074 - -52 - ((52 + k : Nat) : Int) - 1)) = some x
  have e := nearest_scale (sg x) m (k + 1) ((j : Int) - 1074)
  rw [write_read x h hx m j h2] at e
  rw [show 2 * (m * 2 ^ k) + 0 = m * 2 ^ (k + 1) by rw [Nat.pow_succ, Nat.add_zero, Nat.mul_comm 2, Nat.mul_assoc], show (j : Int) - 1074 - -52 - ((52 + k : Nat) : Int) - 1 = (j : Int) - 1074 - ((k + 1 : Nat) : Int) by omega, e]
/-! Order. -/
theorem mag_step (r : Nat) : mag r < mag (r + 1) := by
  unfold mag
  by_cases h1 : r + 1 < 4503599627370496
  · rw [if_pos h1, if_pos (by omega)]; omega
  · rw [if_neg h1]
    by_cases h2 : r < 4503599627370496
    · have hr : r = 4503599627370495 := by omega
      subst hr
      rw [if_pos h2]
      decide
    · rw [if_neg h2]
      by_cases h3 : r % 4503599627370496 = 4503599627370495
      · have q1 : (r + 1) / 4503599627370496 - 1 = (r / 4503599627370496 - 1) + 1 := by omega
        have q2 : (r + 1) % 4503599627370496 = 0 := by omega
        rw [q1, q2, h3, Nat.pow_succ]
        have hp := Nat.two_pow_pos (r / 4503599627370496 - 1)
        generalize 2 ^ (r / 4503599627370496 - 1) = P at *
        omega
      · have q1 : (r + 1) / 4503599627370496 = r / 4503599627370496 := by omega
        have q2 : (r + 1) % 4503599627370496 = r % 4503599627370496 + 1 := by omega
        rw [q1, q2]
        exact (Nat.mul_lt_mul_right (Nat.two_pow_pos _)).2 (by omega)
theorem mag_lt : ∀ (d r : Nat), mag r < mag (r + d + 1)
  | 0, r => mag_step r
  | d + 1, r => Nat.lt_trans (mag_lt d r) (mag_step (r + d + 1))
theorem mag_mono {r s : Nat} (h : r < s) : mag r < mag s := by
  obtain ⟨d, rfl⟩ : ∃ d, s = r + d + 1 := ⟨s - r - 1, by omega⟩
  exact mag_lt d r

theorem tmod_pos {a m : Int} (h : 0 ≤ a) : Int.tmod a m = a % m := Int.tmod_eq_emod_of_nonneg h
theorem tdiv_pos {a m : Int} (h : 0 ≤ a) : Int.tdiv a m = a / m := Int.tdiv_eq_ediv_of_nonneg h
theorem rclass_eq (x : Nat) (h : x < 18446744073709551616) : halterref02_Class.f (x : Int) = some (if rg x = 0 then 0 else if rg x < 4503599627370496 then 1 else if rg x < 9218868437227405312 then 2 else if rg x = 9218868437227405312 then 3 else 4) := by
  have e1 : Int.tmod (IntKind.wrap .u64 (Int.tdiv (x : Int) 4503599627370496)) 2048 = ((x / 4503599627370496 % 2048 : Nat) : Int) := by
    rw [tdiv_pos (by omega), wu64_id (by omega), tmod_pos (by omega)]; omega
  have e2 : Int.tmod (x : Int) 4503599627370496 = ((x % 4503599627370496 : Nat) : Int) := by rw [tmod_pos (by omega)]; omega
  unfold halterref02_Class.f rg
  rw [e1, e2]
  by_cases h1 : ((x / 4503599627370496 % 2048 : Nat) : Int) = 2047
  · rw [if_pos h1, if_neg (show ¬ x % 9223372036854775808 = 0 by omega), if_neg (show ¬ x % 9223372036854775808 < 4503599627370496 by omega), if_neg (show ¬ x % 9223372036854775808 < 9218868437227405312 by omega)]
    by_cases h3 : ((x % 4503599627370496 : Nat) : Int) = 0
    · rw [if_pos h3, if_pos (show x % 9223372036854775808 = 9218868437227405312 by omega)]
    · rw [if_neg h3, if_neg (show ¬ x % 9223372036854775808 = 9218868437227405312 by omega)]
  · rw [if_neg h1]
    by_cases h2 : ((x / 4503599627370496 % 2048 : Nat) : Int) = 0
    · rw [if_pos h2]
      by_cases h3 : ((x % 4503599627370496 : Nat) : Int) = 0
      · rw [if_pos h3, if_pos (show x % 9223372036854775808 = 0 by omega)]
      · rw [if_neg h3, if_neg (show ¬ x % 9223372036854775808 = 0 by omega), if_pos (show x % 9223372036854775808 < 4503599627370496 by omega)]
    · rw [if_neg h2, if_neg (show ¬ x % 9223372036854775808 = 0 by omega), if_neg (show ¬ x % 9223372036854775808 < 4503599627370496 by omega), if_pos (show x % 9223372036854775808 < 9218868437227405312 by omega)]
theorem rclass4 (x : Nat) (h : x < 18446744073709551616) : ∃ c : Int, halterref02_Class.f (x : Int) = some c ∧ (c = 4 ↔ 9218868437227405312 < rg x) ∧ (c = 0 ↔ rg x = 0) ∧ (c = 3 ↔ rg x = 9218868437227405312) := by
  refine ⟨_, rclass_eq x h, ?_⟩
  by_cases h0 : rg x = 0
  · rw [if_pos h0]; omega
  · rw [if_neg h0]
    by_cases h1 : rg x < 4503599627370496
    · rw [if_pos h1]; omega
    · rw [if_neg h1]
      by_cases h2 : rg x < 9218868437227405312
      · rw [if_pos h2]; omega
      · rw [if_neg h2]
        by_cases h3 : rg x = 9218868437227405312
        · rw [if_pos h3]; omega
        · rw [if_neg h3]; omega
theorem rnone_eq (x y : Nat) (hx : x < 18446744073709551616) (hy : y < 18446744073709551616) : halterref02_none.f (x : Int) (y : Int) = some (decide (9218868437227405312 < rg x) || decide (9218868437227405312 < rg y)) := by
  obtain ⟨c, e, h4, _⟩ := rclass4 x hx
  obtain ⟨d, f, g4, _⟩ := rclass4 y hy
  unfold halterref02_none.f
  rw [e, bind_go]
  by_cases h : c = 4
  · rw [if_pos h, decide_eq_true (h4.1 h), Bool.true_or]
  · rw [if_neg h, f, bind_go, decide_eq_false (fun k => h (h4.2 k)), Bool.false_or]
    congr 1
    rw [Bool.eq_iff_iff, beq_iff_eq, decide_eq_true_eq, g4]

theorem divmod_is {a b d c : Nat} (h : c + b * d = a) (hc : c < b) : a / b = d ∧ a % b = c := (Nat.div_mod_unique (by omega)).2 ⟨h, hc⟩
theorem log2_div (Q j : Nat) (h : Q / 2 ^ j ≠ 0) : Q.log2 = (Q / 2 ^ j).log2 + j := by
  have hp := Nat.two_pow_pos j
  have h0 : Q ≠ 0 := by intro e; subst e; exact h (Nat.zero_div _)
  have h1 := Nat.log2_self_le h
  have h2 : Q / 2 ^ j < 2 ^ ((Q / 2 ^ j).log2 + 1) := Nat.lt_log2_self
  have hd : 2 ^ j * (Q / 2 ^ j) + Q % 2 ^ j = Q := Nat.div_add_mod Q (2 ^ j)
  have hm := Nat.mod_lt Q hp
  rw [Nat.log2_eq_iff h0]
  constructor
  · rw [Nat.pow_add, Nat.mul_comm]
    exact Nat.le_trans (Nat.mul_le_mul_left _ h1) (by omega)
  · rw [show (Q / 2 ^ j).log2 + j + 1 = (Q / 2 ^ j).log2 + 1 + j by omega, Nat.pow_add, Nat.mul_comm]
    have h3 : 2 ^ j * (Q / 2 ^ j + 1) ≤ 2 ^ j * 2 ^ ((Q / 2 ^ j).log2 + 1) := Nat.mul_le_mul_left _ h2
    rw [Nat.mul_add, Nat.mul_one] at h3
    omega
theorem log2_four (Q : Nat) (b : Bool) (h : Q ≠ 0) : (4 * Q + b.toNat).log2 = Q.log2 + 2 := by
  have hb : b.toNat ≤ 1 := by cases b <;> decide
  have e : (4 * Q + b.toNat) / 2 ^ 2 = Q := by omega
  have := log2_div (4 * Q + b.toNat) 2 (by rw [e]; exact h)
  rw [this, e]
theorem rne_sticky (Q j e : Nat) (b : Bool) : rne (4 * Q + b.toNat) (j + (e + 1) + 2) = rne (4 * (Q / 2 ^ j) + (decide (Q % 2 ^ j ≠ 0) || b).toNat) (e + 1 + 2) := by
  have hp := Nat.two_pow_pos j
  have he := Nat.two_pow_pos e
  have hQ : 2 ^ j * (Q / 2 ^ j) + Q % 2 ^ j = Q := Nat.div_add_mod Q (2 ^ j)
  have hR := Nat.mod_lt Q hp
  have hE : 2 ^ (e + 1) = 2 * 2 ^ e := by rw [Nat.pow_succ]; omega
  have hA : 2 ^ (e + 1) * (Q / 2 ^ j / 2 ^ (e + 1)) + Q / 2 ^ j % 2 ^ (e + 1) = Q / 2 ^ j := Nat.div_add_mod _ _
  have hS := Nat.mod_lt (Q / 2 ^ j) (Nat.two_pow_pos (e + 1))
  have p1 : 2 ^ (j + (e + 1) + 2) = 4 * (2 ^ j * (2 * 2 ^ e)) := by rw [Nat.pow_add, Nat.pow_add, hE]; omega
  have p2 : 2 ^ (e + 1 + 2) = 4 * (2 * 2 ^ e) := by rw [Nat.pow_add, hE]; omega
  rw [hE] at hA hS
  generalize hs : (decide (Q % 2 ^ j ≠ 0) || b) = s
  have hb : b.toNat ≤ 1 := by cases b <;> decide
  have hs1 : s.toNat ≤ 1 := by cases s <;> decide
  have hz : s.toNat = 0 ↔ Q % 2 ^ j = 0 ∧ b.toNat = 0 := by
    rw [← hs]
    cases b
    · by_cases h : Q % 2 ^ j = 0
      · simp [h]
      · simp [h]
    · simp
  generalize hB : Q / 2 ^ j / (2 * 2 ^ e) = B at *
  generalize hSS : Q / 2 ^ j % (2 * 2 ^ e) = S at *
  generalize hRR : Q % 2 ^ j = R at *
  generalize hAA : Q / 2 ^ j = A at *
  generalize 2 ^ j = P at *
  generalize 2 ^ e = E at *
  have hPA : P * A = P * (2 * E) * B + P * S := by rw [← hA, Nat.mul_add, ← Nat.mul_assoc]
  have x1 : P * S + P ≤ P * (2 * E) := by
    have : P * (S + 1) ≤ P * (2 * E) := Nat.mul_le_mul_left _ hS
    rw [Nat.mul_add, Nat.mul_one] at this; exact this
  have l : (4 * Q + b.toNat) / (4 * (P * (2 * E))) = B ∧ (4 * Q + b.toNat) % (4 * (P * (2 * E))) = 4 * (P * S + R) + b.toNat := by
    refine divmod_is ?_ (by omega)
    rw [Nat.mul_assoc]; omega
  have r : (4 * A + s.toNat) / (4 * (2 * E)) = B ∧ (4 * A + s.toNat) % (4 * (2 * E)) = 4 * S + s.toNat := by
    refine divmod_is ?_ (by omega)
    rw [Nat.mul_assoc]; omega
  unfold rne
  rw [p1, p2, l.1, l.2, r.1, r.2]
  have x2 : P * (2 * E) = 2 * (P * E) := by rw [← Nat.mul_assoc, Nat.mul_comm P 2, Nat.mul_assoc]
  rw [x2] at x1 ⊢
  have tri : (E < S ∧ P * E + P ≤ P * S) ∨ (E = S ∧ P * E = P * S) ∨ (S < E ∧ P * S + P ≤ P * E) := by
    rcases Nat.lt_trichotomy E S with h | h | h
    · left
      refine ⟨h, ?_⟩
      have : P * (E + 1) ≤ P * S := Nat.mul_le_mul_left _ h
      rw [Nat.mul_add, Nat.mul_one] at this; exact this
    · right; left; exact ⟨h, by rw [h]⟩
    · right; right
      refine ⟨h, ?_⟩
      have : P * (S + 1) ≤ P * E := Nat.mul_le_mul_left _ h
      rw [Nat.mul_add, Nat.mul_one] at this; exact this
  clear hA hB hSS hRR hAA hPA l r p1 p2 hE hQ x2 hs
  have c1 : decide (4 * (2 * (P * E)) < 2 * (4 * (P * S + R) + b.toNat)) = decide (4 * (2 * E) < 2 * (4 * S + s.toNat)) := by
    rw [decide_eq_decide]; omega
  have c2 : decide (4 * (2 * (P * E)) = 2 * (4 * (P * S + R) + b.toNat)) = decide (4 * (2 * E) = 2 * (4 * S + s.toNat)) := by
    rw [decide_eq_decide]; omega
  rw [c1, c2]
/-- What is cut off far below the last bit counts only by whether it is there. -/
theorem nearest_sticky (neg : Bool) (Q j : Nat) (b : Bool) (p : Int) (hQ : 9007199254740992 ≤ Q / 2 ^ j) : D.nearest neg (4 * Q + b.toNat) (p - 2) = D.nearest neg (4 * (Q / 2 ^ j) + (decide (Q % 2 ^ j ≠ 0) || b).toNat) (p + j - 2) := by
  have hA0 : Q / 2 ^ j ≠ 0 := by omega
  have hlA : 53 ≤ (Q / 2 ^ j).log2 := (Nat.le_log2 hA0).2 hQ
  have hl := log2_div Q j hA0
  have h0 : Q ≠ 0 := by intro e; rw [e, Nat.zero_div] at hA0; exact hA0 rfl
  rw [nearest_eq, nearest_eq, if_neg (by omega), if_neg (by omega), log2_four Q b h0, log2_four (Q / 2 ^ j) _ hA0, hl]
  generalize hg : (Q / 2 ^ j).log2 = g at *
  have e1 : p - 2 + ((g + j + 2 : Nat) : Int) - 52 = p + j - 2 + ((g + 2 : Nat) : Int) - 52 := by omega
  rw [e1]
  generalize hL : max (p + (j : Int) - 2 + ((g + 2 : Nat) : Int) - 52) (-1074) = L
  have hL1 : p + j + 1 ≤ L := by omega
  obtain ⟨e, he⟩ : ∃ e : Nat, L = p + j + 1 + e := ⟨(L - (p + j + 1)).toNat, by omega⟩
  rw [show (p - 2 - L).toNat = 0 by omega, show (p + j - 2 - L).toNat = 0 by omega, Nat.pow_zero, Nat.mul_one, Nat.mul_one, show (L - (p - 2)).toNat = j + (e + 1) + 2 by omega, show (L - (p + j - 2)).toNat = e + 1 + 2 by omega, rne_sticky]

/-- Rounded by the last bit taken down and by whether anything is below it. -/
theorem rne_half (M d : Nat) (b : Bool) : rne (4 * M + b.toNat) (d + 3) = M / 2 ^ (d + 1) + ((M / 2 ^ d % 2 == 1) && ((b || decide (M % 2 ^ d ≠ 0)) || (M / 2 ^ (d + 1) % 2 == 1))).toNat := by
  have h := rne_sticky M d 0 b
  rw [show d + (0 + 1) + 2 = d + 3 by omega] at h
  rw [h, Bool.or_comm]
  have e : M / 2 ^ (d + 1) = M / 2 ^ d / 2 := by rw [Nat.pow_succ, Nat.div_div_eq_div_mul]
  rw [e]
  generalize M / 2 ^ d = A
  generalize (b || decide (M % 2 ^ d ≠ 0)) = s
  unfold rne
  rw [show 2 ^ (0 + 1 + 2) = 8 from rfl]
  rcases Nat.mod_two_eq_zero_or_one A with ha | ha
  · cases s
    · rw [show (4 * A + false.toNat) / 8 = A / 2 by simp; omega, show (4 * A + false.toNat) % 8 = 0 by simp; omega, ha]; rfl
    · rw [show (4 * A + true.toNat) / 8 = A / 2 by simp; omega, show (4 * A + true.toNat) % 8 = 1 by simp; omega, ha]; rfl
  · cases s
    · rw [show (4 * A + false.toNat) / 8 = A / 2 by simp; omega, show (4 * A + false.toNat) % 8 = 4 by simp; omega, ha]; rfl
    · rw [show (4 * A + true.toNat) / 8 = A / 2 by simp; omega, show (4 * A + true.toNat) % 8 = 5 by simp; omega, ha]
      show A / 2 + _ = A / 2 + _
      simp
theorem rne_two (M : Nat) (b : Bool) : rne (4 * M + b.toNat) 2 = M := by
  unfold rne
  have hb : b.toNat ≤ 1 := by cases b <;> decide
  rw [show (2 : Nat) ^ 2 = 4 from rfl, show (4 * M + b.toNat) / 4 = M by omega, show (4 * M + b.toNat) % 4 = b.toNat by omega]
  cases b <;> simp
/-- How far a number is taken down. -/
def down (M : Nat) (E : Int) : Nat := (max ((M.log2 : Int) - 52) (-1074 - E)).toNat
/-- What is left of a number that is taken down, with the last bit that was taken, and whether anything is below. -/
def hf (M d : Nat) : Bool := match d with | 0 => false | d + 1 => M / 2 ^ d % 2 == 1
def rs (M d : Nat) (b : Bool) : Bool := match d with | 0 => b | d + 1 => b || decide (M % 2 ^ d ≠ 0)
theorem rne_hr (M d : Nat) (b : Bool) : rne (4 * M + b.toNat) (d + 2) = M / 2 ^ d + (hf M d && (rs M d b || (M / 2 ^ d % 2 == 1))).toNat := by
  cases d with
  | zero => rw [Nat.zero_add, rne_two]; unfold hf; simp
  | succ d => rw [show d + 1 + 2 = d + 3 by omega, rne_half]; rfl
theorem nearest_down (neg : Bool) (M : Nat) (E : Int) (b : Bool) (h0 : M ≠ 0) (hs : 0 ≤ max ((M.log2 : Int) - 52) (-1074 - E)) : D.nearest neg (4 * M + b.toNat) (E - 2) = wordN neg (min ((E + down M E + 1074).toNat * 4503599627370496 + (M / 2 ^ down M E + (hf M (down M E) && (rs M (down M E) b || (M / 2 ^ down M E % 2 == 1))).toNat)) 9218868437227405312) := by
  rw [nearest_eq, if_neg (by omega), log2_four M b h0]
  have hd : (down M E : Int) = max ((M.log2 : Int) - 52) (-1074 - E) := by unfold down; omega
  have e : max (E - 2 + ((M.log2 + 2 : Nat) : Int) - 52) (-1074) = E + down M E := by omega
  rw [e, show (E - 2 - (E + down M E)).toNat = 0 by omega, show (E + (down M E : Int) - (E - 2)).toNat = down M E + 2 by omega, Nat.pow_zero, Nat.mul_one, rne_hr]
theorem nearest_up (neg : Bool) (M k : Nat) (E : Int) (h0 : M ≠ 0) (hk : (M.log2 : Int) - 52 ≤ -(k : Int)) (hk2 : -1074 - E ≤ -(k : Int)) (hs : (k : Int) = 52 - (M.log2 : Int) ∨ (k : Int) = 1074 + E) : D.nearest neg (4 * M) (E - 2) = wordN neg (min ((E - k + 1074).toNat * 4503599627370496 + M * 2 ^ k) 9218868437227405312) := by
  have h := nearest_scale neg M 2 E
  rw [show M * 2 ^ 2 = 4 * M by omega, show E - ((2 : Nat) : Int) = E - 2 from rfl] at h
  rw [h, nearest_eq, if_neg h0]
  have e : max (E + (M.log2 : Int) - 52) (-1074) = E - k := by omega
  rw [e, show (E - (k : Int) - E).toNat = 0 by omega, show (E - (E - (k : Int))).toNat = k by omega, rne_zero]

def hf2 (h : Bool) (M d : Nat) : Bool := match d with | 0 => h | d + 1 => M / 2 ^ d % 2 == 1
def rs2 (h r : Bool) (M d : Nat) : Bool := match d with | 0 => r | d + 1 => (r || h) || decide (M % 2 ^ d ≠ 0)
theorem hf2_step (h : Bool) (M d : Nat) : hf2 (M % 2 == 1) (M / 2) d = hf2 h M (d + 1) := by
  cases d with
  | zero => show (M % 2 == 1) = (M / 2 ^ 0 % 2 == 1); rw [Nat.pow_zero, Nat.div_one]
  | succ e => show (M / 2 / 2 ^ e % 2 == 1) = (M / 2 ^ (e + 1) % 2 == 1); rw [Nat.div_div_eq_div_mul, Nat.pow_succ, Nat.mul_comm]
theorem rs2_step (h r : Bool) (M d : Nat) : rs2 (M % 2 == 1) (r || h) (M / 2) d = rs2 h r M (d + 1) := by
  cases d with
  | zero =>
    show (r || h) = ((r || h) || decide (M % 2 ^ 0 ≠ 0))
    rw [Nat.pow_zero, Nat.mod_one]; simp
  | succ e =>
    show (((r || h) || (M % 2 == 1)) || decide (M / 2 % 2 ^ e ≠ 0)) = ((r || h) || decide (M % 2 ^ (e + 1) ≠ 0))
    rw [Bool.or_assoc]
    congr 1
    rw [Nat.pow_succ, Nat.mul_comm (2 ^ e) 2, Nat.mod_mul]
    generalize M / 2 % 2 ^ e = X
    rw [Bool.eq_iff_iff, Bool.or_eq_true, beq_iff_eq, decide_eq_true_eq, decide_eq_true_eq]
    omega
theorem log2_half (M : Nat) : (M / 2).log2 = M.log2 - 1 := by
  by_cases h : M < 2
  · rw [show M / 2 = 0 by omega]
    have : M.log2 = 0 := by
      rcases Nat.lt_or_ge M 1 with h1 | h1
      · rw [show M = 0 by omega]; rfl
      · rw [show M = 1 by omega]; rfl
    rw [this]; rfl
  · have := log2_div M 1 (by rw [Nat.pow_one]; omega)
    rw [Nat.pow_one] at this; omega
theorem log2_ge (M k : Nat) (h0 : M ≠ 0) : k ≤ M.log2 ↔ 2 ^ k ≤ M := Nat.le_log2 h0
theorem R_half (M : Nat) (hM : M < 18446744073709551616) : IntKind.wrap .u64 (Int.tdiv (M : Int) 2) = ((M / 2 : Nat) : Int) := by
  rw [Int.tdiv_eq_ediv_of_nonneg (by omega), wu64_id (by omega)]; omega
theorem R_odd (M : Nat) : (Int.tmod (M : Int) 2 == 1) = (M % 2 == 1) := by
  rw [Int.tmod_eq_emod_of_nonneg (by omega), Bool.eq_iff_iff, beq_iff_eq, beq_iff_eq]; omega
theorem R_l0 (neg more : Bool) : ∀ (d n M : Nat) (E : Int) (h r : Bool), d < n → M < 18446744073709551616 → -1000000 < E → E + d < 1000000 → down M E = d → (d = 0 ∨ M ≠ 0 ∨ h = true ∨ r = true) → halterref02_Round.l0 neg more n (M : Int) E h r = some (((M / 2 ^ d : Nat) : Int), E + d, hf2 h M d, rs2 h r M d) := by
  intro d
  induction d with
  | zero =>
    intro n M E h r hn hM h1 h2 hd hz
    obtain ⟨q, rfl⟩ := fuel_step hn
    unfold down at hd
    have hm : M < 9007199254740992 := by
      rcases Nat.lt_or_ge M 9007199254740992 with g | g
      · exact g
      · have := (log2_ge M 53 (by omega)).2 g
        omega
    rw [halterref02_Round.l0, if_neg (by omega), if_neg (by omega), Nat.pow_zero, Nat.div_one, show E + ((0 : Nat) : Int) = E by omega]
    rfl
  | succ d ih =>
    intro n M E h r hn hM h1 h2 hd hz
    obtain ⟨q, rfl⟩ := fuel_step hn
    unfold down at hd
    have e2 : IntKind.wrap .i64 (E + 1) = E + 1 := wi64 (by omega) (by omega)
    have hl := log2_half M
    have hd2 : down (M / 2) (E + 1) = d := by unfold down; rw [hl]; omega
    have hz2 : d = 0 ∨ M / 2 ≠ 0 ∨ (M % 2 == 1) = true ∨ (r || h) = true := by
      rcases hz with hz | hz | hz | hz
      · omega
      · by_cases g : M / 2 = 0
        · right; right; left; rw [beq_iff_eq]; omega
        · right; left; exact g
      · right; right; right; rw [hz, Bool.or_true]
      · right; right; right; rw [hz, Bool.true_or]
    have key := ih q (M / 2) (E + 1) (M % 2 == 1) (r || h) (by omega) (by omega) (by omega) (by omega) hd2 hz2
    have e4 : M / 2 / 2 ^ d = M / 2 ^ (d + 1) := by rw [Nat.div_div_eq_div_mul, Nat.pow_succ, Nat.mul_comm]
    have e5 : E + 1 + (d : Int) = E + ((d + 1 : Nat) : Int) := by omega
    rw [hf2_step h, rs2_step, e4, e5] at key
    rw [← key, halterref02_Round.l0, R_half M hM, R_odd M, e2]
    by_cases c1 : (M : Int) ≥ 9007199254740992
    · rw [if_pos c1]
      cases r
      · rw [if_neg (by simp)]; cases h <;> rfl
      · rw [if_pos rfl]; rfl
    · rw [if_neg c1]
      have c2 : E < -1074 := by
        have hm : M.log2 < 53 := by
          rcases Nat.eq_zero_or_pos M with g | g
          · rw [g]; decide
          · exact (Nat.log2_lt (by omega)).2 (by omega)
        omega
      rw [if_pos c2]
      by_cases c3 : (M : Int) > 0
      · rw [if_pos c3]
        cases r
        · rw [if_neg (by simp)]; cases h <;> rfl
        · rw [if_pos rfl]; rfl
      · rw [if_neg c3]
        cases h
        · rw [if_neg (by simp)]
          cases r
          · exfalso
            rcases hz with hz | hz | hz | hz
            · omega
            · omega
            · cases hz
            · cases hz
          · rw [if_pos rfl]; rfl
        · rw [if_pos rfl]
          cases r
          · rw [if_neg (by simp)]; rfl
          · rw [if_pos rfl]; rfl
theorem R_l1stop (t : Int × Int × Bool × Bool) (neg more : Bool) (n : Nat) (M : Nat) (E : Int) (hn : 0 < n) (hs : M = 0 ∨ 4503599627370496 ≤ M ∨ E ≤ -1074) : halterref02_Round.l1 t neg more n (M : Int) E = some ((M : Int), E) := by
  obtain ⟨q, rfl⟩ := fuel_step hn
  rw [halterref02_Round.l1]
  by_cases c1 : (M : Int) > 0
  · rw [if_pos c1]
    by_cases c2 : (M : Int) < 4503599627370496
    · rw [if_pos c2, if_neg (by omega)]
    · rw [if_neg c2]
  · rw [if_neg c1]
theorem R_l1 (t : Int × Int × Bool × Bool) (neg more : Bool) (t1 : t.2.2.1 = false) (t2 : t.2.2.2 = false) : ∀ (k n M : Nat) (E : Int), k < n → M ≠ 0 → M < 9007199254740992 → E < 1000000 → M.log2 + k ≤ 52 → -1074 + (k : Int) ≤ E → (M.log2 + k = 52 ∨ E = -1074 + k) → halterref02_Round.l1 t neg more n (M : Int) E = some (((M * 2 ^ k : Nat) : Int), E - k) := by
  intro k
  induction k with
  | zero =>
    intro n M E hn h0 hM hE hl hE2 hs
    rw [R_l1stop t neg more n M E hn (by
      rcases hs with hs | hs
      · right; left; exact (log2_ge M 52 h0).1 (by omega)
      · right; right; omega), Nat.pow_zero, Nat.mul_one, show E - ((0 : Nat) : Int) = E by omega]
  | succ k ih =>
    intro n M E hn h0 hM hE hl hE2 hs
    obtain ⟨q, rfl⟩ := fuel_step hn
    have hm : M < 4503599627370496 := by
      rcases Nat.lt_or_ge M 4503599627370496 with g | g
      · exact g
      · have := (log2_ge M 52 h0).2 g
        omega
    have e1 : IntKind.wrap .u64 ((2 : Int) * (M : Int)) = ((M * 2 : Nat) : Int) := by rw [wu64_id (by omega)]; omega
    have e2 : IntKind.wrap .i64 (E - 1) = E - 1 := wi64 (by omega) (by omega)
    have hl2 : (M * 2).log2 = M.log2 + 1 := log2_shift M 1 h0
    rw [halterref02_Round.l1, if_pos (by omega), if_pos (by omega), if_pos (by omega), if_pos (by rw [t1]; simp), if_pos (by rw [t2]; simp), e1, e2, ih q (M * 2) (E - 1) (by omega) (by omega) (by omega) (by omega) (by omega) (by omega) (by omega)]
    have e3 : M * 2 * 2 ^ k = M * 2 ^ (k + 1) := by rw [Nat.pow_succ, Nat.mul_assoc, Nat.mul_comm 2]
    have e4 : E - 1 - (k : Int) = E - ((k + 1 : Nat) : Int) := by omega
    rw [e3, e4]
theorem rsigned_eq (neg : Bool) (r : Nat) (h : r < 9223372036854775808) : halterref02_signed.f neg (r : Int) = some ((wordN neg r : Nat) : Int) := by
  unfold halterref02_signed.f wordN
  cases neg
  · rw [if_neg (by simp), if_neg (by simp)]
  · have e : (r : Int) + 9223372036854775808 = ((9223372036854775808 + r : Nat) : Int) := by omega
    rw [if_pos rfl, if_pos rfl, wu64_id (by omega), e]
theorem R_post (neg : Bool) (M : Nat) (E : Int) (hM : M ≤ 9007199254740992) (h1 : -1000000 < E) (h2 : E < 1000000) (h3 : M = 0 ∨ -1074 ≤ E) (h4 : M = 0 ∨ 4503599627370496 ≤ M ∨ E = -1074) :
    (if (M : Int) = (9007199254740992 : Int) then
        if (IntKind.wrap .u64 (Int.tdiv (M : Int) (2 : Int))) = (0 : Int) then
          (halterref02_signed.f neg (0 : Int)).bind fun t72 =>
          some t72
        else
          if (IntKind.wrap .u64 (Int.tdiv (M : Int) (2 : Int))) < (4503599627370496 : Int) then
            (halterref02_signed.f neg (IntKind.wrap .u64 (Int.tdiv (M : Int) (2 : Int)))).bind fun t74 =>
            some t74
          else
            if (IntKind.wrap .i64 ((IntKind.wrap .i64 (E + (1 : Int))) + (1075 : Int))) ≥ (2047 : Int) then
              (halterref02_signed.f neg (9218868437227405312 : Int)).bind fun t76 =>
              some t76
            else
              (halterref02_signed.f neg (IntKind.wrap .u64 ((IntKind.wrap .u64 ((IntKind.wrap .u64 ((IntKind.wrap .u64 ((IntKind.wrap .i64 ((IntKind.wrap .i64 (E + (1 : Int))) + (1075 : Int))))) * (4503599627370496 : Int))) + (IntKind.wrap .u64 (Int.tdiv (M : Int) (2 : Int))))) - (4503599627370496 : Int)))).bind fun t77 =>
              some t77
      else
        if (M : Int) = (0 : Int) then
          (halterref02_signed.f neg (0 : Int)).bind fun t79 =>
          some t79
        else
          if (M : Int) < (4503599627370496 : Int) then
            (halterref02_signed.f neg (M : Int)).bind fun t81 =>
            some t81
          else
            if (IntKind.wrap .i64 (E + (1075 : Int))) ≥ (2047 : Int) then
              (halterref02_signed.f neg (9218868437227405312 : Int)).bind fun t83 =>
              some t83
            else
              (halterref02_signed.f neg (IntKind.wrap .u64 ((IntKind.wrap .u64 ((IntKind.wrap .u64 ((IntKind.wrap .u64 ((IntKind.wrap .i64 (E + (1075 : Int))))) * (4503599627370496 : Int))) + (M : Int))) - (4503599627370496 : Int)))).bind fun t84 =>
              some t84) = some ((wordN neg (if M = 0 then 0 else min ((E + 1074).toNat * 4503599627370496 + M) 9218868437227405312) : Nat) : Int) := by
  have w1 : IntKind.wrap .i64 (E + 1) = E + 1 := wi64 (by omega) (by omega)
  have w2 : IntKind.wrap .i64 (E + 1 + 1075) = E + 1076 := by rw [wi64 (by omega) (by omega)]; omega
  have w3 : IntKind.wrap .i64 (E + 1075) = E + 1075 := wi64 (by omega) (by omega)
  have hinf : halterref02_signed.f neg (9218868437227405312 : Int) = some ((wordN neg 9218868437227405312 : Nat) : Int) := rsigned_eq neg 9218868437227405312 (by omega)
  have hzer : halterref02_signed.f neg (0 : Int) = some ((wordN neg 0 : Nat) : Int) := rsigned_eq neg 0 (by omega)
  rw [R_half M (by omega), w1, w2, w3]
  by_cases c1 : (M : Int) = 9007199254740992
  · have hM2 : M = 9007199254740992 := by omega
    rw [if_pos c1, if_neg (by omega), if_neg (by omega), if_neg (show ¬ M = 0 by omega), hM2]
    rcases h3 with h3 | h3
    · omega
    by_cases c2 : E + 1076 ≥ 2047
    · rw [if_pos c2, hinf, bind_go, show min ((E + 1074).toNat * 4503599627370496 + 9007199254740992) 9218868437227405312 = 9218868437227405312 by omega]
    · have e : IntKind.wrap .u64 (IntKind.wrap .u64 (IntKind.wrap .u64 (IntKind.wrap .u64 (E + 1076) * 4503599627370496) + ((9007199254740992 / 2 : Nat) : Int)) - 4503599627370496) = ((((E + 1074).toNat * 4503599627370496 + 9007199254740992 : Nat)) : Int) := by
        rw [wu64_id (x := E + 1076) (by omega), wu64_id (x := (E + 1076) * 4503599627370496) (by omega), wu64_id (x := (E + 1076) * 4503599627370496 + _) (by omega), wu64_id (by omega)]; omega
      rw [if_neg c2, e, rsigned_eq neg _ (by omega), bind_go, show min ((E + 1074).toNat * 4503599627370496 + 9007199254740992) 9218868437227405312 = (E + 1074).toNat * 4503599627370496 + 9007199254740992 by omega]
  · rw [if_neg c1]
    by_cases c0 : (M : Int) = 0
    · rw [if_pos c0, if_pos (show M = 0 by omega), hzer, bind_go]
    · rw [if_neg c0, if_neg (show ¬ M = 0 by omega)]
      have h3 : -1074 ≤ E := by omega
      by_cases c3 : (M : Int) < 4503599627370496
      · have hE : E = -1074 := by omega
        rw [if_pos c3, rsigned_eq neg M (by omega), bind_go, hE, show min ((-1074 + 1074 : Int).toNat * 4503599627370496 + M) 9218868437227405312 = M by simp; omega]
      · rw [if_neg c3]
        by_cases c2 : E + 1075 ≥ 2047
        · rw [if_pos c2, hinf, bind_go, show min ((E + 1074).toNat * 4503599627370496 + M) 9218868437227405312 = 9218868437227405312 by omega]
        · have e : IntKind.wrap .u64 (IntKind.wrap .u64 (IntKind.wrap .u64 (IntKind.wrap .u64 (E + 1075) * 4503599627370496) + (M : Int)) - 4503599627370496) = ((((E + 1074).toNat * 4503599627370496 + M : Nat)) : Int) := by
            rw [wu64_id (x := E + 1075) (by omega), wu64_id (x := (E + 1075) * 4503599627370496) (by omega), wu64_id (x := (E + 1075) * 4503599627370496 + _) (by omega), wu64_id (by omega)]; omega
          rw [if_neg c2, e, rsigned_eq neg _ (by omega), bind_go, show min ((E + 1074).toNat * 4503599627370496 + M) 9218868437227405312 = (E + 1074).toNat * 4503599627370496 + M by omega]
theorem R_div_small (M : Nat) (E : Int) (h0 : M ≠ 0) (hs : 0 ≤ max ((M.log2 : Int) - 52) (-1074 - E)) : M / 2 ^ down M E < 9007199254740992 ∧ -1074 ≤ E + (down M E : Int) ∧ (4503599627370496 ≤ M / 2 ^ down M E ∨ E + (down M E : Int) = -1074) := by
  have hd : (down M E : Int) = max ((M.log2 : Int) - 52) (-1074 - E) := by unfold down; omega
  have h1 := Nat.log2_self_le h0
  have h2 : M < 2 ^ (M.log2 + 1) := Nat.lt_log2_self
  generalize down M E = d at *
  refine ⟨?_, by omega, ?_⟩
  · rw [Nat.div_lt_iff_lt_mul (Nat.two_pow_pos d)]
    have : 2 ^ (M.log2 + 1) ≤ 2 ^ 53 * 2 ^ d := by rw [← Nat.pow_add]; exact Nat.pow_le_pow_right (by omega) (by omega)
    omega
  · by_cases h : (d : Int) = -1074 - E
    · right; omega
    · left
      rw [Nat.le_div_iff_mul_le (Nat.two_pow_pos d)]
      have : 2 ^ (52 + d) ≤ 2 ^ M.log2 := Nat.pow_le_pow_right (by omega) (by omega)
      rw [Nat.pow_add] at this
      omega
theorem R_min (E : Int) (X : Nat) (h : -1074 ≤ E) (hX : 4503599627370496 ≤ X ∨ E = -1074) : (if X = 0 then 0 else min ((E + 1074).toNat * 4503599627370496 + X) 9218868437227405312) = min ((E + 1074).toNat * 4503599627370496 + X) 9218868437227405312 := by
  by_cases h0 : X = 0
  · rw [if_pos h0]; omega
  · rw [if_neg h0]
theorem R_inc (M : Nat) (h : M < 18446744073709551615) : IntKind.wrap .u64 ((M : Int) + 1) = ((M + 1 : Nat) : Int) := by rw [wu64_id (by omega)]; omega
/-- The document's rounding is the nearest word. -/
theorem Round_eq (neg : Bool) (M : Nat) (E : Int) (more : Bool) (hM : M < 18446744073709551616) (h1 : -100000 < E) (h2 : E < 100000) (hm : more = true → 4503599627370496 ≤ M) : halterref02_Round.f neg (M : Int) E more = some ((D.nearest neg (4 * M + more.toNat) (E - 2) : Nat) : Int) := by
  by_cases h0 : M = 0
  · subst h0
    cases more with
    | true => exact absurd (hm rfl) (by omega)
    | false =>
      obtain ⟨q, hq⟩ := fuel_step (fuel_gt (n := 0) (by omega))
      have e0 : halterref02_Round.l0 neg false FUEL ((0 : Nat) : Int) E false false = some (((0 : Nat) : Int), E, false, false) := by
        rw [hq, halterref02_Round.l0, if_neg (by omega)]
        by_cases c : E < -1074
        · rw [if_pos c, if_neg (by omega), if_neg (by simp), if_neg (by simp)]
        · rw [if_neg c]
      unfold halterref02_Round.f
      rw [e0, bind_go]
      dsimp only
      rw [R_l1stop _ neg false FUEL 0 E (fuel_gt (by omega)) (Or.inl rfl), bind_go, if_neg (by simp)]
      dsimp only
      rw [R_post neg 0 E (by omega) (by omega) (by omega) (Or.inl rfl) (Or.inl rfl), nearest_eq, if_pos rfl, if_pos (by simp)]
  · have hl : M.log2 < 64 := (Nat.log2_lt h0).2 (by omega)
    have hdn : down M E ≤ 200000 := by unfold down; omega
    have e0 := R_l0 neg more (down M E) FUEL M E false more (fuel_gt (by omega)) hM (by omega) (by omega) rfl (Or.inr (Or.inl h0))
    unfold halterref02_Round.f
    rw [e0, bind_go]
    dsimp only
    by_cases hs : 0 ≤ max ((M.log2 : Int) - 52) (-1074 - E)
    · obtain ⟨b1, b2, b3⟩ := R_div_small M E h0 hs
      have f1 : hf2 false M (down M E) = hf M (down M E) := by unfold hf2 hf; rfl
      have f2 : rs2 false more M (down M E) = rs M (down M E) more := by
        unfold rs2 rs
        cases down M E with
        | zero => rfl
        | succ d => dsimp only; rw [Bool.or_false]
      have hE3 : E + (down M E : Int) < 1000000 := by omega
      rw [R_l1stop _ neg more FUEL (M / 2 ^ down M E) (E + down M E) (fuel_gt (by omega)) (by omega), bind_go, f1, f2, nearest_down neg M E more h0 hs]
      dsimp only
      generalize down M E = d at *
      generalize M / 2 ^ d = Q at *
      generalize hf M d = h at *
      generalize rs M d more = r at *
      have inc : (IntKind.wrap .u64 ((Q : Int) + 1)) = ((Q + 1 : Nat) : Int) := R_inc Q (by omega)
      rw [inc]
      have P0 := R_post neg Q (E + (d : Int)) (by omega) (by omega) hE3 (by omega) (by omega)
      have P1 := R_post neg (Q + 1) (E + (d : Int)) (by omega) (by omega) hE3 (by omega) (by omega)
      rw [R_min _ _ b2 (by omega)] at P0 P1
      cases h with
      | false => rw [if_neg (by simp), P0]; rfl
      | true =>
        rw [if_pos rfl]
        cases r with
        | true => rw [if_pos rfl, P1]; rfl
        | false =>
          rw [if_neg (by simp)]
          have ho : (Int.tmod (Q : Int) 2 = 1) = (Q % 2 = 1) := by
            rw [Int.tmod_eq_emod_of_nonneg (by omega), eq_iff_iff]; omega
          by_cases c : Q % 2 = 1
          · rw [if_pos (show Int.tmod (Q : Int) 2 = 1 by rw [ho]; exact c), P1, c]; rfl
          · rw [if_neg (show ¬ Int.tmod (Q : Int) 2 = 1 by rw [ho]; exact c), P0, show Q % 2 = 0 by omega]; rfl
    · have hd0 : down M E = 0 := by unfold down; omega
      have hmore : more = false := by
        cases more with
        | false => rfl
        | true => have := (log2_ge M 52 h0).2 (hm rfl); omega
      subst hmore
      rw [hd0, Nat.pow_zero, Nat.div_one, show E + ((0 : Nat) : Int) = E by omega]
      show (Option.bind (halterref02_Round.l1 ((M : Int), E, false, false) neg false FUEL (M : Int) E) _) = _
      obtain ⟨k, hk⟩ : ∃ k : Nat, (k : Int) = min (52 - (M.log2 : Int)) (1074 + E) := ⟨(min (52 - (M.log2 : Int)) (1074 + E)).toNat, by omega⟩
      have hMs : M < 4503599627370496 := by
        rcases Nat.lt_or_ge M 4503599627370496 with g | g
        · exact g
        · have := (log2_ge M 52 h0).2 g
          omega
      rw [R_l1 ((M : Int), E, false, false) neg false rfl rfl k FUEL M E (fuel_gt (by omega)) h0 (by omega) (by omega) (by omega) (by omega) (by omega), bind_go]
      show (if false = true then _ else _) = _
      rw [if_neg (by simp)]
      dsimp only
      have h3 := Nat.log2_self_le h0
      have h4 : M < 2 ^ (M.log2 + 1) := Nat.lt_log2_self
      have h5 : M * 2 ^ k < 2 ^ (M.log2 + 1) * 2 ^ k := (Nat.mul_lt_mul_right (Nat.two_pow_pos k)).2 h4
      have h6 : 2 ^ (M.log2 + 1) * 2 ^ k ≤ 2 ^ 53 := by rw [← Nat.pow_add]; exact Nat.pow_le_pow_right (by omega) (by omega)
      have h7 : 4503599627370496 ≤ M * 2 ^ k ∨ E - (k : Int) = -1074 := by
        by_cases c : M.log2 + k = 52
        · left
          have : 2 ^ M.log2 * 2 ^ k ≤ M * 2 ^ k := Nat.mul_le_mul_right _ h3
          rw [← Nat.pow_add, c] at this
          omega
        · right; omega
      have en := nearest_up neg M k E h0 (by omega) (by omega) (by omega)
      rw [show 4 * M + false.toNat = 4 * M from rfl, en]
      have P0 := R_post neg (M * 2 ^ k) (E - (k : Int)) (by omega) (by omega) (by omega) (by omega) (by omega)
      rw [R_min _ _ (by omega) h7] at P0
      rw [P0]

/-- A finite word's whole number and its place. -/
def om (x : Nat) : Nat := if rg x < 4503599627370496 then rg x else 4503599627370496 + rg x % 4503599627370496
def oj (x : Nat) : Nat := rg x / 4503599627370496 - 1
theorem om_mag (x : Nat) : om x * 2 ^ oj x = mag (rg x) := by
  unfold om oj mag
  by_cases h : rg x < 4503599627370496
  · rw [if_pos h, if_pos h, show rg x / 4503599627370496 - 1 = 0 by omega, Nat.pow_zero, Nat.mul_one]
  · rw [if_neg h, if_neg h]
theorem om_lt (x : Nat) : om x < 9007199254740992 := by unfold om; split <;> omega
theorem oj_le (x : Nat) (h : fin x) : oj x ≤ 2045 := by
  have h : rg x < 9218868437227405312 := h
  unfold oj; omega
theorem om_zero (x : Nat) : om x = 0 ↔ rg x = 0 := by unfold om; split <;> omega
theorem om_big (x : Nat) : oj x = 0 ∨ 4503599627370496 ≤ om x := by unfold om oj; split <;> omega
theorem om_read (x : Nat) (h : fin x) : D.read x = .number (sg x) (om x) ((oj x : Int) - 1074) := by
  have h : rg x < 9218868437227405312 := h
  unfold Ieee.Format.read
  rw [D_sign, D_binade, D_inf, D_least]
  dsimp only
  show (if rg x < 4503599627370496 then Ieee.Datum.number (sg x) (rg x) (-1074) else if rg x < 9218868437227405312 then .number (sg x) (4503599627370496 + rg x % 4503599627370496) (-1074 + ((rg x / 4503599627370496 - 1 : Nat) : Int)) else if rg x = 9218868437227405312 then .infinity (sg x) else .nan (sg x) (rg x - 9218868437227405312)) = _
  unfold om oj
  by_cases h1 : rg x < 4503599627370496
  · rw [if_pos h1, if_pos h1, show rg x / 4503599627370496 - 1 = 0 by omega]; rfl
  · rw [if_neg h1, if_pos h, if_neg h1, show (-1074 : Int) + ((rg x / 4503599627370496 - 1 : Nat) : Int) = ((rg x / 4503599627370496 - 1 : Nat) : Int) - 1074 by omega]
theorem neg_eq (x : Nat) (hx : x < 18446744073709551616) : halterref02_Neg.f (x : Int) = some (sg x) := by
  unfold halterref02_Neg.f sg
  congr 1
  rw [Bool.eq_iff_iff, decide_eq_true_eq, beq_iff_eq]
  omega
theorem open_eq (x : Nat) (hx : x < 18446744073709551616) (h : fin x) : halterref02_Open.f (x : Int) = some (sg x, (om x : Int), (oj x : Int) - 1074, false) := by
  have h : x % 9223372036854775808 < 9218868437227405312 := h
  have e1 : IntKind.wrap .i64 (Int.tmod (IntKind.wrap .u64 (Int.tdiv (x : Int) 4503599627370496)) 2048) = ((x / 4503599627370496 % 2048 : Nat) : Int) := by
    rw [Int.tdiv_eq_ediv_of_nonneg (by omega), wu64_id (by omega), Int.tmod_eq_emod_of_nonneg (by omega), wi64 (by omega) (by omega)]; omega
  have e2 : Int.tmod (x : Int) 4503599627370496 = ((x % 4503599627370496 : Nat) : Int) := by rw [Int.tmod_eq_emod_of_nonneg (by omega)]; omega
  unfold halterref02_Open.f
  rw [e1, e2, neg_eq x hx, bind_go, bind_go]
  unfold om oj rg
  by_cases h1 : ((x / 4503599627370496 % 2048 : Nat) : Int) = 0
  · rw [if_pos h1, if_pos (show x % 9223372036854775808 < 4503599627370496 by omega), show x % 9223372036854775808 / 4503599627370496 - 1 = 0 by omega, show x % 4503599627370496 = x % 9223372036854775808 by omega]
    rfl
  · have e3 : IntKind.wrap .u64 (((x % 4503599627370496 : Nat) : Int) + 4503599627370496) = ((4503599627370496 + x % 9223372036854775808 % 4503599627370496 : Nat) : Int) := by rw [wu64_id (by omega)]; omega
    have e4 : IntKind.wrap .i64 (((x / 4503599627370496 % 2048 : Nat) : Int) - 1075) = ((x % 9223372036854775808 / 4503599627370496 - 1 : Nat) : Int) - 1074 := by rw [wi64 (by omega) (by omega)]; omega
    rw [if_neg h1, if_neg (show ¬ x % 9223372036854775808 < 4503599627370496 by omega), e3, e4]

/-! The document's sum: the lesser one is taken down, with what falls off told. -/
theorem l1_l0 (t t' : Bool × Int × Int × Bool) : ∀ n a b c d e, halterref02_Add.l1 t t' n a b c d e = halterref02_Add.l0 t t' n a b c d e := by
  intro n
  induction n with
  | zero => intros; rfl
  | succ n ih => intros; rw [halterref02_Add.l1, halterref02_Add.l0]; simp only [ih]
theorem l2_l0 (t t' : Bool × Int × Int × Bool) : ∀ n a b c d e, halterref02_Add.l2 t t' n a b c d e = halterref02_Add.l0 t t' n a b c d e := by
  intro n
  induction n with
  | zero => intros; rfl
  | succ n ih => intros; rw [halterref02_Add.l2, halterref02_Add.l0]; simp only [ih]
theorem l3_l0 (t t' : Bool × Int × Int × Bool) : ∀ n a b c d e, halterref02_Add.l3 t t' n a b c d e = halterref02_Add.l0 t t' n a b c d e := by
  intro n
  induction n with
  | zero => intros; rfl
  | succ n ih => intros; rw [halterref02_Add.l3, halterref02_Add.l0]; simp only [ih]
theorem shift_odd (Y j : Nat) : (decide (Y % 2 ^ j ≠ 0) || (Y / 2 ^ j % 2 == 1)) = decide (Y % 2 ^ (j + 1) ≠ 0) := by
  rw [Nat.pow_succ, Nat.mod_mul, Bool.eq_iff_iff, Bool.or_eq_true, beq_iff_eq, decide_eq_true_eq, decide_eq_true_eq]
  have hp := Nat.two_pow_pos j
  have h2 : Y / 2 ^ j % 2 = 0 ∨ Y / 2 ^ j % 2 = 1 := by omega
  generalize Y / 2 ^ j % 2 = b at *
  generalize Y % 2 ^ j = a at *
  rcases h2 with h | h <;> subst h
  · rw [Nat.mul_zero]; omega
  · rw [Nat.mul_one]; omega
theorem A_l0 (t t' : Bool × Int × Int × Bool) (Y : Nat) (B0 : Int) (hY : 0 < Y) (hY2 : Y < 2305843009213693952) (b1 : -100000 < B0) (b2 : B0 < 100000) : ∀ (d n X kx j : Nat), kx = j + d → d < n → kx < 100000 → X < 4611686018427387904 → Y / 2 ^ j ≠ 0 → (j = 0 ∨ 2305843009213693952 ≤ X) → ∃ (X' k : Nat) (z : Int), halterref02_Add.l0 t t' n (X : Int) (B0 + kx) ((Y / 2 ^ j : Nat) : Int) (B0 + j) (decide (Y % 2 ^ j ≠ 0)) = some ((X' : Int), B0 + k, ((Y / 2 ^ k : Nat) : Int), z, decide (Y % 2 ^ k ≠ 0)) ∧ X' * 2 ^ k = X * 2 ^ kx ∧ (k = 0 ∨ 2305843009213693952 ≤ X') ∧ X' < 4611686018427387904 ∧ k ≤ kx := by
  intro d
  induction d with
  | zero =>
    intro n X kx j hk hn hb hX hq hj
    obtain ⟨q, rfl⟩ := fuel_step hn
    refine ⟨X, kx, B0 + j, ?_, rfl, ?_, hX, Nat.le_refl _⟩
    · rw [halterref02_Add.l0, if_neg (by omega), show kx = j by omega]
    · omega
  | succ d ih =>
    intro n X kx j hk hn hb hX hq hj
    obtain ⟨q, rfl⟩ := fuel_step hn
    have hle : Y / 2 ^ j ≤ Y := Nat.div_le_self _ _
    have hq' : ((Y / 2 ^ j : Nat) : Int) > 0 := Int.natCast_pos.2 (Nat.pos_of_ne_zero hq)
    by_cases c : X < 2305843009213693952
    · have hj0 : j = 0 := by omega
      have e1 : IntKind.wrap .u64 ((2 : Int) * (X : Int)) = ((X * 2 : Nat) : Int) := by rw [wu64_id (by omega)]; omega
      have e2 : IntKind.wrap .i64 (B0 + (kx : Int) - 1) = B0 + ((kx - 1 : Nat) : Int) := by rw [wi64 (by omega) (by omega)]; omega
      obtain ⟨X', k, z, a1, a2, a3, a4, a5⟩ := ih q (X * 2) (kx - 1) j (by omega) (by omega) (by omega) (by omega) hq (Or.inl hj0)
      refine ⟨X', k, z, ?_, ?_, a3, a4, by omega⟩
      · rw [halterref02_Add.l0, if_pos (by omega), if_pos hq', if_pos (by omega), e1, e2, a1]
      · rw [a2, Nat.mul_assoc, show 2 * 2 ^ (kx - 1) = 2 ^ kx by rw [Nat.mul_comm, ← Nat.pow_succ]; congr 1; omega]
    · have e1 := R_half (Y / 2 ^ j) (by omega)
      have e4 : Y / 2 ^ j / 2 = Y / 2 ^ (j + 1) := by rw [Nat.div_div_eq_div_mul, Nat.pow_succ]
      rw [e4] at e1
      have e2 : IntKind.wrap .i64 (B0 + (j : Int) + 1) = B0 + ((j + 1 : Nat) : Int) := by rw [wi64 (by omega) (by omega)]; omega
      have e3 : (if decide (Y % 2 ^ j ≠ 0) = true then true else (Int.tmod ((Y / 2 ^ j : Nat) : Int) 2 == 1)) = decide (Y % 2 ^ (j + 1) ≠ 0) := by
        rw [R_odd, ← shift_odd]
        cases decide (Y % 2 ^ j ≠ 0) <;> simp
      by_cases z0 : Y / 2 ^ (j + 1) = 0
      · have hlt : Y < 2 ^ (j + 1) := by
          rcases Nat.div_eq_zero_iff.1 z0 with h | h
          · exact absurd h (by have := Nat.two_pow_pos (j + 1); omega)
          · exact h
        have hk2 : 2 ^ (j + 1) ≤ 2 ^ kx := Nat.pow_le_pow_right (by omega) (by omega)
        have g1 : Y / 2 ^ kx = 0 := Nat.div_eq_of_lt (by omega)
        have g2 : decide (Y % 2 ^ kx ≠ 0) = decide (Y % 2 ^ (j + 1) ≠ 0) := by rw [Nat.mod_eq_of_lt (show Y < 2 ^ kx by omega), Nat.mod_eq_of_lt hlt]
        refine ⟨X, kx, B0 + ((j + 1 : Nat) : Int), ?_, rfl, Or.inr (by omega), hX, Nat.le_refl _⟩
        rw [halterref02_Add.l0, if_pos (by omega), if_pos hq', if_neg (by omega), e1, e2, z0, g1, g2, ← e3]
        cases decide (Y % 2 ^ j ≠ 0)
        · rw [if_neg (by simp), if_pos (by rfl), if_neg (by simp)]
        · rw [if_pos rfl, if_pos (by rfl), if_pos rfl]
      · obtain ⟨X', k, z, a1, a2, a3, a4, a5⟩ := ih q X kx (j + 1) (by omega) (by omega) (by omega) hX z0 (Or.inr (by omega))
        refine ⟨X', k, z, ?_, a2, a3, a4, a5⟩
        have z0' : ¬ ((Y / 2 ^ (j + 1) : Nat) : Int) = 0 := fun h => z0 (Int.natCast_eq_zero.1 h)
        rw [halterref02_Add.l0, if_pos (by omega), if_pos hq', if_neg (by omega), e1, e2, ← a1, ← e3]
        cases decide (Y % 2 ^ j ≠ 0)
        · rw [if_neg (by simp), if_neg z0', if_neg (by simp)]
        · rw [if_pos rfl, if_neg z0', if_pos rfl]
/-- With what was cut off told, the nearest word of the whole. -/
theorem nearest_cut (neg : Bool) (N k : Nat) (B : Int) (h : k = 0 ∨ 9007199254740992 ≤ N / 2 ^ k) : D.nearest neg (4 * (N / 2 ^ k) + (decide (N % 2 ^ k ≠ 0)).toNat) (B + k - 2) = D.nearest neg N B := by
  have e : D.nearest neg (4 * N) (B - 2) = D.nearest neg N B := by
    have := nearest_scale neg N 2 B
    rw [show N * 2 ^ 2 = 4 * N by omega] at this
    exact this
  rcases h with h | h
  · subst h
    rw [Nat.pow_zero, Nat.div_one, Nat.mod_one, show B + ((0 : Nat) : Int) - 2 = B - 2 by omega]
    exact e
  · have := nearest_sticky neg N k false B h
    rw [Bool.or_false, show false.toNat = 0 from rfl, Nat.add_zero] at this
    rw [← this, e]
def addW (s t : Bool) (a b : Nat) : Nat := if s = t then wordN s (rnd (a + b)) else if a < b then wordN t (rnd (b - a)) else if a = b then 0 else wordN s (rnd (a - b))
theorem addW_units (s t : Bool) (A B j : Nat) : addW s t (A * 2 ^ j) (B * 2 ^ j) = if s = t then wordN s (rnd ((A + B) * 2 ^ j)) else if A < B then wordN t (rnd ((B - A) * 2 ^ j)) else if A = B then 0 else wordN s (rnd ((A - B) * 2 ^ j)) := by
  have hp := Nat.two_pow_pos j
  unfold addW
  rw [Nat.add_mul, Nat.sub_mul, Nat.sub_mul]
  have h1 : (A * 2 ^ j < B * 2 ^ j) = (A < B) := by rw [eq_iff_iff]; exact Nat.mul_lt_mul_right hp
  have h2 : (A * 2 ^ j = B * 2 ^ j) = (A = B) := by rw [eq_iff_iff]; exact Nat.mul_left_inj (by omega)
  simp only [h1, h2]
theorem nearest_w (s : Bool) (W j : Nat) : D.nearest s (256 * W) ((j : Int) - 1074 - 8) = wordN s (rnd (W * 2 ^ j)) := by
  have := nearest_scale s W 8 ((j : Int) - 1074)
  rw [show 256 * W = W * 2 ^ 8 by omega, show (j : Int) - 1074 - 8 = (j : Int) - 1074 - ((8 : Nat) : Int) from rfl, this, nearest_units]
theorem add_core (t t' : Bool × Int × Int × Bool) (sg_ sl : Bool) (Mg Ml jg jl : Nat) (h1 : Mg < 9007199254740992) (h2 : Ml < 9007199254740992) (g0 : Mg ≠ 0) (l0 : Ml ≠ 0) (hj : jl ≤ jg) (hb : jg ≤ 2045) :
    ((halterref02_Add.l0 t t' FUEL (IntKind.wrap .u64 ((256 : Int) * (Mg : Int))) (IntKind.wrap .i64 ((jg : Int) - 1074 - (8 : Int))) (IntKind.wrap .u64 ((256 : Int) * (Ml : Int))) (IntKind.wrap .i64 ((jl : Int) - 1074 - (8 : Int))) false).bind fun t62 =>
      if sg_ = sl then
        (halterref02_Round.f sg_ (IntKind.wrap .u64 (t62.1 + t62.2.2.1)) t62.2.1 t62.2.2.2.2).bind fun t83 =>
        some t83
      else
        if t62.1 < t62.2.2.1 then
          (halterref02_Round.f sl (IntKind.wrap .u64 (t62.2.2.1 - t62.1)) t62.2.1 false).bind fun t85 =>
          some t85
        else
          if t62.2.2.2.2 = true then
            if (IntKind.wrap .u64 ((IntKind.wrap .u64 (t62.1 - t62.2.2.1)) - (1 : Int))) = (0 : Int) then
              (halterref02_Round.f sg_ (IntKind.wrap .u64 ((IntKind.wrap .u64 (t62.1 - t62.2.2.1)) - (1 : Int))) t62.2.1 t62.2.2.2.2).bind fun t88 =>
              some t88
            else
              (halterref02_Round.f sg_ (IntKind.wrap .u64 ((IntKind.wrap .u64 (t62.1 - t62.2.2.1)) - (1 : Int))) t62.2.1 t62.2.2.2.2).bind fun t89 =>
              some t89
          else
            if (IntKind.wrap .u64 (t62.1 - t62.2.2.1)) = (0 : Int) then
              some (0 : Int)
            else
              (halterref02_Round.f sg_ (IntKind.wrap .u64 (t62.1 - t62.2.2.1)) t62.2.1 t62.2.2.2.2).bind fun t91 =>
              some t91) = some ((addW sg_ sl (Mg * 2 ^ jg) (Ml * 2 ^ jl) : Nat) : Int) := by
  have w1 : IntKind.wrap .u64 ((256 : Int) * (Mg : Int)) = ((256 * Mg : Nat) : Int) := by rw [wu64_id (by omega)]; omega
  have w2 : IntKind.wrap .u64 ((256 : Int) * (Ml : Int)) = ((256 * Ml : Nat) : Int) := by rw [wu64_id (by omega)]; omega
  have w3 : IntKind.wrap .i64 ((jg : Int) - 1074 - 8) = (jl : Int) - 1074 - 8 + ((jg - jl : Nat) : Int) := by rw [wi64 (by omega) (by omega)]; omega
  have w4 : IntKind.wrap .i64 ((jl : Int) - 1074 - 8) = (jl : Int) - 1074 - 8 := by rw [wi64 (by omega) (by omega)]
  obtain ⟨X, k, z, a1, a2, a3, a4, a5⟩ := A_l0 t t' (256 * Ml) ((jl : Int) - 1074 - 8) (by omega) (by omega) (by omega) (by omega) (jg - jl) FUEL (256 * Mg) (jg - jl) 0 (by omega) (fuel_gt (by omega)) (by omega) (by omega) (by rw [Nat.pow_zero]; omega) (Or.inl rfl)
  have e0 : decide ((256 * Ml) % 2 ^ 0 ≠ 0) = false := by rw [Nat.pow_zero, Nat.mod_one]; rfl
  rw [e0, Nat.pow_zero, Nat.div_one, show (jl : Int) - 1074 - 8 + ((0 : Nat) : Int) = (jl : Int) - 1074 - 8 by omega] at a1
  have ejg : Mg * 2 ^ jg = Mg * 2 ^ (jg - jl) * 2 ^ jl := by rw [Nat.mul_assoc, ← Nat.pow_add, show jg - jl + jl = jg by omega]
  rw [w1, w2, w3, w4, a1, bind_go, ejg, addW_units]
  dsimp only
  rw [Nat.mul_assoc] at a2
  generalize Mg * 2 ^ (jg - jl) = A at *
  have hp := Nat.two_pow_pos k
  have hd : 2 ^ k * (256 * Ml / 2 ^ k) + 256 * Ml % 2 ^ k = 256 * Ml := Nat.div_add_mod _ _
  have hr := Nat.mod_lt (256 * Ml) hp
  have hk0 : k = 0 → 256 * Ml / 2 ^ k = 256 * Ml ∧ 256 * Ml % 2 ^ k = 0 ∧ X * 2 ^ k = X := fun h => by subst h; rw [Nat.pow_zero, Nat.div_one, Nat.mod_one, Nat.mul_one]; exact ⟨rfl, rfl, rfl⟩
  have hk1 : k ≠ 0 → 256 * Ml / 2 ^ k ≤ 1152921504606846976 := fun h => by
    have : 2 ^ 1 ≤ 2 ^ k := Nat.pow_le_pow_right (by omega) (by omega)
    have h3 : 256 * Ml / 2 ^ k ≤ 256 * Ml / 2 ^ 1 := Nat.div_le_div_left this (by omega)
    omega
  have hB : -100000 < (jl : Int) - 1074 - 8 + (k : Int) := by omega
  have hB2 : (jl : Int) - 1074 - 8 + (k : Int) < 100000 := by omega
  have cut := fun (s : Bool) (N : Nat) (h : k = 0 ∨ 9007199254740992 ≤ N / 2 ^ k) => nearest_cut s N k ((jl : Int) - 1074 - 8) h
  generalize hq : 256 * Ml / 2 ^ k = q at *
  generalize hrr : 256 * Ml % 2 ^ k = r at *
  have hcomm : X * 2 ^ k = 2 ^ k * X := Nat.mul_comm _ _
  by_cases hs : sg_ = sl
  · rw [if_pos hs, if_pos hs]
    have e1 : IntKind.wrap .u64 ((X : Int) + (q : Int)) = ((X + q : Nat) : Int) := by
      have : q ≤ 256 * Ml := by rw [← hq]; exact Nat.div_le_self _ _
      rw [wu64_id (by omega)]; omega
    have hN : (256 * (A + Ml)) / 2 ^ k = X + q ∧ (256 * (A + Ml)) % 2 ^ k = r := by
      refine divmod_is ?_ hr
      rw [Nat.mul_add]; omega
    have hN2 := cut sg_ (256 * (A + Ml)) (by rw [hN.1]; omega)
    rw [hN.1, hN.2, nearest_w] at hN2
    rw [e1, Round_eq sg_ (X + q) _ _ (by
      have : q ≤ 256 * Ml := by rw [← hq]; exact Nat.div_le_self _ _
      omega) hB hB2 (fun h => by have := of_decide_eq_true h; omega), hN2, bind_go]
  · rw [if_neg hs, if_neg hs]
    by_cases c : X < q
    · have k0 : k = 0 := by
        rcases Nat.eq_zero_or_pos k with h | h
        · exact h
        · have := hk1 (by omega); omega
      obtain ⟨u1, u2, u3⟩ := hk0 k0
      have e1 : IntKind.wrap .u64 ((q : Int) - (X : Int)) = ((q - X : Nat) : Int) := by rw [wu64_id (by omega)]; omega
      have hN : (256 * (Ml - A)) / 2 ^ k = q - X ∧ (256 * (Ml - A)) % 2 ^ k = 0 := by
        refine divmod_is ?_ hp
        rw [Nat.mul_sub]; rw [k0, Nat.pow_zero]; omega
      have hN2 := cut sl (256 * (Ml - A)) (Or.inl k0)
      rw [hN.1, hN.2, nearest_w] at hN2
      rw [if_pos (by omega), if_pos (by omega), e1, Round_eq sl (q - X) _ _ (by omega) hB hB2 (fun h => by cases h), bind_go]
      exact congrArg (fun z : Nat => some (z : Int)) hN2
    · rw [if_neg (show ¬ (X : Int) < (q : Int) by omega)]
      have e1 : IntKind.wrap .u64 ((X : Int) - (q : Int)) = ((X - q : Nat) : Int) := by rw [wu64_id (by omega)]; omega
      rw [e1]
      by_cases r0 : r = 0
      · rw [if_neg (show ¬ decide (r ≠ 0) = true by rw [decide_eq_true_eq]; omega)]
        by_cases x0 : X = q
        · have : X * 2 ^ k = q * 2 ^ k := by rw [x0]
          have hc2 : q * 2 ^ k = 2 ^ k * q := Nat.mul_comm _ _
          rw [if_pos (show ((X - q : Nat) : Int) = 0 by omega), if_neg (by omega), if_pos (by omega)]; rfl
        · have hlt : q * 2 ^ k < X * 2 ^ k := (Nat.mul_lt_mul_right hp).2 (by omega)
          have hc2 : q * 2 ^ k = 2 ^ k * q := Nat.mul_comm _ _
          have hN : (256 * (A - Ml)) / 2 ^ k = X - q ∧ (256 * (A - Ml)) % 2 ^ k = 0 := by
            refine divmod_is ?_ hp
            rw [Nat.mul_sub, Nat.mul_sub]; omega
          have hN2 := cut sg_ (256 * (A - Ml)) (by
            rw [hN.1]
            by_cases k0 : k = 0
            · exact Or.inl k0
            · have := hk1 k0; omega)
          rw [hN.1, hN.2, nearest_w] at hN2
          rw [if_neg (show ¬ ((X - q : Nat) : Int) = 0 by omega), if_neg (by omega), if_neg (by omega), r0, show decide ((0 : Nat) ≠ 0) = false from rfl, Round_eq sg_ (X - q) _ _ (by omega) hB hB2 (fun h => by cases h), bind_go]
          exact congrArg (fun z : Nat => some (z : Int)) hN2
      · have k0 : k ≠ 0 := fun h => r0 (hk0 h).2.1
        have hq2 := hk1 k0
        have e2 : IntKind.wrap .u64 (((X - q : Nat) : Int) - 1) = ((X - q - 1 : Nat) : Int) := by rw [wu64_id (by omega)]; omega
        have hle : 2 ^ k * (q + 1) ≤ 2 ^ k * X := Nat.mul_le_mul_left _ (by omega)
        rw [Nat.mul_add, Nat.mul_one] at hle
        have hN : (256 * (A - Ml)) / 2 ^ k = X - q - 1 ∧ (256 * (A - Ml)) % 2 ^ k = 2 ^ k - r := by
          refine divmod_is ?_ (by omega)
          rw [Nat.mul_sub, Nat.mul_sub, Nat.mul_sub, Nat.mul_one]; omega
        have hN2 := cut sg_ (256 * (A - Ml)) (by rw [hN.1]; omega)
        rw [hN.1, hN.2, nearest_w, decide_eq_true (show 2 ^ k - r ≠ 0 by omega)] at hN2
        rw [if_pos (show decide (r ≠ 0) = true by rw [decide_eq_true_eq]; omega), e2, if_neg (show ¬ ((X - q - 1 : Nat) : Int) = 0 by omega), if_neg (by omega), if_neg (by omega), decide_eq_true r0, Round_eq sg_ (X - q - 1) _ _ (by omega) hB hB2 (fun _ => by omega), hN2, bind_go]
theorem addW_comm (s t : Bool) (a b : Nat) : addW s t a b = addW t s b a := by
  unfold addW
  by_cases h : s = t
  · subst h; rw [if_pos rfl, if_pos rfl, Nat.add_comm]
  · have h' : ¬ t = s := fun e => h e.symm
    rw [if_neg h, if_neg h']
    rcases Nat.lt_trichotomy a b with g | g | g
    · rw [if_pos g, if_neg (show ¬ b < a by omega), if_neg (show ¬ b = a by omega)]
    · rw [if_neg (show ¬ a < b by omega), if_pos g, if_neg (show ¬ b < a by omega), if_pos g.symm]
    · rw [if_neg (show ¬ a < b by omega), if_neg (show ¬ a = b by omega), if_pos g]
theorem rnd_zero : rnd 0 = 0 := rfl
theorem rnd_le (N : Nat) : rnd N ≤ 9218868437227405312 := by
  unfold Go.Proofs.YtkaehhfdjenmcaaF.rnd
  split <;> omega
theorem addW_rg (s t : Bool) (a b : Nat) : rg (addW s t a b) ≤ 9218868437227405312 := by
  unfold addW
  have h : ∀ (s : Bool) (N : Nat), rg (wordN s (rnd N)) ≤ 9218868437227405312 := fun s N => by
    have := rnd_le N
    rw [(rg_word s (rnd N) (by omega)).1]; exact this
  split
  · exact h _ _
  · split
    · exact h _ _
    · split
      · decide
      · exact h _ _
theorem add_word (x y : Nat) (hx : fin x) (hy : fin y) : D.add x y = some (addW (sg x) (sg y) (mag (rg x)) (mag (rg y))) := by
  rw [add_fin x y hx hy]
  congr 1
  unfold val addW
  generalize mag (rg x) = a
  generalize mag (rg y) = b
  cases sg x <;> cases sg y
  · rw [if_neg (show ¬ (false = true) by simp), if_neg (show ¬ (false = true) by simp), if_pos rfl, show ((a : Int) + (b : Int)).natAbs = a + b by omega]
    congr 1
    by_cases h : (a : Int) + (b : Int) = 0
    · rw [if_pos h]; rfl
    · rw [if_neg h, decide_eq_false (by omega)]
  · rw [if_neg (show ¬ (false = true) by simp), if_pos rfl, if_neg (show ¬ (false = true) by simp)]
    rcases Nat.lt_trichotomy a b with g | g | g
    · rw [if_neg (by omega), if_pos g, decide_eq_true (by omega), show ((a : Int) + -(b : Int)).natAbs = b - a by omega]
    · rw [if_pos (by omega), if_neg (by omega), if_pos g, show ((a : Int) + -(b : Int)).natAbs = 0 by omega]; rfl
    · rw [if_neg (by omega), if_neg (by omega), if_neg (by omega), decide_eq_false (by omega), show ((a : Int) + -(b : Int)).natAbs = a - b by omega]
  · rw [if_pos rfl, if_neg (show ¬ (false = true) by simp), if_neg (show ¬ (true = false) by simp)]
    rcases Nat.lt_trichotomy a b with g | g | g
    · rw [if_neg (by omega), if_pos g, decide_eq_false (by omega), show (-(a : Int) + (b : Int)).natAbs = b - a by omega]
    · rw [if_pos (by omega), if_neg (by omega), if_pos g, show (-(a : Int) + (b : Int)).natAbs = 0 by omega]; rfl
    · rw [if_neg (by omega), if_neg (by omega), if_neg (by omega), decide_eq_true (by omega), show (-(a : Int) + (b : Int)).natAbs = a - b by omega]
  · rw [if_pos rfl, if_pos rfl, if_pos rfl, show (-(a : Int) + -(b : Int)).natAbs = a + b by omega]
    congr 1
    by_cases h : -(a : Int) + -(b : Int) = 0
    · rw [if_pos h]; rfl
    · rw [if_neg h, decide_eq_true (by omega)]
theorem om_pos (x : Nat) (h : om x ≠ 0) : 0 < mag (rg x) := by
  rw [← om_mag x]; exact Nat.mul_pos (by omega) (Nat.two_pow_pos _)
theorem om_nil (x : Nat) (h : om x = 0) : mag (rg x) = 0 := by rw [← om_mag x, h, Nat.zero_mul]
theorem word_rnd (x : Nat) (hx : fin x) (h : x < 18446744073709551616) : wordN (sg x) (rnd (mag (rg x))) = x := by rw [rnd_mag _ hx, word_self x h]
theorem ref_add_fin (x y : Nat) (fx : fin x) (fy : fin y) (hx : x < 18446744073709551616) (hy : y < 18446744073709551616) : halterref02_Add.f (x : Int) (y : Int) = some ((addW (sg x) (sg y) (mag (rg x)) (mag (rg y)) : Nat) : Int) := by
  have fx' : rg x < 9218868437227405312 := fx
  have fy' : rg y < 9218868437227405312 := fy
  obtain ⟨c, e, h4, _, h3⟩ := rclass4 x hx
  obtain ⟨d, f, g4, _, g3⟩ := rclass4 y hy
  unfold halterref02_Add.f
  rw [rnone_eq x y hx hy, bind_go, decide_eq_false (show ¬ 9218868437227405312 < rg x by omega), decide_eq_false (show ¬ 9218868437227405312 < rg y by omega), if_neg (show ¬ ((false || false) = true) by simp), e, bind_go, if_neg (fun k => by have := h3.1 k; omega), f, bind_go, if_neg (fun k => by have := g3.1 k; omega), open_eq x hx fx, bind_go, open_eq y hy fy, bind_go]
  dsimp only
  have ox := om_lt x
  have oy := om_lt y
  have jx := oj_le x fx
  have jy := oj_le y fy
  by_cases zx : om x = 0
  · rw [if_pos (show (om x : Int) = 0 by omega), om_nil x zx]
    by_cases zy : om y = 0
    · rw [if_pos (show (om y : Int) = 0 by omega), om_nil y zy, show (0 : Int) = ((0 : Nat) : Int) from rfl, rsigned_eq _ 0 (by omega), rsigned_eq _ 0 (by omega), bind_go, bind_go]
      unfold addW
      cases sg x <;> cases sg y <;> rfl
    · have := om_pos y zy
      rw [if_neg (show ¬ (om y : Int) = 0 by omega)]
      unfold addW
      by_cases hs : sg x = sg y
      · rw [if_pos hs, Nat.zero_add, hs, word_rnd y fy hy]
      · rw [if_neg hs, if_pos this, Nat.sub_zero, word_rnd y fy hy]
  · rw [if_neg (show ¬ (om x : Int) = 0 by omega)]
    have px := om_pos x zx
    by_cases zy : om y = 0
    · rw [if_pos (show (om y : Int) = 0 by omega), om_nil y zy]
      unfold addW
      by_cases hs : sg x = sg y
      · rw [if_pos hs, Nat.add_zero, word_rnd x fx hx]
      · rw [if_neg hs, if_neg (by omega), if_neg (by omega), Nat.sub_zero, word_rnd x fx hx]
    · rw [if_neg (show ¬ (om y : Int) = 0 by omega), ← om_mag x, ← om_mag y]
      by_cases c1 : (oj x : Int) - 1074 < (oj y : Int) - 1074
      · rw [if_pos c1, addW_comm]
        exact add_core _ _ (sg y) (sg x) (om y) (om x) (oj y) (oj x) oy ox zy zx (by omega) jy
      · rw [if_neg c1]
        by_cases c2 : (oj x : Int) - 1074 = (oj y : Int) - 1074
        · rw [if_pos c2]
          by_cases c3 : (om x : Int) < (om y : Int)
          · rw [if_pos c3, addW_comm, l1_l0]
            exact add_core _ _ (sg y) (sg x) (om y) (om x) (oj y) (oj x) oy ox zy zx (by omega) jy
          · rw [if_neg c3, l2_l0]
            exact add_core _ _ (sg x) (sg y) (om x) (om y) (oj x) (oj y) ox oy zx zy (by omega) jx
        · rw [if_neg c2, l3_l0]
          exact add_core _ _ (sg x) (sg y) (om x) (om y) (oj x) (oj y) ox oy zx zy (by omega) jx
theorem inf_word (x : Nat) (h : x < 18446744073709551616) (hi : rg x = 9218868437227405312) : ofB (some (D.write (.infinity (sg x)))) = (x : Int) := by
  have e : D.write (.infinity (sg x)) = x := by
    show D.word (sg x) D.infRung = x
    rw [word_eq, D_inf, ← hi, word_self x h]
  rw [e, ofB_some x (by omega)]
theorem Add_both (x y : Nat) (hx : x < 18446744073709551616) (hy : y < 18446744073709551616) : ∃ v : Int, soft_Add.f (x : Int) (y : Int) = some v ∧ halterref02_Add.f (x : Int) (y : Int) = some v := by
  by_cases fin2 : fin x ∧ fin y
  · obtain ⟨fx, fy⟩ := fin2
    refine ⟨_, f_add x y, ?_⟩
    rw [add_word x y fx fy, ofB_some _ (addW_rg _ _ _ _), ref_add_fin x y fx fy hx hy]
  · refine ⟨_, f_add x y, ?_⟩
    obtain ⟨c, e, h4, _, h3⟩ := rclass4 x hx
    obtain ⟨d, f, g4, _, g3⟩ := rclass4 y hy
    unfold halterref02_Add.f
    rw [rnone_eq x y hx hy, bind_go]
    by_cases nx : 9218868437227405312 < rg x
    · rw [decide_eq_true nx, Bool.true_or, if_pos rfl, nan_add x y nx, ofB_none]
    · by_cases ny : 9218868437227405312 < rg y
      · rw [decide_eq_true ny, Bool.or_true, if_pos rfl, add_comm', nan_add y x ny, ofB_none]
      · rw [decide_eq_false nx, decide_eq_false ny, if_neg (show ¬ ((false || false) = true) by simp), e, bind_go]
        by_cases ix : rg x = 9218868437227405312
        · rw [if_pos (h3.2 ix), f, bind_go]
          unfold Ieee.Format.add
          rw [read_inf x ix]
          by_cases iy : rg y = 9218868437227405312
          · rw [if_pos (g3.2 iy), neg_eq x hx, bind_go, neg_eq y hy, bind_go, read_inf y iy]
            show _ = some (ofB ((if sg x = sg y then some (Ieee.Datum.infinity (sg x)) else none).map D.write))
            by_cases hs : sg x = sg y
            · rw [if_neg (fun k => k hs), if_pos hs]
              show _ = some (ofB (some (D.write (.infinity (sg x)))))
              rw [inf_word x hx ix]
            · rw [if_pos hs, if_neg hs]; rfl
          · have fy : fin y := by show rg y < _; omega
            rw [if_neg (fun k => iy (g3.1 k)), om_read y fy]
            show _ = some (ofB (some (D.write (.infinity (sg x)))))
            rw [inf_word x hx ix]
        · have fx : fin x := by show rg x < _; omega
          have iy : rg y = 9218868437227405312 := by
            apply Classical.byContradiction
            intro k
            exact fin2 ⟨fx, by show rg y < _; omega⟩
          rw [if_neg (fun k => ix (h3.1 k)), f, bind_go, if_pos (g3.2 iy)]
          unfold Ieee.Format.add
          rw [om_read x fx, read_inf y iy]
          show _ = some (ofB (some (D.write (.infinity (sg y)))))
          rw [inf_word y hy iy]
/-- With the other sign. -/
def flip (y : Nat) : Nat := if 9223372036854775808 ≤ y then y - 9223372036854775808 else y + 9223372036854775808
theorem flip_is (y : Nat) (hy : y < 18446744073709551616) : rg (flip y) = rg y ∧ sg (flip y) = !sg y ∧ flip y < 18446744073709551616 := by
  unfold flip rg sg
  by_cases h : 9223372036854775808 ≤ y
  · rw [if_pos h]
    refine ⟨by omega, ?_, by omega⟩
    rw [show (y - 9223372036854775808) / 9223372036854775808 % 2 = 0 by omega, show y / 9223372036854775808 % 2 = 1 by omega]; rfl
  · rw [if_neg h]
    refine ⟨by omega, ?_, by omega⟩
    rw [show (y + 9223372036854775808) / 9223372036854775808 % 2 = 1 by omega, show y / 9223372036854775808 % 2 = 0 by omega]; rfl
theorem sub_flip (x y : Nat) (hy : y < 18446744073709551616) (ny : ¬ 9218868437227405312 < rg y) : D.sub x y = D.add x (flip y) := by
  obtain ⟨f1, f2, f3⟩ := flip_is y hy
  unfold Ieee.Format.sub Ieee.Format.add
  congr 2
  by_cases fy : fin y
  · have fy2 : fin (flip y) := by show rg (flip y) < _; rw [f1]; exact fy
    rw [om_read y fy, om_read (flip y) fy2, f2]
    unfold om oj
    rw [f1]; rfl
  · have fy' : ¬ rg y < 9218868437227405312 := fy
    rw [read_inf y (by omega), read_inf (flip y) (by omega), f2]; rfl
theorem nan_sub2 (x y : Nat) (h : 9218868437227405312 < rg y) : D.sub x y = none := by
  unfold Ieee.Format.sub
  rw [read_nan y h]
  cases D.read x <;> rfl
theorem Sub_both (x y : Nat) (hx : x < 18446744073709551616) (hy : y < 18446744073709551616) : ∃ u v : Int, soft_Sub.f (x : Int) (y : Int) = some v ∧ halterlaw02_minus.f (y : Int) = some u ∧ halterref02_Add.f (x : Int) u = some v := by
  obtain ⟨d, f, g4, _, g3⟩ := rclass4 y hy
  unfold halterlaw02_minus.f
  rw [f, bind_go]
  by_cases ny : 9218868437227405312 < rg y
  · refine ⟨(y : Int), _, f_sub x y, by rw [if_pos (g4.2 ny)], ?_⟩
    rw [nan_sub2 x y ny]
    unfold halterref02_Add.f
    rw [rnone_eq x y hx hy, bind_go, decide_eq_true ny, Bool.or_true, if_pos rfl, ofB_none]
  · obtain ⟨f1, f2, f3⟩ := flip_is y hy
    obtain ⟨v, v1, v2⟩ := Add_both x (flip y) hx f3
    refine ⟨((flip y : Nat) : Int), v, ?_, ?_, v2⟩
    · rw [f_sub, sub_flip x y hy ny, ← f_add, v1]
    · rw [if_neg (fun k => ny (g4.1 k))]
      unfold halterref02_Minus.f
      rw [neg_eq y hy, bind_go]
      unfold flip sg
      by_cases h : 9223372036854775808 ≤ y
      · rw [if_pos (show (y / 9223372036854775808 % 2 == 1) = true by rw [beq_iff_eq]; omega), if_pos h, wu64_id (by omega), bind_go]
        congr 1; omega
      · rw [if_neg (show ¬ (y / 9223372036854775808 % 2 == 1) = true by rw [beq_iff_eq]; omega), if_neg h, wu64_id (by omega), bind_go]
        congr 1
theorem SoftSums (a0 : Int) (a1 : Int) (h0 : (Lit.int .u64 a0).wf = true) (h1 : (Lit.int .u64 a1).wf = true) : halterlaw02_SoftSums.f a0 a1 = some true := by
  obtain ⟨x0, x1⟩ := u64_bd h0
  obtain ⟨y0, y1⟩ := u64_bd h1
  obtain ⟨x, rfl⟩ := Int.eq_ofNat_of_zero_le x0
  obtain ⟨y, rfl⟩ := Int.eq_ofNat_of_zero_le y0
  have hx : x < 18446744073709551616 := by omega
  have hy : y < 18446744073709551616 := by omega
  obtain ⟨v, v1, v2⟩ := Add_both x y hx hy
  obtain ⟨u, w, w1, w2, w3⟩ := Sub_both x y hx hy
  unfold halterlaw02_SoftSums.f
  rw [v1, bind_go, v2, bind_go, if_pos rfl, w1, bind_go, w2, bind_go, w3, bind_go, if_pos rfl, class_eq x hx, bind_go, rclass_eq x hx, bind_go, if_pos rfl, sure_t, bind_go]

end Go.Proofs.Ytkaehhfdjenmcaa.Pure
