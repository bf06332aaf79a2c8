/- The plain law: what the law computes is true, whatever it is handed. -/
import Derived.Test.YtkaehhfdjenmcaaGSoftInts
import Derived.Test.YtkaehhfdjenmcaaE16
set_option linter.unusedVariables false
set_option linter.unusedSimpArgs false
set_option linter.unnecessarySimpa false
namespace Go.Proofs.Ytkaehhfdjenmcaa.Pure
open Go Go.Proofs.YtkaehhfdjenmcaaE Go.Proofs.YtkaehhfdjenmcaaGSoftInts
theorem wu8 (x : Int) : IntKind.wrap .u8 x = x % 256 := by simp [IntKind.wrap, IntKind.bits, IntKind.signed]
theorem wu16 (x : Int) : IntKind.wrap .u16 x = x % 65536 := by simp [IntKind.wrap, IntKind.bits, IntKind.signed]
theorem wu32 (x : Int) : IntKind.wrap .u32 x = x % 4294967296 := by simp [IntKind.wrap, IntKind.bits, IntKind.signed]
theorem wu64 (x : Int) : IntKind.wrap .u64 x = x % 18446744073709551616 := by simp [IntKind.wrap, IntKind.bits, IntKind.signed]
theorem wi64 {x : Int} (h : -9223372036854775808 ≤ x) (h' : x ≤ 9223372036854775807) : IntKind.wrap .i64 x = x := by
  simp [IntKind.wrap, IntKind.bits, IntKind.signed]
  omega
theorem wu8_id {x : Int} (h : 0 ≤ x ∧ x < 256) : IntKind.wrap .u8 x = x := by rw [wu8]; omega
theorem wu32_id {x : Int} (h : 0 ≤ x ∧ x < 4294967296) : IntKind.wrap .u32 x = x := by rw [wu32]; omega
theorem wu64_id {x : Int} (h : 0 ≤ x ∧ x < 18446744073709551616) : IntKind.wrap .u64 x = x := by rw [wu64]; omega
theorem wsucc {i : Nat} (h : i < 9223372036854775807) : IntKind.wrap .i64 ((i : Int) + 1) = ((i + 1 : Nat) : Int) := by rw [wi64 (by omega) (by omega)]; omega
theorem u8_bd {a : Int} (h : (Lit.int .u8 a).wf = true) : 0 ≤ a ∧ a < 256 := by
  simpa [Lit.wf, IntKind.min, IntKind.max, IntKind.signed, IntKind.bits, ← Int.lt_add_one_iff] using h
theorem u32_bd {a : Int} (h : (Lit.int .u32 a).wf = true) : 0 ≤ a ∧ a < 4294967296 := by
  simpa [Lit.wf, IntKind.min, IntKind.max, IntKind.signed, IntKind.bits, ← Int.lt_add_one_iff] using h
theorem u64_bd {a : Int} (h : (Lit.int .u64 a).wf = true) : 0 ≤ a ∧ a < 18446744073709551616 := by
  simpa [Lit.wf, IntKind.min, IntKind.max, IntKind.signed, IntKind.bits, ← Int.lt_add_one_iff] using h
theorem i64_bd {a : Int} (h : (Lit.int .i64 a).wf = true) : -9223372036854775808 ≤ a ∧ a < 9223372036854775808 := by
  simpa [Lit.wf, IntKind.min, IntKind.max, IntKind.signed, IntKind.bits, ← Int.lt_add_one_iff] using h
theorem fuel_gt {n : Nat} (h : n < 18446744073709551616) : n < FUEL := h
theorem bind_go {α β : Type} (a : α) (f : α → Option β) : (some a).bind f = f a := by rw [Option.bind_some]
theorem drop_getD {α : Type} (l : List α) (i : Nat) (d : α) (h : i < l.length) : l.drop i = l.getD i d :: l.drop (i + 1) := by
  rw [List.drop_eq_getElem_cons h, List.getD_eq_getElem?_getD, List.getElem?_eq_getElem h, Option.getD_some]
theorem getD_mem {α : Type} (l : List α) (i : Nat) (d : α) (h : i < l.length) : l.getD i d ∈ l := by
  rw [List.getD_eq_getElem?_getD, List.getElem?_eq_getElem h, Option.getD_some]; exact List.getElem_mem _
theorem toNat_nat (i : Nat) : Int.toNat (i : Int) = i := rfl
/-- A number behind another one: a round of a loop. -/
theorem fuel_step {d n : Nat} (h : d < n) : ∃ m, n = m + 1 := ⟨n - 1, by omega⟩
/-- Where something stands first. -/
def first (v : Int) : List Int → Option Nat
  | [] => none
  | x :: xs => if x = v then some 0 else (first v xs).map (· + 1)
theorem first_none {v : Int} : ∀ {l : List Int}, first v l = none → ∀ z ∈ l, z ≠ v
  | [], _, z, hz => by cases hz
  | x :: xs, h, z, hz => by
    unfold first at h
    split at h
    · cases h
    · rename_i hx
      rcases List.mem_cons.1 hz with rfl | hz
      · exact hx
      · exact first_none (by simpa using h) z hz
theorem first_some {v : Int} : ∀ {l : List Int} {k : Nat}, first v l = some k → k < l.length ∧ l.getD k 0 = v ∧ ∀ j, j < k → l.getD j 0 ≠ v
  | [], _, h => by cases h
  | x :: xs, k, h => by
    unfold first at h
    split at h
    · cases h
      rename_i hx
      exact ⟨by simp, by simpa using hx, fun j hj => by omega⟩
    · rename_i hx
      cases hf : first v xs with
      | none => simp [hf] at h
      | some m =>
        simp [hf] at h
        subst h
        obtain ⟨h1, h2, h3⟩ := first_some hf
        refine ⟨by simp; omega, by simpa using h2, fun j hj => ?_⟩
        cases j with
        | zero => simpa using hx
        | succ j => simpa using h3 j (by omega)

open Go.Proofs.YtkaehhfdjenmcaaF (ofB ofB_none sg rg mag val fin D wordN rnd read_fin read_inf read_nan word_self write_read rnd_mag mag_rnd mag_exact order_fin add_fin sub_fin nearest_units nearest_scale nearest_eq word_eq D_eq D_inf D_binade D_sign D_least D_frac cut_rne rne rne_zero rne_scale rne_exact log2_shift log2_of signed_eq val_of cmp_int cmp_scale pick geB leB)
theorem ofInt_u64 (a : Nat) (ha : a < 18446744073709551616) : (BitVec.ofInt 64 (a : Int)).toNat = a := by
  rw [BitVec.ofInt_natCast, BitVec.toNat_ofNat]; exact Nat.mod_eq_of_lt (by omega)
theorem and64 (a b : Nat) (ha : a < 18446744073709551616) (hb : b < 18446744073709551616) : bits .and .u64 (a : Int) (b : Int) = ((a &&& b : Nat) : Int) := by
  have hx : a &&& b < 2 ^ 64 := Nat.and_lt_two_pow _ (by omega)
  show IntKind.u64.wrap ((BitVec.ofInt 64 (a : Int) &&& BitVec.ofInt 64 (b : Int)).toNat : Int) = _
  rw [BitVec.toNat_and, ofInt_u64 a ha, ofInt_u64 b hb, wu64_id (by omega)]
theorem shr52 (a : Nat) : shr .u64 (a : Int) 52 = ((a / 4503599627370496 : Nat) : Int) := by simp [shr, IntKind.bits]
theorem shr63 (a : Nat) : shr .u64 (a : Int) 63 = ((a / 9223372036854775808 : Nat) : Int) := by simp [shr, IntKind.bits]
theorem class_eq (x : Nat) (h : x < 18446744073709551616) : soft_Class.f (x : Int) = some (if rg x = 0 then 0 else if rg x < 4503599627370496 then 1 else if rg x < 9218868437227405312 then 2 else if rg x = 9218868437227405312 then 3 else 4) := by
  have e1 : bits .and .u64 (shr .u64 (x : Int) 52) 2047 = ((x / 4503599627370496 % 2048 : Nat) : Int) := by
    rw [shr52, show bits .and .u64 ((x / 4503599627370496 : Nat) : Int) 2047 = ((x / 4503599627370496 &&& 2047 : Nat) : Int) from and64 _ 2047 (by omega) (by omega), show (2047 : Nat) = 2 ^ 11 - 1 from rfl, Nat.and_two_pow_sub_one_eq_mod]
  have e2 : bits .and .u64 (x : Int) 4503599627370495 = ((x % 4503599627370496 : Nat) : Int) := by
    rw [show bits .and .u64 (x : Int) 4503599627370495 = ((x &&& 4503599627370495 : Nat) : Int) from and64 _ 4503599627370495 h (by omega), show (4503599627370495 : Nat) = 2 ^ 52 - 1 from rfl, Nat.and_two_pow_sub_one_eq_mod]
  unfold soft_Class.f rg
  rw [e1, e2]
  by_cases h1 : ((x / 4503599627370496 % 2048 : Nat) : Int) = 0
  · rw [if_pos h1]
    by_cases h2 : ((x % 4503599627370496 : Nat) : Int) = 0
    · rw [if_pos h2, if_pos (show x % 9223372036854775808 = 0 by omega)]
    · rw [if_neg h2, if_neg (show ¬ x % 9223372036854775808 = 0 by omega), if_pos (show x % 9223372036854775808 < 4503599627370496 by omega)]
  · rw [if_neg h1, if_neg (show ¬ x % 9223372036854775808 = 0 by omega), if_neg (show ¬ x % 9223372036854775808 < 4503599627370496 by omega)]
    by_cases h2 : ((x / 4503599627370496 % 2048 : Nat) : Int) < 2047
    · rw [if_pos h2, if_pos (show x % 9223372036854775808 < 9218868437227405312 by omega)]
    · rw [if_neg h2, if_neg (show ¬ x % 9223372036854775808 < 9218868437227405312 by omega)]
      by_cases h3 : ((x % 4503599627370496 : Nat) : Int) = 0
      · rw [if_pos h3, if_pos (show x % 9223372036854775808 = 9218868437227405312 by omega)]
      · rw [if_neg h3, if_neg (show ¬ x % 9223372036854775808 = 9218868437227405312 by omega)]
theorem sg_eq (x : Nat) (h : x < 18446744073709551616) : (shr .u64 (x : Int) 63 == 1) = sg x := by
  rw [shr63, Bool.eq_iff_iff, beq_iff_eq]
  unfold sg
  rw [beq_iff_eq]
  omega
theorem mag_pos (r : Nat) (h : r ≠ 0) : mag r ≠ 0 := by
  unfold mag
  have hp := Nat.two_pow_pos (r / 4503599627370496 - 1)
  split
  · exact h
  · intro e
    rcases Nat.mul_eq_zero.1 e with e | e <;> omega
theorem read_pos (x : Nat) (h : fin x) (h0 : rg x ≠ 0) : ∃ m j : Nat, m ≠ 0 ∧ D.read x = .number (sg x) m ((j : Int) - 1074) ∧ m * 2 ^ j = mag (rg x) := by
  obtain ⟨m, j, h1, h2⟩ := read_fin x h
  refine ⟨m, j, fun e => ?_, h1, h2⟩
  rw [e, Nat.zero_mul] at h2
  exact mag_pos _ h0 h2.symm
theorem order_self (x : Nat) (h : rg x ≤ 9218868437227405312) : D.order x x = some .eq := by
  by_cases h1 : fin x
  · rw [order_fin x x h1 h1, cmp_int, if_neg (by omega), if_pos rfl]
  · have h2 : rg x = 9218868437227405312 := by have : ¬ rg x < 9218868437227405312 := h1; omega
    unfold Ieee.Format.order
    rw [read_inf x h2]
    show some (compare (sg x).toNat (sg x).toNat) = some .eq
    cases sg x <;> rfl
theorem ofB_some (x : Nat) (h : rg x ≤ 9218868437227405312) : ofB (some x) = (x : Int) := by
  unfold ofB
  dsimp only
  rw [if_pos (show FloatKind.f64.format.order x x = some .eq from order_self x h)]
theorem div_zero (x z : Nat) (hx : fin x) (h0 : rg x ≠ 0) (t : Bool) (hz : D.read z = .number t 0 (-1074)) : D.div x z = some (wordN (sg x ^^ t) 9218868437227405312) := by
  obtain ⟨m, j, hm, h1, h2⟩ := read_pos x hx h0
  unfold Ieee.Format.div
  rw [h1, hz]
  unfold Ieee.Datum.quotient
  dsimp only
  rw [if_pos rfl, if_neg hm]
  show some (D.word _ _) = _
  rw [word_eq, D_inf]
theorem mul_inf (x z : Nat) (hx : fin x) (h0 : rg x ≠ 0) (t : Bool) (hz : D.read z = .infinity t) : D.mul x z = some (wordN (t ^^ sg x) 9218868437227405312) := by
  obtain ⟨m, j, hm, h1, h2⟩ := read_pos x hx h0
  unfold Ieee.Format.mul
  rw [h1, hz]
  show ((if m = 0 then none else some (Ieee.Datum.infinity (t ^^ sg x))).map D.write) = _
  rw [if_neg hm]
  show some (D.word _ _) = _
  rw [word_eq, D_inf]
theorem add_inf (x z : Nat) (hx : fin x) (t : Bool) (hz : D.read z = .infinity t) : D.add x z = some (wordN t 9218868437227405312) := by
  obtain ⟨m, j, h1, h2⟩ := read_fin x hx
  unfold Ieee.Format.add
  rw [h1, hz]
  show some (D.word _ _) = _
  rw [word_eq, D_inf]
theorem div_inf (x z : Nat) (hx : fin x) (t : Bool) (hz : D.read z = .infinity t) : D.div x z = some (wordN (sg x ^^ t) 0) := by
  obtain ⟨m, j, h1, h2⟩ := read_fin x hx
  unfold Ieee.Format.div
  rw [h1, hz]
  show some (D.nearest _ 0 0) = _
  rw [nearest_eq, if_pos rfl]
theorem nearest_rg (m : Nat) (p : Int) : rg (D.nearest false m p) ≤ 9218868437227405312 ∧ D.nearest false m p ≤ 9218868437227405312 := by
  rw [nearest_eq]
  unfold wordN rg
  split
  · rw [if_neg (by simp)]; omega
  · rw [if_neg (by simp)]; omega
theorem sqrt_pos (x : Nat) (hx : fin x) (h0 : rg x ≠ 0) (hs : sg x = false) : ∃ b : Nat, D.sqrt x = some b ∧ rg b ≤ 9218868437227405312 ∧ b ≤ 9218868437227405312 := by
  obtain ⟨m, j, hm, h1, h2⟩ := read_pos x hx h0
  unfold Ieee.Format.sqrt
  rw [h1, hs]
  unfold Ieee.Datum.root
  dsimp only
  rw [if_neg hm, if_neg (by simp)]
  exact ⟨_, rfl, nearest_rg _ _⟩
theorem sqrt_neg (x : Nat) (hx : fin x) (h0 : rg x ≠ 0) (hs : sg x = true) : D.sqrt x = none := by
  obtain ⟨m, j, hm, h1, h2⟩ := read_pos x hx h0
  unfold Ieee.Format.sqrt
  rw [h1, hs]
  unfold Ieee.Datum.root
  dsimp only
  rw [if_neg hm, if_pos rfl]
  rfl
theorem f_add (x y : Nat) : soft_Add.f (x : Int) (y : Int) = some (ofB (D.add x y)) := rfl
theorem f_sub (x y : Nat) : soft_Sub.f (x : Int) (y : Int) = some (ofB (D.sub x y)) := rfl
theorem f_mul (x y : Nat) : soft_Mul.f (x : Int) (y : Int) = some (ofB (D.mul x y)) := rfl
theorem f_div (x y : Nat) : soft_Div.f (x : Int) (y : Int) = some (ofB (D.div x y)) := rfl
theorem f_sqrt (x : Nat) : soft_Sqrt.f (x : Int) = some (ofB (D.sqrt x)) := rfl
theorem inf_t : ofB (some (wordN true 9218868437227405312)) = 18442240474082181120 := by kernel_rfl
theorem inf_f : ofB (some (wordN false 9218868437227405312)) = 9218868437227405312 := by kernel_rfl
theorem zer_t : ofB (some (wordN true 0)) = 9223372036854775808 := by kernel_rfl
theorem zer_f : ofB (some (wordN false 0)) = 0 := by kernel_rfl
theorem sqrt_is (x : Nat) (hx : fin x) (h0 : rg x ≠ 0) : ∃ v : Int, soft_Sqrt.f (x : Int) = some v ∧ (v == 9221120237041090560) = sg x := by
  refine ⟨_, f_sqrt x, ?_⟩
  cases hs : sg x with
  | true => rw [sqrt_neg x hx h0 hs]; rfl
  | false =>
    obtain ⟨b, h1, h2, h3⟩ := sqrt_pos x hx h0 hs
    rw [h1, ofB_some b h2, beq_eq_false_iff_ne]
    omega
theorem sure_t : halterlaw02_sure.f = some true := by kernel_rfl

open Go.RowKit (wrap32)
/-- Units of a whole one. -/
def uE : Nat := 1074
def U : Nat := 2 ^ uE
theorem uE_eq : (uE : Int) - 1074 = 0 := by decide
theorem uE_is : uE = 1074 := rfl
theorem U_pos : 0 < U := Nat.two_pow_pos uE
theorem units_U (neg : Bool) (m : Nat) : D.nearest neg m 0 = wordN neg (rnd (m * U)) := by
  have := nearest_units neg m uE
  rw [uE_eq] at this
  exact this
theorem exact_U (m : Nat) (h : m < 9007199254740992) : rnd (m * U) < 9218868437227405312 ∧ mag (rnd (m * U)) = m * U := mag_exact m uE h (by decide)
theorem f_from (v : Int) : soft_FromInt.f v = some (ofB (some (floatOfInt .f64 (wrap32 v)))) := rfl
theorem rg_word (s : Bool) (r : Nat) (h : r < 9223372036854775808) : rg (wordN s r) = r ∧ sg (wordN s r) = s ∧ wordN s r < 18446744073709551616 := by
  unfold wordN rg sg
  cases s
  · rw [if_neg (by simp)]
    refine ⟨by omega, ?_, by omega⟩
    rw [beq_eq_false_iff_ne]; omega
  · rw [if_pos rfl]
    refine ⟨by omega, ?_, by omega⟩
    rw [beq_iff_eq]; omega
theorem int_eq (n : Int) : floatOfInt .f64 n = wordN (decide (n < 0)) (rnd (n.natAbs * U)) := by
  rw [← units_U]
  rfl
theorem int_word (n : Int) (h : n.natAbs < 9007199254740992) : fin (floatOfInt .f64 n) ∧ val (floatOfInt .f64 n) = n * (U : Int) ∧ sg (floatOfInt .f64 n) = decide (n < 0) ∧ rg (floatOfInt .f64 n) ≤ 9218868437227405312 := by
  obtain ⟨m1, m2⟩ := exact_U n.natAbs h
  rw [int_eq]
  obtain ⟨w1, w2, w3⟩ := rg_word (decide (n < 0)) (rnd (n.natAbs * U)) (by omega)
  refine ⟨by show rg _ < _; rw [w1]; exact m1, ?_, w2, by rw [w1]; omega⟩
  unfold val
  rw [w1, w2, m2, Int.natCast_mul]
  by_cases h0 : n < 0
  · rw [decide_eq_true h0, if_pos rfl, ← Int.neg_mul, show -((n.natAbs : Nat) : Int) = n by omega]
  · rw [decide_eq_false h0, if_neg (by simp), show ((n.natAbs : Nat) : Int) = n by omega]
theorem from_eq (n : Int) (h : n.natAbs < 9007199254740992) : ofB (some (floatOfInt .f64 n)) = ((floatOfInt .f64 n : Nat) : Int) := ofB_some _ (int_word n h).2.2.2
theorem scale_abs (k : Int) (U : Nat) : (k * (U : Int)).natAbs = k.natAbs * U := by rw [Int.natAbs_mul]; rfl
theorem int_add (n m : Int) (hn : n.natAbs < 9007199254740992) (hm : m.natAbs < 9007199254740992) : D.add (floatOfInt .f64 n) (floatOfInt .f64 m) = some (floatOfInt .f64 (n + m)) := by
  obtain ⟨a1, a2, a3, _⟩ := int_word n hn
  obtain ⟨b1, b2, b3, _⟩ := int_word m hm
  have hp := U_pos
  rw [add_fin _ _ a1 b1, a2, b2, a3, b3, ← Int.add_mul, scale_abs, int_eq (n + m)]
  generalize U = U at *
  have z : ((n + m) * (U : Int) = 0) = (n + m = 0) := by
    rw [eq_iff_iff]
    constructor
    · intro h
      rcases Int.mul_eq_zero.1 h with h | h
      · exact h
      · omega
    · intro h; rw [h, Int.zero_mul]
  have l : ((n + m) * (U : Int) < 0) = (n + m < 0) := by
    rw [eq_iff_iff]
    constructor
    · intro h
      apply Classical.byContradiction
      intro h2
      have := Int.mul_nonneg (show 0 ≤ n + m by omega) (show (0 : Int) ≤ (U : Int) by omega)
      omega
    · intro h; exact Int.mul_neg_of_neg_of_pos h (by omega)
  simp only [z, l]
  congr 2
  by_cases h : n + m = 0
  · rw [if_pos h, decide_eq_false (show ¬ n + m < 0 by omega)]
    by_cases h1 : n < 0
    · rw [decide_eq_false (show ¬ m < 0 by omega), Bool.and_false]
    · rw [decide_eq_false h1, Bool.false_and]
  · rw [if_neg h]
theorem int_sub (n m : Int) (hn : n.natAbs < 9007199254740992) (hm : m.natAbs < 9007199254740992) : D.sub (floatOfInt .f64 n) (floatOfInt .f64 m) = some (floatOfInt .f64 (n - m)) := by
  obtain ⟨a1, a2, a3, _⟩ := int_word n hn
  obtain ⟨b1, b2, b3, _⟩ := int_word m hm
  have hp := U_pos
  rw [sub_fin _ _ a1 b1, a2, b2, a3, b3, ← Int.sub_mul, scale_abs, int_eq (n - m)]
  generalize U = U at *
  have z : ((n - m) * (U : Int) = 0) = (n - m = 0) := by
    rw [eq_iff_iff]
    constructor
    · intro h
      rcases Int.mul_eq_zero.1 h with h | h
      · exact h
      · omega
    · intro h; rw [h, Int.zero_mul]
  have l : ((n - m) * (U : Int) < 0) = (n - m < 0) := by
    rw [eq_iff_iff]
    constructor
    · intro h
      apply Classical.byContradiction
      intro h2
      have := Int.mul_nonneg (show 0 ≤ n - m by omega) (show (0 : Int) ≤ (U : Int) by omega)
      omega
    · intro h; exact Int.mul_neg_of_neg_of_pos h (by omega)
  simp only [z, l]
  congr 2
  by_cases h : n - m = 0
  · rw [if_pos h, decide_eq_false (show ¬ n - m < 0 by omega)]
    by_cases h1 : n < 0
    · rw [decide_eq_true (show m < 0 by omega), Bool.not_true, Bool.and_false]
    · rw [decide_eq_false h1, Bool.false_and]
  · rw [if_neg h]
theorem int_order (n m : Int) (hn : n.natAbs < 9007199254740992) (hm : m.natAbs < 9007199254740992) : D.order (floatOfInt .f64 n) (floatOfInt .f64 m) = some (compare n m) := by
  obtain ⟨a1, a2, a3, _⟩ := int_word n hn
  obtain ⟨b1, b2, b3, _⟩ := int_word m hm
  rw [order_fin _ _ a1 b1, a2, b2, cmp_scale _ _ _ U_pos]
theorem cut_zero (neg : Bool) (n d : Nat) : Ieee.Toward.zero.cut neg n d = n / 2 ^ d := by
  unfold Ieee.Toward.cut
  dsimp only
  rw [Nat.shiftLeft_eq, Nat.one_mul]
  show n / 2 ^ min d (n.log2 + 2) + 0 = _
  rw [Nat.add_zero]
  by_cases h : d ≤ n.log2 + 2
  · rw [Nat.min_eq_left h]
  · rw [Nat.min_eq_right (by omega)]
    have h1 : n < 2 ^ (n.log2 + 1) := Nat.lt_log2_self
    have h2 : 2 ^ (n.log2 + 1) ≤ 2 ^ (n.log2 + 2) := Nat.pow_le_pow_right (by omega) (by omega)
    have h3 : 2 ^ (n.log2 + 2) ≤ 2 ^ d := Nat.pow_le_pow_right (by omega) (by omega)
    rw [Nat.div_eq_of_lt (by omega), Nat.div_eq_of_lt (by omega)]
theorem toInt_fin (x : Nat) (hx : fin x) : (D.read x).toInt .zero = some (if sg x then -((mag (rg x) / U : Nat) : Int) else ((mag (rg x) / U : Nat) : Int)) := by
  obtain ⟨m, j, h1, h2⟩ := read_fin x hx
  rw [h1]
  show some (Ieee.signed (sg x) (Ieee.Toward.zero.cut (sg x) (m <<< ((j : Int) - 1074).toNat) (-((j : Int) - 1074)).toNat) 0) = _
  have e : m <<< ((j : Int) - 1074).toNat / 2 ^ (-((j : Int) - 1074)).toNat = mag (rg x) / U := by
    rw [Nat.shiftLeft_eq, ← h2]
    by_cases hj : 1074 ≤ j
    · rw [show (-((j : Int) - 1074)).toNat = 0 by omega, show ((j : Int) - 1074).toNat = j - 1074 by omega, Nat.pow_zero, Nat.div_one]
      have hE := uE_is
      have : 2 ^ j = 2 ^ (j - 1074) * U := by unfold U; rw [← Nat.pow_add, show j - 1074 + uE = j by omega]
      rw [this, ← Nat.mul_assoc, Nat.mul_div_cancel _ U_pos]
    · rw [show (-((j : Int) - 1074)).toNat = 1074 - j by omega, show ((j : Int) - 1074).toNat = 0 by omega, Nat.pow_zero, Nat.mul_one]
      have hE := uE_is
      have : U = 2 ^ (1074 - j) * 2 ^ j := by rw [← Nat.pow_add, show 1074 - j + j = uE by omega]; rfl
      rw [this, Nat.mul_div_mul_right _ _ (Nat.two_pow_pos _)]
  rw [cut_zero, e, signed_eq, Nat.pow_zero, Nat.mul_one]
theorem int_toInt (n : Int) (h : n.natAbs < 9007199254740992) : (D.read (floatOfInt .f64 n)).toInt .zero = some n := by
  obtain ⟨a1, a2, a3, _⟩ := int_word n h
  obtain ⟨m1, m2⟩ := exact_U n.natAbs h
  obtain ⟨w1, w2, w3⟩ := rg_word (decide (n < 0)) (rnd (n.natAbs * U)) (by omega)
  rw [toInt_fin _ a1, a3]
  have e : mag (rg (floatOfInt .f64 n)) = n.natAbs * U := by rw [int_eq, w1, m2]
  rw [e, Nat.mul_div_cancel _ U_pos]
  by_cases h0 : n < 0
  · have e2 : -((n.natAbs : Nat) : Int) = n := by omega
    rw [decide_eq_true h0, if_pos rfl, e2]
  · have e2 : ((n.natAbs : Nat) : Int) = n := by omega
    rw [decide_eq_false h0, if_neg (by simp), e2]
theorem c_hi : floatOfInt .f64 2147483647 = 4746794007244308480 := by kernel_rfl
theorem c_lo : floatOfInt .f64 (-2147483648) = 13970166044103278592 := by kernel_rfl
/-- A whole number, cut to 32 bits with signs. -/
def clamp (n : Int) : Int := if n ≥ 2147483647 then 2147483647 else if n ≤ -2147483648 then 2147483648 else n % 4294967296
theorem toInt_is (n : Int) (h : n.natAbs < 9007199254740992) : soft_ToInt.f ((floatOfInt .f64 n : Nat) : Int) = some (clamp n) := by
  have h1 := int_order n 2147483647 h (by decide)
  have h2 := int_order n (-2147483648) h (by decide)
  have h3 := int_order n n h h
  rw [c_hi] at h1
  rw [c_lo] at h2
  have hv : floatToIntVal .f64 (floatOfInt .f64 n) .i32 = if -2147483648 ≤ n ∧ n ≤ 2147483647 then some n else none := by
    show (match (D.read (floatOfInt .f64 n)).toInt .zero with | some n => if IntKind.min .i32 ≤ n ∧ n ≤ IntKind.max .i32 then some n else none | none => none) = _
    rw [int_toInt n h]
    rfl
  show Go.Proofs.YtkaehhfdjenmcaaF.soft_ToInt.f _ = _
  unfold Go.Proofs.YtkaehhfdjenmcaaF.soft_ToInt.f clamp
  rw [toNat_nat]
  rw [show FloatKind.f64.format.order (floatOfInt .f64 n) (floatOfInt .f64 n) = some (compare n n) from h3, show FloatKind.f64.format.order (floatOfInt .f64 n) 4746794007244308480 = some (compare n 2147483647) from h1, show FloatKind.f64.format.order (floatOfInt .f64 n) 13970166044103278592 = some (compare n (-2147483648)) from h2, hv, cmp_int, cmp_int, cmp_int, if_neg (show ¬ n < n by omega), if_pos (show n = n from rfl), if_pos (show some Ordering.eq = some Ordering.eq from rfl)]
  unfold geB leB
  by_cases g : n ≥ 2147483647
  · rw [if_pos g]
    by_cases g2 : n = 2147483647
    · rw [if_neg (show ¬ n < 2147483647 by omega), if_pos g2, if_pos (by decide)]
    · rw [if_neg (show ¬ n < 2147483647 by omega), if_neg g2, if_pos (by decide)]
  · rw [if_neg g, if_pos (show n < 2147483647 by omega), if_neg (by decide)]
    by_cases g3 : n ≤ -2147483648
    · rw [if_pos g3]
      by_cases g4 : n = -2147483648
      · rw [if_neg (show ¬ n < -2147483648 by omega), if_pos g4, if_pos (by decide)]
      · rw [if_pos (show n < -2147483648 by omega), if_pos (by decide)]
    · rw [if_neg g3, if_neg (show ¬ n < -2147483648 by omega), if_neg (show ¬ n = -2147483648 by omega), if_neg (by decide), if_pos (show -2147483648 ≤ n ∧ n ≤ 2147483647 by omega), bind_go]

theorem sgn32 (v : Int) (h0 : 0 ≤ v) (h1 : v < 4294967296) : halterref01_Sign.f v = some (wrap32 v) := by
  unfold halterref01_Sign.f wrap32
  rw [wi64 (x := v) (by omega) (by omega)]
  by_cases h : v ≥ 2147483648
  · have e : v - 4294967296 = (v + 2147483648) % 4294967296 - 2147483648 := by omega
    rw [if_pos h, wi64 (by omega) (by omega), e]
  · have e : v = (v + 2147483648) % 4294967296 - 2147483648 := by omega
    rw [if_neg h, ← e]
theorem bounded_eq (n : Int) : halterlaw02_bounded.f n = some (clamp n) := by
  unfold halterlaw02_bounded.f clamp
  have hof : ∀ x : Int, -2147483648 ≤ x → x ≤ 2147483647 → halterref01_Of.f x = some (x % 4294967296) := fun x h0 h1 => by
    have ht : Int.tmod x 4294967296 = x := by
      by_cases hx : 0 ≤ x
      · rw [Int.tmod_eq_emod_of_nonneg hx]; omega
      · have := Int.neg_tmod (-x) 4294967296
        rw [Int.neg_neg] at this
        rw [this, Int.tmod_eq_emod_of_nonneg (show 0 ≤ -x by omega)]; omega
    unfold halterref01_Of.f
    rw [ht]
    by_cases hx : x < 0
    · rw [if_pos hx, wi64 (by omega) (by omega), wu32]
      have e : (x + 4294967296) % 4294967296 = x % 4294967296 := by omega
      rw [e]
    · rw [if_neg hx, wu32]
  by_cases h1 : n ≥ 2147483647
  · rw [if_neg (show ¬ n < 2147483647 by omega), if_pos (show (2147483647 : Int) > -2147483648 by omega), if_pos h1, hof _ (by omega) (by omega), bind_go]
    rfl
  · rw [if_pos (show n < 2147483647 by omega), if_neg h1]
    by_cases h2 : n ≤ -2147483648
    · rw [if_neg (show ¬ n > -2147483648 by omega), if_pos h2, hof _ (by omega) (by omega), bind_go]
      rfl
    · rw [if_pos (show n > -2147483648 by omega), if_neg h2, hof _ (by omega) (by omega), bind_go]
theorem wrap32_bd (v : Int) : -2147483648 ≤ wrap32 v ∧ wrap32 v ≤ 2147483647 := by unfold wrap32; omega
theorem cmp_is (n m : Int) (hn : n.natAbs < 9007199254740992) (hm : m.natAbs < 9007199254740992) : soft_Cmp.f ((floatOfInt .f64 n : Nat) : Int) ((floatOfInt .f64 m : Nat) : Int) = some (if n < m then -1 else if n = m then 0 else 1) := by
  have h := int_order n m hn hm
  show Go.Proofs.YtkaehhfdjenmcaaF.soft_Cmp.f _ _ = _
  unfold Go.Proofs.YtkaehhfdjenmcaaF.soft_Cmp.f
  rw [toNat_nat, toNat_nat, show FloatKind.f64.format.order (floatOfInt .f64 n) (floatOfInt .f64 m) = some (compare n m) from h, cmp_int]
  by_cases h1 : n < m
  · rw [if_pos h1, if_pos h1]
  · rw [if_neg h1, if_neg h1]
    by_cases h2 : n = m
    · rw [if_pos h2, if_pos h2]
    · rw [if_neg h2, if_neg h2]
theorem SoftInts (a0 : Int) (a1 : Int) (h0 : (Lit.int .u32 a0).wf = true) (h1 : (Lit.int .u32 a1).wf = true) : halterlaw02_SoftInts.f a0 a1 = some true := by
  obtain ⟨x0, x1⟩ := u32_bd h0
  obtain ⟨y0, y1⟩ := u32_bd h1
  have bn := wrap32_bd a0
  have bm := wrap32_bd a1
  unfold halterlaw02_SoftInts.f
  rw [sgn32 a0 x0 x1, bind_go, sgn32 a1 y0 y1, bind_go, f_from, bind_go, f_from, bind_go]
  generalize wrap32 a0 = n at *
  generalize wrap32 a1 = m at *
  have hn : n.natAbs < 9007199254740992 := by omega
  have hm : m.natAbs < 9007199254740992 := by omega
  rw [from_eq n hn, from_eq m hm]
  have ha : soft_Add.f ((floatOfInt .f64 n : Nat) : Int) ((floatOfInt .f64 m : Nat) : Int) = some ((floatOfInt .f64 (n + m) : Nat) : Int) := by
    rw [f_add, int_add n m hn hm, from_eq (n + m) (by omega)]
  have hs : soft_Sub.f ((floatOfInt .f64 n : Nat) : Int) ((floatOfInt .f64 m : Nat) : Int) = some ((floatOfInt .f64 (n - m) : Nat) : Int) := by
    rw [f_sub, int_sub n m hn hm, from_eq (n - m) (by omega)]
  have hc := cmp_is n m hn hm
  have t1 := toInt_is (n + m) (by omega)
  have t2 := toInt_is (n - m) (by omega)
  have w1 : IntKind.wrap .i64 (n + m) = n + m := wi64 (by omega) (by omega)
  have w2 : IntKind.wrap .i64 (n - m) = n - m := wi64 (by omega) (by omega)
  by_cases h1 : n < m
  · rw [if_pos h1] at hc
    rw [if_pos h1, if_neg (show ¬ n > m by omega), hc, bind_go, if_pos rfl, ha, bind_go, t1, bind_go, w1, bounded_eq, bind_go, if_pos rfl, hs, bind_go, t2, bind_go, w2, bounded_eq, bind_go, if_pos rfl, sure_t, bind_go]
  · rw [if_neg h1] at hc
    rw [if_neg h1]
    by_cases h2 : n > m
    · rw [if_neg (show ¬ n = m by omega)] at hc
      rw [if_pos h2, hc, bind_go, if_pos rfl, ha, bind_go, t1, bind_go, w1, bounded_eq, bind_go, if_pos rfl, hs, bind_go, t2, bind_go, w2, bounded_eq, bind_go, if_pos rfl, sure_t, bind_go]
    · rw [if_pos (show n = m by omega)] at hc
      rw [if_neg h2, hc, bind_go, if_pos rfl, ha, bind_go, t1, bind_go, w1, bounded_eq, bind_go, if_pos rfl, hs, bind_go, t2, bind_go, w2, bounded_eq, bind_go, if_pos rfl, sure_t, bind_go]

end Go.Proofs.Ytkaehhfdjenmcaa.Pure
