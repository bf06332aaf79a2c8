/- The plain law: what the law computes is true, whatever it is handed. -/
import Derived.Test.YtkaehhfdjenmcaaGSoftLaws
import Derived.Test.YtkaehhfdjenmcaaE16
set_option linter.unusedVariables false
set_option linter.unusedSimpArgs false
set_option linter.unnecessarySimpa false
namespace Go.Proofs.Ytkaehhfdjenmcaa.Pure
open Go Go.Proofs.YtkaehhfdjenmcaaE Go.Proofs.YtkaehhfdjenmcaaGSoftLaws
theorem wu8 (x : Int) : IntKind.wrap .u8 x = x % 256 := by simp [IntKind.wrap, IntKind.bits, IntKind.signed]
theorem wu16 (x : Int) : IntKind.wrap .u16 x = x % 65536 := by simp [IntKind.wrap, IntKind.bits, IntKind.signed]
theorem wu32 (x : Int) : IntKind.wrap .u32 x = x % 4294967296 := by simp [IntKind.wrap, IntKind.bits, IntKind.signed]
theorem wu64 (x : Int) : IntKind.wrap .u64 x = x % 18446744073709551616 := by simp [IntKind.wrap, IntKind.bits, IntKind.signed]
theorem wi64 {x : Int} (h : -9223372036854775808 ≤ x) (h' : x ≤ 9223372036854775807) : IntKind.wrap .i64 x = x := by
  simp [IntKind.wrap, IntKind.bits, IntKind.signed]
  omega
theorem wu8_id {x : Int} (h : 0 ≤ x ∧ x < 256) : IntKind.wrap .u8 x = x := by rw [wu8]; omega
theorem wu32_id {x : Int} (h : 0 ≤ x ∧ x < 4294967296) : IntKind.wrap .u32 x = x := by rw [wu32]; omega
theorem wu64_id {x : Int} (h : 0 ≤ x ∧ x < 18446744073709551616) : IntKind.wrap .u64 x = x := by rw [wu64]; omega
theorem wsucc {i : Nat} (h : i < 9223372036854775807) : IntKind.wrap .i64 ((i : Int) + 1) = ((i + 1 : Nat) : Int) := by rw [wi64 (by omega) (by omega)]; omega
theorem u8_bd {a : Int} (h : (Lit.int .u8 a).wf = true) : 0 ≤ a ∧ a < 256 := by
  simpa [Lit.wf, IntKind.min, IntKind.max, IntKind.signed, IntKind.bits, ← Int.lt_add_one_iff] using h
theorem u32_bd {a : Int} (h : (Lit.int .u32 a).wf = true) : 0 ≤ a ∧ a < 4294967296 := by
  simpa [Lit.wf, IntKind.min, IntKind.max, IntKind.signed, IntKind.bits, ← Int.lt_add_one_iff] using h
theorem u64_bd {a : Int} (h : (Lit.int .u64 a).wf = true) : 0 ≤ a ∧ a < 18446744073709551616 := by
  simpa [Lit.wf, IntKind.min, IntKind.max, IntKind.signed, IntKind.bits, ← Int.lt_add_one_iff] using h
theorem i64_bd {a : Int} (h : (Lit.int .i64 a).wf = true) : -9223372036854775808 ≤ a ∧ a < 9223372036854775808 := by
  simpa [Lit.wf, IntKind.min, IntKind.max, IntKind.signed, IntKind.bits, ← Int.lt_add_one_iff] using h
theorem fuel_gt {n : Nat} (h : n < 18446744073709551616) : n < FUEL := h
theorem bind_go {α β : Type} (a : α) (f : α → Option β) : (some a).bind f = f a := by rw [Option.bind_some]
theorem drop_getD {α : Type} (l : List α) (i : Nat) (d : α) (h : i < l.length) : l.drop i = l.getD i d :: l.drop (i + 1) := by
  rw [List.drop_eq_getElem_cons h, List.getD_eq_getElem?_getD, List.getElem?_eq_getElem h, Option.getD_some]
theorem getD_mem {α : Type} (l : List α) (i : Nat) (d : α) (h : i < l.length) : l.getD i d ∈ l := by
  rw [List.getD_eq_getElem?_getD, List.getElem?_eq_getElem h, Option.getD_some]; exact List.getElem_mem _
theorem toNat_nat (i : Nat) : Int.toNat (i : Int) = i := rfl
/-- A number behind another one: a round of a loop. -/
theorem fuel_step {d n : Nat} (h : d < n) : ∃ m, n = m + 1 := ⟨n - 1, by omega⟩
/-- Where something stands first. -/
def first (v : Int) : List Int → Option Nat
  | [] => none
  | x :: xs => if x = v then some 0 else (first v xs).map (· + 1)
theorem first_none {v : Int} : ∀ {l : List Int}, first v l = none → ∀ z ∈ l, z ≠ v
  | [], _, z, hz => by cases hz
  | x :: xs, h, z, hz => by
    unfold first at h
    split at h
    · cases h
    · rename_i hx
      rcases List.mem_cons.1 hz with rfl | hz
      · exact hx
      · exact first_none (by simpa using h) z hz
theorem first_some {v : Int} : ∀ {l : List Int} {k : Nat}, first v l = some k → k < l.length ∧ l.getD k 0 = v ∧ ∀ j, j < k → l.getD j 0 ≠ v
  | [], _, h => by cases h
  | x :: xs, k, h => by
    unfold first at h
    split at h
    · cases h
      rename_i hx
      exact ⟨by simp, by simpa using hx, fun j hj => by omega⟩
    · rename_i hx
      cases hf : first v xs with
      | none => simp [hf] at h
      | some m =>
        simp [hf] at h
        subst h
        obtain ⟨h1, h2, h3⟩ := first_some hf
        refine ⟨by simp; omega, by simpa using h2, fun j hj => ?_⟩
        cases j with
        | zero => simpa using hx
        | succ j => simpa using h3 j (by omega)

open Go.Proofs.YtkaehhfdjenmcaaF (ofB ofB_none sg rg mag val fin D wordN rnd read_fin read_inf read_nan word_self write_read rnd_mag mag_rnd mag_exact order_fin add_fin sub_fin nearest_units nearest_scale nearest_eq word_eq D_eq D_inf D_binade D_sign D_least D_frac cut_rne rne rne_zero rne_scale rne_exact log2_shift log2_of signed_eq val_of cmp_int cmp_scale pick geB leB)
theorem ofInt_u64 (a : Nat) (ha : a < 18446744073709551616) : (BitVec.ofInt 64 (a : Int)).toNat = a := by
  rw [BitVec.ofInt_natCast, BitVec.toNat_ofNat]; exact Nat.mod_eq_of_lt (by omega)
theorem and64 (a b : Nat) (ha : a < 18446744073709551616) (hb : b < 18446744073709551616) : bits .and .u64 (a : Int) (b : Int) = ((a &&& b : Nat) : Int) := by
  have hx : a &&& b < 2 ^ 64 := Nat.and_lt_two_pow _ (by omega)
  show IntKind.u64.wrap ((BitVec.ofInt 64 (a : Int) &&& BitVec.ofInt 64 (b : Int)).toNat : Int) = _
  rw [BitVec.toNat_and, ofInt_u64 a ha, ofInt_u64 b hb, wu64_id (by omega)]
theorem shr52 (a : Nat) : shr .u64 (a : Int) 52 = ((a / 4503599627370496 : Nat) : Int) := by simp [shr, IntKind.bits]
theorem shr63 (a : Nat) : shr .u64 (a : Int) 63 = ((a / 9223372036854775808 : Nat) : Int) := by simp [shr, IntKind.bits]
theorem class_eq (x : Nat) (h : x < 18446744073709551616) : soft_Class.f (x : Int) = some (if rg x = 0 then 0 else if rg x < 4503599627370496 then 1 else if rg x < 9218868437227405312 then 2 else if rg x = 9218868437227405312 then 3 else 4) := by
  have e1 : bits .and .u64 (shr .u64 (x : Int) 52) 2047 = ((x / 4503599627370496 % 2048 : Nat) : Int) := by
    rw [shr52, show bits .and .u64 ((x / 4503599627370496 : Nat) : Int) 2047 = ((x / 4503599627370496 &&& 2047 : Nat) : Int) from and64 _ 2047 (by omega) (by omega), show (2047 : Nat) = 2 ^ 11 - 1 from rfl, Nat.and_two_pow_sub_one_eq_mod]
  have e2 : bits .and .u64 (x : Int) 4503599627370495 = ((x % 4503599627370496 : Nat) : Int) := by
    rw [show bits .and .u64 (x : Int) 4503599627370495 = ((x &&& 4503599627370495 : Nat) : Int) from and64 _ 4503599627370495 h (by omega), show (4503599627370495 : Nat) = 2 ^ 52 - 1 from rfl, Nat.and_two_pow_sub_one_eq_mod]
  unfold soft_Class.f rg
  rw [e1, e2]
  by_cases h1 : ((x / 4503599627370496 % 2048 : Nat) : Int) = 0
  · rw [if_pos h1]
    by_cases h2 : ((x % 4503599627370496 : Nat) : Int) = 0
    · rw [if_pos h2, if_pos (show x % 9223372036854775808 = 0 by omega)]
    · rw [if_neg h2, if_neg (show ¬ x % 9223372036854775808 = 0 by omega), if_pos (show x % 9223372036854775808 < 4503599627370496 by omega)]
  · rw [if_neg h1, if_neg (show ¬ x % 9223372036854775808 = 0 by omega), if_neg (show ¬ x % 9223372036854775808 < 4503599627370496 by omega)]
    by_cases h2 : ((x / 4503599627370496 % 2048 : Nat) : Int) < 2047
    · rw [if_pos h2, if_pos (show x % 9223372036854775808 < 9218868437227405312 by omega)]
    · rw [if_neg h2, if_neg (show ¬ x % 9223372036854775808 < 9218868437227405312 by omega)]
      by_cases h3 : ((x % 4503599627370496 : Nat) : Int) = 0
      · rw [if_pos h3, if_pos (show x % 9223372036854775808 = 9218868437227405312 by omega)]
      · rw [if_neg h3, if_neg (show ¬ x % 9223372036854775808 = 9218868437227405312 by omega)]
theorem sg_eq (x : Nat) (h : x < 18446744073709551616) : (shr .u64 (x : Int) 63 == 1) = sg x := by
  rw [shr63, Bool.eq_iff_iff, beq_iff_eq]
  unfold sg
  rw [beq_iff_eq]
  omega
theorem mag_pos (r : Nat) (h : r ≠ 0) : mag r ≠ 0 := by
  unfold mag
  have hp := Nat.two_pow_pos (r / 4503599627370496 - 1)
  split
  · exact h
  · intro e
    rcases Nat.mul_eq_zero.1 e with e | e <;> omega
theorem read_pos (x : Nat) (h : fin x) (h0 : rg x ≠ 0) : ∃ m j : Nat, m ≠ 0 ∧ D.read x = .number (sg x) m ((j : Int) - 1074) ∧ m * 2 ^ j = mag (rg x) := by
  obtain ⟨m, j, h1, h2⟩ := read_fin x h
  refine ⟨m, j, fun e => ?_, h1, h2⟩
  rw [e, Nat.zero_mul] at h2
  exact mag_pos _ h0 h2.symm
theorem order_self (x : Nat) (h : rg x ≤ 9218868437227405312) : D.order x x = some .eq := by
  by_cases h1 : fin x
  · rw [order_fin x x h1 h1, cmp_int, if_neg (by omega), if_pos rfl]
  · have h2 : rg x = 9218868437227405312 := by have : ¬ rg x < 9218868437227405312 := h1; omega
    unfold Ieee.Format.order
    rw [read_inf x h2]
    show some (compare (sg x).toNat (sg x).toNat) = some .eq
    cases sg x <;> rfl
theorem ofB_some (x : Nat) (h : rg x ≤ 9218868437227405312) : ofB (some x) = (x : Int) := by
  unfold ofB
  dsimp only
  rw [if_pos (show FloatKind.f64.format.order x x = some .eq from order_self x h)]
theorem div_zero (x z : Nat) (hx : fin x) (h0 : rg x ≠ 0) (t : Bool) (hz : D.read z = .number t 0 (-1074)) : D.div x z = some (wordN (sg x ^^ t) 9218868437227405312) := by
  obtain ⟨m, j, hm, h1, h2⟩ := read_pos x hx h0
  unfold Ieee.Format.div
  rw [h1, hz]
  unfold Ieee.Datum.quotient
  dsimp only
  rw [if_pos rfl, if_neg hm]
  show some (D.word _ _) = _
  rw [word_eq, D_inf]
theorem mul_inf (x z : Nat) (hx : fin x) (h0 : rg x ≠ 0) (t : Bool) (hz : D.read z = .infinity t) : D.mul x z = some (wordN (t ^^ sg x) 9218868437227405312) := by
  obtain ⟨m, j, hm, h1, h2⟩ := read_pos x hx h0
  unfold Ieee.Format.mul
  rw [h1, hz]
  show ((if m = 0 then none else some (Ieee.Datum.infinity (t ^^ sg x))).map D.write) = _
  rw [if_neg hm]
  show some (D.word _ _) = _
  rw [word_eq, D_inf]
theorem add_inf (x z : Nat) (hx : fin x) (t : Bool) (hz : D.read z = .infinity t) : D.add x z = some (wordN t 9218868437227405312) := by
  obtain ⟨m, j, h1, h2⟩ := read_fin x hx
  unfold Ieee.Format.add
  rw [h1, hz]
  show some (D.word _ _) = _
  rw [word_eq, D_inf]
theorem div_inf (x z : Nat) (hx : fin x) (t : Bool) (hz : D.read z = .infinity t) : D.div x z = some (wordN (sg x ^^ t) 0) := by
  obtain ⟨m, j, h1, h2⟩ := read_fin x hx
  unfold Ieee.Format.div
  rw [h1, hz]
  show some (D.nearest _ 0 0) = _
  rw [nearest_eq, if_pos rfl]
theorem nearest_rg (m : Nat) (p : Int) : rg (D.nearest false m p) ≤ 9218868437227405312 ∧ D.nearest false m p ≤ 9218868437227405312 := by
  rw [nearest_eq]
  unfold wordN rg
  split
  · rw [if_neg (by simp)]; omega
  · rw [if_neg (by simp)]; omega
theorem sqrt_pos (x : Nat) (hx : fin x) (h0 : rg x ≠ 0) (hs : sg x = false) : ∃ b : Nat, D.sqrt x = some b ∧ rg b ≤ 9218868437227405312 ∧ b ≤ 9218868437227405312 := by
  obtain ⟨m, j, hm, h1, h2⟩ := read_pos x hx h0
  unfold Ieee.Format.sqrt
  rw [h1, hs]
  unfold Ieee.Datum.root
  dsimp only
  rw [if_neg hm, if_neg (by simp)]
  exact ⟨_, rfl, nearest_rg _ _⟩
theorem sqrt_neg (x : Nat) (hx : fin x) (h0 : rg x ≠ 0) (hs : sg x = true) : D.sqrt x = none := by
  obtain ⟨m, j, hm, h1, h2⟩ := read_pos x hx h0
  unfold Ieee.Format.sqrt
  rw [h1, hs]
  unfold Ieee.Datum.root
  dsimp only
  rw [if_neg hm, if_pos rfl]
  rfl
theorem f_add (x y : Nat) : soft_Add.f (x : Int) (y : Int) = some (ofB (D.add x y)) := rfl
theorem f_sub (x y : Nat) : soft_Sub.f (x : Int) (y : Int) = some (ofB (D.sub x y)) := rfl
theorem f_mul (x y : Nat) : soft_Mul.f (x : Int) (y : Int) = some (ofB (D.mul x y)) := rfl
theorem f_div (x y : Nat) : soft_Div.f (x : Int) (y : Int) = some (ofB (D.div x y)) := rfl
theorem f_sqrt (x : Nat) : soft_Sqrt.f (x : Int) = some (ofB (D.sqrt x)) := rfl
theorem inf_t : ofB (some (wordN true 9218868437227405312)) = 18442240474082181120 := by kernel_rfl
theorem inf_f : ofB (some (wordN false 9218868437227405312)) = 9218868437227405312 := by kernel_rfl
theorem zer_t : ofB (some (wordN true 0)) = 9223372036854775808 := by kernel_rfl
theorem zer_f : ofB (some (wordN false 0)) = 0 := by kernel_rfl
theorem sqrt_is (x : Nat) (hx : fin x) (h0 : rg x ≠ 0) : ∃ v : Int, soft_Sqrt.f (x : Int) = some v ∧ (v == 9221120237041090560) = sg x := by
  refine ⟨_, f_sqrt x, ?_⟩
  cases hs : sg x with
  | true => rw [sqrt_neg x hx h0 hs]; rfl
  | false =>
    obtain ⟨b, h1, h2, h3⟩ := sqrt_pos x hx h0 hs
    rw [h1, ofB_some b h2, beq_eq_false_iff_ne]
    omega
theorem sure_t : halterlaw02_sure.f = some true := by kernel_rfl

open Go.RowKit (wrap32)
/-- Units of a whole one. -/
def uE : Nat := 1074
def U : Nat := 2 ^ uE
theorem uE_eq : (uE : Int) - 1074 = 0 := by decide
theorem uE_is : uE = 1074 := rfl
theorem U_pos : 0 < U := Nat.two_pow_pos uE
theorem units_U (neg : Bool) (m : Nat) : D.nearest neg m 0 = wordN neg (rnd (m * U)) := by
  have := nearest_units neg m uE
  rw [uE_eq] at this
  exact this
theorem exact_U (m : Nat) (h : m < 9007199254740992) : rnd (m * U) < 9218868437227405312 ∧ mag (rnd (m * U)) = m * U := mag_exact m uE h (by decide)
theorem f_from (v : Int) : soft_FromInt.f v = some (ofB (some (floatOfInt .f64 (wrap32 v)))) := rfl
theorem rg_word (s : Bool) (r : Nat) (h : r < 9223372036854775808) : rg (wordN s r) = r ∧ sg (wordN s r) = s ∧ wordN s r < 18446744073709551616 := by
  unfold wordN rg sg
  cases s
  · rw [if_neg (by simp)]
    refine ⟨by omega, ?_, by omega⟩
    rw [beq_eq_false_iff_ne]; omega
  · rw [if_pos rfl]
    refine ⟨by omega, ?_, by omega⟩
    rw [beq_iff_eq]; omega
theorem int_eq (n : Int) : floatOfInt .f64 n = wordN (decide (n < 0)) (rnd (n.natAbs * U)) := by
  rw [← units_U]
  rfl
theorem int_word (n : Int) (h : n.natAbs < 9007199254740992) : fin (floatOfInt .f64 n) ∧ val (floatOfInt .f64 n) = n * (U : Int) ∧ sg (floatOfInt .f64 n) = decide (n < 0) ∧ rg (floatOfInt .f64 n) ≤ 9218868437227405312 := by
  obtain ⟨m1, m2⟩ := exact_U n.natAbs h
  rw [int_eq]
  obtain ⟨w1, w2, w3⟩ := rg_word (decide (n < 0)) (rnd (n.natAbs * U)) (by omega)
  refine ⟨by show rg _ < _; rw [w1]; exact m1, ?_, w2, by rw [w1]; omega⟩
  unfold val
  rw [w1, w2, m2, Int.natCast_mul]
  by_cases h0 : n < 0
  · rw [decide_eq_true h0, if_pos rfl, ← Int.neg_mul, show -((n.natAbs : Nat) : Int) = n by omega]
  · rw [decide_eq_false h0, if_neg (by simp), show ((n.natAbs : Nat) : Int) = n by omega]
theorem from_eq (n : Int) (h : n.natAbs < 9007199254740992) : ofB (some (floatOfInt .f64 n)) = ((floatOfInt .f64 n : Nat) : Int) := ofB_some _ (int_word n h).2.2.2
theorem scale_abs (k : Int) (U : Nat) : (k * (U : Int)).natAbs = k.natAbs * U := by rw [Int.natAbs_mul]; rfl
theorem int_add (n m : Int) (hn : n.natAbs < 9007199254740992) (hm : m.natAbs < 9007199254740992) : D.add (floatOfInt .f64 n) (floatOfInt .f64 m) = some (floatOfInt .f64 (n + m)) := by
  obtain ⟨a1, a2, a3, _⟩ := int_word n hn
  obtain ⟨b1, b2, b3, _⟩ := int_word m hm
  have hp := U_pos
  rw [add_fin _ _ a1 b1, a2, b2, a3, b3, ← Int.add_mul, scale_abs, int_eq (n + m)]
  generalize U = U at *
  have z : ((n + m) * (U : Int) = 0) = (n + m = 0) := by
    rw [eq_iff_iff]
    constructor
    · intro h
      rcases Int.mul_eq_zero.1 h with h | h
      · exact h
      · omega
    · intro h; rw [h, Int.zero_mul]
  have l : ((n + m) * (U : Int) < 0) = (n + m < 0) := by
    rw [eq_iff_iff]
    constructor
    · intro h
      apply Classical.byContradiction
      intro h2
      have := Int.mul_nonneg (show 0 ≤ n + m by omega) (show (0 : Int) ≤ (U : Int) by omega)
      omega
    · intro h; exact Int.mul_neg_of_neg_of_pos h (by omega)
  simp only [z, l]
  congr 2
  by_cases h : n + m = 0
  · rw [if_pos h, decide_eq_false (show ¬ n + m < 0 by omega)]
    by_cases h1 : n < 0
    · rw [decide_eq_false (show ¬ m < 0 by omega), Bool.and_false]
    · rw [decide_eq_false h1, Bool.false_and]
  · rw [if_neg h]
theorem int_sub (n m : Int) (hn : n.natAbs < 9007199254740992) (hm : m.natAbs < 9007199254740992) : D.sub (floatOfInt .f64 n) (floatOfInt .f64 m) = some (floatOfInt .f64 (n - m)) := by
  obtain ⟨a1, a2, a3, _⟩ := int_word n hn
  obtain ⟨b1, b2, b3, _⟩ := int_word m hm
  have hp := U_pos
  rw [sub_fin _ _ a1 b1, a2, b2, a3, b3, ← Int.sub_mul, scale_abs, int_eq (n - m)]
  generalize U = U at *
  have z : ((n - m) * (U : Int) = 0) = (n - m = 0) := by
    rw [eq_iff_iff]
    constructor
    · intro h
      rcases Int.mul_eq_zero.1 h with h | h
      · exact h
      · omega
    · intro h; rw [h, Int.zero_mul]
  have l : ((n - m) * (U : Int) < 0) = (n - m < 0) := by
    rw [eq_iff_iff]
    constructor
    · intro h
      apply Classical.byContradiction
      intro h2
      have := Int.mul_nonneg (show 0 ≤ n - m by omega) (show (0 : Int) ≤ (U : Int) by omega)
      omega
    · intro h; exact Int.mul_neg_of_neg_of_pos h (by omega)
  simp only [z, l]
  congr 2
  by_cases h : n - m = 0
  · rw [if_pos h, decide_eq_false (show ¬ n - m < 0 by omega)]
    by_cases h1 : n < 0
    · rw [decide_eq_true (show m < 0 by omega), Bool.not_true, Bool.and_false]
    · rw [decide_eq_false h1, Bool.false_and]
  · rw [if_neg h]
theorem int_order (n m : Int) (hn : n.natAbs < 9007199254740992) (hm : m.natAbs < 9007199254740992) : D.order (floatOfInt .f64 n) (floatOfInt .f64 m) = some (compare n m) := by
  obtain ⟨a1, a2, a3, _⟩ := int_word n hn
  obtain ⟨b1, b2, b3, _⟩ := int_word m hm
  rw [order_fin _ _ a1 b1, a2, b2, cmp_scale _ _ _ U_pos]
theorem cut_zero (neg : Bool) (n d : Nat) : Ieee.Toward.zero.cut neg n d = n / 2 ^ d := by
  unfold Ieee.Toward.cut
  dsimp only
  rw [Nat.shiftLeft_eq, Nat.one_mul]
  show n / 2 ^ min d (n.log2 + 2) + 0 = _
  rw [Nat.add_zero]
  by_cases h : d ≤ n.log2 + 2
  · rw [Nat.min_eq_left h]
  · rw [Nat.min_eq_right (by omega)]
    have h1 : n < 2 ^ (n.log2 + 1) := Nat.lt_log2_self
    have h2 : 2 ^ (n.log2 + 1) ≤ 2 ^ (n.log2 + 2) := Nat.pow_le_pow_right (by omega) (by omega)
    have h3 : 2 ^ (n.log2 + 2) ≤ 2 ^ d := Nat.pow_le_pow_right (by omega) (by omega)
    rw [Nat.div_eq_of_lt (by omega), Nat.div_eq_of_lt (by omega)]
theorem toInt_fin (x : Nat) (hx : fin x) : (D.read x).toInt .zero = some (if sg x then -((mag (rg x) / U : Nat) : Int) else ((mag (rg x) / U : Nat) : Int)) := by
  obtain ⟨m, j, h1, h2⟩ := read_fin x hx
  rw [h1]
  show some (Ieee.signed (sg x) (Ieee.Toward.zero.cut (sg x) (m <<< ((j : Int) - 1074).toNat) (-((j : Int) - 1074)).toNat) 0) = _
  have e : m <<< ((j : Int) - 1074).toNat / 2 ^ (-((j : Int) - 1074)).toNat = mag (rg x) / U := by
    rw [Nat.shiftLeft_eq, ← h2]
    by_cases hj : 1074 ≤ j
    · rw [show (-((j : Int) - 1074)).toNat = 0 by omega, show ((j : Int) - 1074).toNat = j - 1074 by omega, Nat.pow_zero, Nat.div_one]
      have hE := uE_is
      have : 2 ^ j = 2 ^ (j - 1074) * U := by unfold U; rw [← Nat.pow_add, show j - 1074 + uE = j by omega]
      rw [this, ← Nat.mul_assoc, Nat.mul_div_cancel _ U_pos]
    · rw [show (-((j : Int) - 1074)).toNat = 1074 - j by omega, show ((j : Int) - 1074).toNat = 0 by omega, Nat.pow_zero, Nat.mul_one]
      have hE := uE_is
      have : U = 2 ^ (1074 - j) * 2 ^ j := by rw [← Nat.pow_add, show 1074 - j + j = uE by omega]; rfl
      rw [this, Nat.mul_div_mul_right _ _ (Nat.two_pow_pos _)]
  rw [cut_zero, e, signed_eq, Nat.pow_zero, Nat.mul_one]
theorem int_toInt (n : Int) (h : n.natAbs < 9007199254740992) : (D.read (floatOfInt .f64 n)).toInt .zero = some n := by
  obtain ⟨a1, a2, a3, _⟩ := int_word n h
  obtain ⟨m1, m2⟩ := exact_U n.natAbs h
  obtain ⟨w1, w2, w3⟩ := rg_word (decide (n < 0)) (rnd (n.natAbs * U)) (by omega)
  rw [toInt_fin _ a1, a3]
  have e : mag (rg (floatOfInt .f64 n)) = n.natAbs * U := by rw [int_eq, w1, m2]
  rw [e, Nat.mul_div_cancel _ U_pos]
  by_cases h0 : n < 0
  · have e2 : -((n.natAbs : Nat) : Int) = n := by omega
    rw [decide_eq_true h0, if_pos rfl, e2]
  · have e2 : ((n.natAbs : Nat) : Int) = n := by omega
    rw [decide_eq_false h0, if_neg (by simp), e2]
theorem c_hi : floatOfInt .f64 2147483647 = 4746794007244308480 := by kernel_rfl
theorem c_lo : floatOfInt .f64 (-2147483648) = 13970166044103278592 := by kernel_rfl
/-- A whole number, cut to 32 bits with signs. -/
def clamp (n : Int) : Int := if n ≥ 2147483647 then 2147483647 else if n ≤ -2147483648 then 2147483648 else n % 4294967296
theorem toInt_is (n : Int) (h : n.natAbs < 9007199254740992) : soft_ToInt.f ((floatOfInt .f64 n : Nat) : Int) = some (clamp n) := by
  have h1 := int_order n 2147483647 h (by decide)
  have h2 := int_order n (-2147483648) h (by decide)
  have h3 := int_order n n h h
  rw [c_hi] at h1
  rw [c_lo] at h2
  have hv : floatToIntVal .f64 (floatOfInt .f64 n) .i32 = if -2147483648 ≤ n ∧ n ≤ 2147483647 then some n else none := by
    show (match (D.read (floatOfInt .f64 n)).toInt .zero with | some n => if IntKind.min .i32 ≤ n ∧ n ≤ IntKind.max .i32 then some n else none | none => none) = _
    rw [int_toInt n h]
    rfl
  show Go.Proofs.YtkaehhfdjenmcaaF.soft_ToInt.f _ = _
  unfold Go.Proofs.YtkaehhfdjenmcaaF.soft_ToInt.f clamp
  rw [toNat_nat]
  rw [show FloatKind.f64.format.order (floatOfInt .f64 n) (floatOfInt .f64 n) = some (compare n n) from h3, show FloatKind.f64.format.order (floatOfInt .f64 n) 4746794007244308480 = some (compare n 2147483647) from h1, show FloatKind.f64.format.order (floatOfInt .f64 n) 13970166044103278592 = some (compare n (-2147483648)) from h2, hv, cmp_int, cmp_int, cmp_int, if_neg (show ¬ n < n by omega), if_pos (show n = n from rfl), if_pos (show some Ordering.eq = some Ordering.eq from rfl)]
  unfold geB leB
  by_cases g : n ≥ 2147483647
  · rw [if_pos g]
    by_cases g2 : n = 2147483647
    · rw [if_neg (show ¬ n < 2147483647 by omega), if_pos g2, if_pos (by decide)]
    · rw [if_neg (show ¬ n < 2147483647 by omega), if_neg g2, if_pos (by decide)]
  · rw [if_neg g, if_pos (show n < 2147483647 by omega), if_neg (by decide)]
    by_cases g3 : n ≤ -2147483648
    · rw [if_pos g3]
      by_cases g4 : n = -2147483648
      · rw [if_neg (show ¬ n < -2147483648 by omega), if_pos g4, if_pos (by decide)]
      · rw [if_pos (show n < -2147483648 by omega), if_pos (by decide)]
    · rw [if_neg g3, if_neg (show ¬ n < -2147483648 by omega), if_neg (show ¬ n = -2147483648 by omega), if_neg (by decide), if_pos (show -2147483648 ≤ n ∧ n ≤ 2147483647 by omega), bind_go]

theorem sum_comm (d e : Ieee.Datum) : d.sum e = e.sum d := by
  cases d with
  | nan => cases e <;> rfl
  | infinity s =>
    cases e with
    | nan => rfl
    | infinity t =>
      show (if s = t then some (Ieee.Datum.infinity s) else none) = (if t = s then some (Ieee.Datum.infinity t) else none)
      cases s <;> cases t <;> rfl
    | number => rfl
  | number s m i =>
    cases e with
    | nan => rfl
    | infinity t => rfl
    | number t n j =>
      unfold Ieee.Datum.sum
      dsimp only
      rw [Int.min_comm i j, Int.add_comm (Ieee.signed s m _), Bool.and_comm s t]
theorem prod_comm (d e : Ieee.Datum) : d.product e = e.product d := by
  cases d with
  | nan => cases e <;> rfl
  | infinity s =>
    cases e with
    | nan => rfl
    | infinity t =>
      show some (Ieee.Datum.infinity (s ^^ t)) = some (Ieee.Datum.infinity (t ^^ s))
      rw [Bool.xor_comm]
    | number => rfl
  | number s m i =>
    cases e with
    | nan => rfl
    | infinity t => rfl
    | number t n j =>
      unfold Ieee.Datum.product
      dsimp only
      rw [Bool.xor_comm s t, Nat.mul_comm m n, Int.add_comm i j]
theorem add_comm' (x y : Nat) : D.add x y = D.add y x := by unfold Ieee.Format.add; rw [sum_comm]
theorem mul_comm' (x y : Nat) : D.mul x y = D.mul y x := by unfold Ieee.Format.mul; rw [prod_comm]
theorem nan_add (x y : Nat) (h : 9218868437227405312 < rg x) : D.add x y = none := by unfold Ieee.Format.add; rw [read_nan x h]; rfl
theorem nan_mul (x y : Nat) (h : 9218868437227405312 < rg x) : D.mul x y = none := by unfold Ieee.Format.mul; rw [read_nan x h]; rfl
theorem nan_div (x y : Nat) (h : 9218868437227405312 < rg x) : D.div x y = none := by unfold Ieee.Format.div; rw [read_nan x h]; rfl
theorem nan_sqrt (x : Nat) (h : 9218868437227405312 < rg x) : D.sqrt x = none := by unfold Ieee.Format.sqrt; rw [read_nan x h]; rfl
theorem nan_ord (x y : Nat) (h : 9218868437227405312 < rg x) : D.order x y = none := by unfold Ieee.Format.order; rw [read_nan x h]; rfl
theorem nan_ord2 (x y : Nat) (h : 9218868437227405312 < rg x) : D.order y x = none := by unfold Ieee.Format.order; rw [read_nan x h]; cases D.read y <;> rfl
theorem inf_sub (x : Nat) (h : rg x = 9218868437227405312) : D.sub x x = none := by
  unfold Ieee.Format.sub
  rw [read_inf x h]
  show ((if sg x = !sg x then some (Ieee.Datum.infinity (sg x)) else none).map D.write) = none
  cases sg x <;> rfl
theorem sub_self (x : Nat) (h : fin x) : D.sub x x = some 0 := by
  rw [sub_fin x x h h, Int.sub_self, if_pos rfl]
  cases sg x <;> rfl
theorem rd_one : D.read 4607182418800017408 = .number false 4503599627370496 (-52) := by kernel_rfl
theorem mul_one' (x : Nat) (h : fin x) (hx : x < 18446744073709551616) : D.mul x 4607182418800017408 = some x := by
  obtain ⟨m, j, h1, h2⟩ := read_fin x h
  unfold Ieee.Format.mul
  rw [h1, rd_one]
  show some (D.nearest (sg x ^^ false) (m * 4503599627370496) ((j : Int) - 1074 + -52)) = some x
  have e := nearest_scale (sg x) m 52 ((j : Int) - 1074)
  rw [show (j : Int) - 1074 - (52 : Nat) = (j : Int) - 1074 + -52 by omega, show m * 2 ^ 52 = m * 4503599627370496 from rfl, write_read x h hx m j h2] at e
  rw [Bool.xor_false, e]
theorem div_one' (x : Nat) (h : fin x) (hx : x < 18446744073709551616) : D.div x 4607182418800017408 = some x := by
  obtain ⟨m, j, h1, h2⟩ := read_fin x h
  have hl : m.log2 < 53 := by
    by_cases h0 : m = 0
    · subst h0; decide
    · refine (Nat.log2_lt h0).2 ?_
      have : m ≤ mag (rg x) := by rw [← h2]; exact Nat.le_mul_of_pos_right _ (Nat.two_pow_pos j)
      have hm : m < 9007199254740992 := by
        have hr := h1
        unfold Ieee.Format.read at hr
        rw [D_sign, D_binade, D_inf] at hr
        dsimp only at hr
        split at hr
        · have := (Ieee.Datum.number.inj hr).2.1; omega
        · split at hr
          · have := (Ieee.Datum.number.inj hr).2.1; omega
          · split at hr <;> cases hr
      omega
  unfold Ieee.Format.div
  rw [h1, rd_one]
  unfold Ieee.Datum.quotient
  dsimp only
  rw [if_neg (by decide), Bool.xor_false, show (4503599627370496 : Nat).log2 = 52 by decide, D_frac, Nat.shiftLeft_eq]
  obtain ⟨k, hk⟩ : ∃ k, 52 + 2 + 52 - m.log2 = 52 + k := ⟨54 - m.log2, by omega⟩
  rw [hk]
  have e1 : m * 2 ^ (52 + k) / 4503599627370496 = m * 2 ^ k := by
    rw [Nat.pow_add, show (2 : Nat) ^ 52 = 4503599627370496 from rfl, Nat.mul_comm 4503599627370496, ← Nat.mul_assoc, Nat.mul_div_cancel _ (by omega)]
  have e2 : m * 2 ^ (52 + k) % 4503599627370496 = 0 := by
    rw [Nat.pow_add, show (2 : Nat) ^ 52 = 4503599627370496 from rfl, Nat.mul_comm 4503599627370496, ← Nat.mul_assoc, Nat.mul_mod_left]
  rw [e1, e2]
  show some (D.nearest (sg x) (2 * (m * 2 ^ k) + 0) ((j : Int) - 1074 - -52 - ((52 + k : Nat) : Int) - 1)) = some x
  have e := nearest_scale (sg x) m (k + 1) ((j : Int) - 1074)
  rw [write_read x h hx m j h2] at e
  rw [show 2 * (m * 2 ^ k) + 0 = m * 2 ^ (k + 1) by rw [Nat.pow_succ, Nat.add_zero, Nat.mul_comm 2, Nat.mul_assoc], show (j : Int) - 1074 - -52 - ((52 + k : Nat) : Int) - 1 = (j : Int) - 1074 - ((k + 1 : Nat) : Int) by omega, e]
/-! Order. -/
theorem mag_step (r : Nat) : mag r < mag (r + 1) := by
  unfold mag
  by_cases h1 : r + 1 < 4503599627370496
  · rw [if_pos h1, if_pos (by omega)]; omega
  · rw [if_neg h1]
    by_cases h2 : r < 4503599627370496
    · have hr : r = 4503599627370495 := by omega
      subst hr
      rw [if_pos h2]
      decide
    · rw [if_neg h2]
      by_cases h3 : r % 4503599627370496 = 4503599627370495
      · have q1 : (r + 1) / 4503599627370496 - 1 = (r / 4503599627370496 - 1) + 1 := by omega
        have q2 : (r + 1) % 4503599627370496 = 0 := by omega
        rw [q1, q2, h3, Nat.pow_succ]
        have hp := Nat.two_pow_pos (r / 4503599627370496 - 1)
        generalize 2 ^ (r / 4503599627370496 - 1) = P at *
        omega
      · have q1 : (r + 1) / 4503599627370496 = r / 4503599627370496 := by omega
        have q2 : (r + 1) % 4503599627370496 = r % 4503599627370496 + 1 := by omega
        rw [q1, q2]
        exact (Nat.mul_lt_mul_right (Nat.two_pow_pos _)).2 (by omega)
theorem mag_lt : ∀ (d r : Nat), mag r < mag (r + d + 1)
  | 0, r => mag_step r
  | d + 1, r => Nat.lt_trans (mag_lt d r) (mag_step (r + d + 1))
theorem mag_mono {r s : Nat} (h : r < s) : mag r < mag s := by
  obtain ⟨d, rfl⟩ : ∃ d, s = r + d + 1 := ⟨s - r - 1, by omega⟩
  exact mag_lt d r

def key (x : Nat) : Int := if sg x then 9223372036854775807 - (rg x : Int) else 9223372036854775808 + (rg x : Int)
theorem xor64 (x : Nat) (hx : x < 18446744073709551616) : bits .xor .u64 18446744073709551615 (x : Int) = ((18446744073709551615 - x : Nat) : Int) := by
  have h : 18446744073709551615 ^^^ x = 18446744073709551615 - x := by
    apply Nat.eq_of_testBit_eq
    intro j
    rw [show 18446744073709551615 - x = 2 ^ 64 - (x + 1) by omega, Nat.testBit_two_pow_sub_succ (by omega), Nat.testBit_xor, show (18446744073709551615 : Nat) = 2 ^ 64 - 1 from rfl, Nat.testBit_two_pow_sub_one]
    by_cases hj : j < 64
    · simp [hj]
    · rw [Nat.testBit_lt_two_pow (Nat.lt_of_lt_of_le hx (show 18446744073709551616 ≤ 2 ^ j from Nat.le_trans (show 18446744073709551616 ≤ 2 ^ 64 by decide) (Nat.pow_le_pow_right (by omega) (show 64 ≤ j by omega))))]
      simp [hj]
  show IntKind.u64.wrap ((BitVec.ofInt 64 ((18446744073709551615 : Nat) : Int) ^^^ BitVec.ofInt 64 (x : Int)).toNat : Int) = _
  rw [BitVec.toNat_xor, ofInt_u64 _ (by omega), ofInt_u64 x hx, h, wu64_id (by omega)]
theorem or64 (x : Nat) (hx : x < 9223372036854775808) : bits .or .u64 (x : Int) 9223372036854775808 = ((x + 9223372036854775808 : Nat) : Int) := by
  have h : x ||| 9223372036854775808 = x + 9223372036854775808 := by
    have := Nat.two_pow_add_eq_or_of_lt (b := x) (i := 63) (show x < 2 ^ 63 from hx) 1
    rw [Nat.mul_one, Nat.or_comm] at this
    rw [show (9223372036854775808 : Nat) = 2 ^ 63 from rfl, ← this]; omega
  show IntKind.u64.wrap ((BitVec.ofInt 64 (x : Int) ||| BitVec.ofInt 64 ((9223372036854775808 : Nat) : Int)).toNat : Int) = _
  rw [BitVec.toNat_or, ofInt_u64 x (by omega), ofInt_u64 _ (by omega), h, wu64_id (by omega)]
theorem top64 (x : Nat) (hx : x < 18446744073709551616) : bits .and .u64 (x : Int) 9223372036854775808 = 0 ↔ x < 9223372036854775808 := by
  have h : x &&& 9223372036854775808 = x / 9223372036854775808 % 2 * 9223372036854775808 := by
    have e : (9223372036854775808 : Nat) = 2 ^ 63 := rfl
    rw [e]
    have hm : x / 2 ^ 63 % 2 < 2 := Nat.mod_lt _ (by omega)
    apply Nat.eq_of_testBit_eq
    intro j
    rw [Nat.testBit_and, Nat.testBit_two_pow]
    by_cases h : x / 2 ^ 63 % 2 = 1
    · rw [h, Nat.one_mul, Nat.testBit_two_pow]
      by_cases e : 63 = j
      · subst e; rw [Nat.testBit_eq_decide_div_mod_eq, decide_eq_true h]; rfl
      · rw [decide_eq_false e, Bool.and_false]
    · have h0 : x / 2 ^ 63 % 2 = 0 := by omega
      rw [h0, Nat.zero_mul, Nat.zero_testBit]
      by_cases e : 63 = j
      · subst e; rw [Nat.testBit_eq_decide_div_mod_eq, decide_eq_false h]; rfl
      · rw [decide_eq_false e, Bool.and_false]
  rw [show bits .and .u64 (x : Int) 9223372036854775808 = ((x &&& 9223372036854775808 : Nat) : Int) from and64 x 9223372036854775808 hx (by omega), h]
  omega
theorem key_eq (x : Nat) (hx : x < 18446744073709551616) : soft_key.f (x : Int) = some (key x) := by
  have ht := top64 x hx
  unfold soft_key.f key sg rg
  by_cases h : x < 9223372036854775808
  · rw [if_neg (fun h2 => h2 (ht.2 h)), or64 x h, if_neg (by rw [beq_iff_eq]; omega)]
    congr 1; omega
  · rw [if_pos (fun h2 => h (ht.1 h2)), show IntKind.max .u64 = 18446744073709551615 by decide, xor64 x hx, if_pos (by rw [beq_iff_eq]; omega)]
    congr 1; omega
theorem order_key (x y : Nat) (hx : x < 18446744073709551616) (hy : y < 18446744073709551616) : soft_Order.f (x : Int) (y : Int) = some (if key x < key y then -1 else if key x > key y then 1 else 0) := by
  have hn : ∀ v : Int, cmp_isNaN_uint64.f v = some false := fun v => by unfold cmp_isNaN_uint64.f; simp
  unfold soft_Order.f cmp_Compare_uint64.f
  rw [key_eq x hx, bind_go, key_eq y hy, bind_go, hn, bind_go, hn, bind_go, if_neg (by simp), if_neg (by simp)]
  by_cases h1 : key x < key y
  · rw [if_pos h1, if_pos h1, bind_go]
  · rw [if_neg h1, if_neg h1]
    by_cases h2 : key x > key y
    · rw [if_pos h2, if_pos h2, bind_go]
    · rw [if_neg h2, if_neg h2, bind_go]
theorem mag_le {r s : Nat} (h : mag r < mag s) : r < s := by
  rcases Nat.lt_trichotomy r s with h1 | h1 | h1
  · exact h1
  · subst h1; omega
  · have := mag_mono h1; omega
theorem mag_inj {r s : Nat} (h : mag r = mag s) : r = s := by
  rcases Nat.lt_trichotomy r s with h1 | h1 | h1
  · have := mag_mono h1; omega
  · exact h1
  · have := mag_mono h1; omega
theorem mag0 : mag 0 = 0 := rfl
theorem ord_key (x y : Nat) (hx : rg x ≤ 9218868437227405312) (hy : rg y ≤ 9218868437227405312) : ∃ o, D.order x y = some o ∧ (o = .lt → key x < key y) ∧ (o = .gt → key y < key x) ∧ (o = .eq → key x = key y ∨ rg x = 0 ∧ rg y = 0) := by
  by_cases fx : fin x
  · by_cases fy : fin y
    · refine ⟨_, order_fin x y fx fy, ?_⟩
      have fx : rg x < 9218868437227405312 := fx
      have fy : rg y < 9218868437227405312 := fy
      rw [cmp_int]
      unfold val key
      cases sg x <;> cases sg y
      · simp only [Bool.false_eq_true, ↓reduceIte]
        by_cases h1 : (mag (rg x) : Int) < (mag (rg y) : Int)
        · have := mag_le (r := rg x) (s := rg y) (by omega)
          rw [if_pos h1]; exact ⟨(fun _ => by omega), (fun h => by cases h), (fun h => by cases h)⟩
        · rw [if_neg h1]
          by_cases h2 : (mag (rg x) : Int) = (mag (rg y) : Int)
          · have := mag_inj (r := rg x) (s := rg y) (by omega)
            rw [if_pos h2]; exact ⟨(fun h => by cases h), (fun h => by cases h), fun _ => Or.inl (by omega)⟩
          · have := mag_le (r := rg y) (s := rg x) (by omega)
            rw [if_neg h2]; exact ⟨(fun h => by cases h), (fun _ => by omega), (fun h => by cases h)⟩
      · simp only [Bool.false_eq_true, ↓reduceIte]
        rw [if_neg (by omega)]
        by_cases h2 : (mag (rg x) : Int) = -(mag (rg y) : Int)
        · have e1 := mag_inj (r := rg x) (s := 0) (by rw [mag0]; omega)
          have e2 := mag_inj (r := rg y) (s := 0) (by rw [mag0]; omega)
          rw [if_pos h2]; exact ⟨(fun h => by cases h), (fun h => by cases h), fun _ => Or.inr ⟨e1, e2⟩⟩
        · rw [if_neg h2]; exact ⟨(fun h => by cases h), (fun _ => by omega), (fun h => by cases h)⟩
      · simp only [Bool.false_eq_true, ↓reduceIte]
        by_cases h1 : -(mag (rg x) : Int) < (mag (rg y) : Int)
        · rw [if_pos h1]; exact ⟨(fun _ => by omega), (fun h => by cases h), (fun h => by cases h)⟩
        · rw [if_neg h1]
          have e1 := mag_inj (r := rg x) (s := 0) (by rw [mag0]; omega)
          have e2 := mag_inj (r := rg y) (s := 0) (by rw [mag0]; omega)
          rw [if_pos (by omega)]; exact ⟨(fun h => by cases h), (fun h => by cases h), fun _ => Or.inr ⟨e1, e2⟩⟩
      · simp only [↓reduceIte]
        by_cases h1 : -(mag (rg x) : Int) < -(mag (rg y) : Int)
        · have := mag_le (r := rg y) (s := rg x) (by omega)
          rw [if_pos h1]; exact ⟨(fun _ => by omega), (fun h => by cases h), (fun h => by cases h)⟩
        · rw [if_neg h1]
          by_cases h2 : -(mag (rg x) : Int) = -(mag (rg y) : Int)
          · have := mag_inj (r := rg x) (s := rg y) (by omega)
            rw [if_pos h2]; exact ⟨(fun h => by cases h), (fun h => by cases h), fun _ => Or.inl (by omega)⟩
          · have := mag_le (r := rg x) (s := rg y) (by omega)
            rw [if_neg h2]; exact ⟨(fun h => by cases h), (fun _ => by omega), (fun h => by cases h)⟩
    · have iy : rg y = 9218868437227405312 := by have : ¬ rg y < 9218868437227405312 := fy; omega
      have fx' : rg x < 9218868437227405312 := fx
      obtain ⟨m, j, h1, h2⟩ := read_fin x fx
      refine ⟨if sg y then .gt else .lt, ?_, ?_⟩
      · unfold Ieee.Format.order; rw [h1, read_inf y iy]; rfl
      · unfold key
        cases sg y <;> cases sg x <;> simp <;> omega
  · have ix : rg x = 9218868437227405312 := by have : ¬ rg x < 9218868437227405312 := fx; omega
    by_cases fy : fin y
    · have fy' : rg y < 9218868437227405312 := fy
      obtain ⟨m, j, h1, h2⟩ := read_fin y fy
      refine ⟨if sg x then .lt else .gt, ?_, ?_⟩
      · unfold Ieee.Format.order; rw [h1, read_inf x ix]; rfl
      · unfold key
        cases sg y <;> cases sg x <;> simp <;> omega
    · have iy : rg y = 9218868437227405312 := by have : ¬ rg y < 9218868437227405312 := fy; omega
      refine ⟨compare (sg y).toNat (sg x).toNat, ?_, ?_⟩
      · unfold Ieee.Format.order; rw [read_inf x ix, read_inf y iy]; rfl
      · unfold key
        rw [ix, iy]
        cases sg y <;> cases sg x <;> decide

theorem clamp_back (v : Int) (h0 : 0 ≤ v) (h1 : v < 4294967296) : clamp (wrap32 v) = v := by
  unfold clamp wrap32
  by_cases g : (v + 2147483648) % 4294967296 - 2147483648 ≥ 2147483647
  · rw [if_pos g]; omega
  · rw [if_neg g]
    by_cases g2 : (v + 2147483648) % 4294967296 - 2147483648 ≤ -2147483648
    · rw [if_pos g2]; omega
    · rw [if_neg g2]; omega
theorem wrap32_bd (v : Int) : -2147483648 ≤ wrap32 v ∧ wrap32 v ≤ 2147483647 := by unfold wrap32; omega
def cmpV (o : Option Ordering) : Int := match o with | some .lt => -1 | some .gt => 1 | some .eq => 0 | none => 2
def mnV (o : Option Ordering) (x y z : Nat) : Int := match o with | none => 9221120237041090560 | some o => ofB (some (pick o x y z))
theorem f_cmp0 (x y : Nat) : soft_Cmp.f (x : Int) (y : Int) = some (cmpV (D.order x y)) := by
  show some _ = some _
  unfold cmpV
  rfl
theorem f_min0 (x y : Nat) : soft_Min.f (x : Int) (y : Int) = some (mnV (D.order x y) x y (if (D.read x).neg then x else y)) := by
  show some _ = some _
  unfold mnV
  rfl
theorem f_max0 (x y : Nat) : soft_Max.f (x : Int) (y : Int) = some (mnV (D.order x y) y x (if !(D.read x).neg then x else y)) := by
  show some _ = some _
  unfold mnV
  rfl
theorem f_cmp (x y : Nat) (o : Option Ordering) (h : D.order x y = o) : soft_Cmp.f (x : Int) (y : Int) = some (cmpV o) := by rw [f_cmp0, h]
theorem f_min (x y : Nat) (o : Option Ordering) (h : D.order x y = o) : soft_Min.f (x : Int) (y : Int) = some (mnV o x y (if (D.read x).neg then x else y)) := by rw [f_min0, h]
theorem f_max (x y : Nat) (o : Option Ordering) (h : D.order x y = o) : soft_Max.f (x : Int) (y : Int) = some (mnV o y x (if !(D.read x).neg then x else y)) := by rw [f_max0, h]
theorem neg_sg (x : Nat) (h : rg x ≤ 9218868437227405312) : (D.read x).neg = sg x := by
  by_cases fx : fin x
  · obtain ⟨m, j, h1, h2⟩ := read_fin x fx
    rw [h1]; rfl
  · have ix : rg x = 9218868437227405312 := by have : ¬ rg x < 9218868437227405312 := fx; omega
    rw [read_inf x ix]; rfl
theorem val_zero (x : Nat) (h : rg x = 0) : val x = 0 := by
  unfold val; rw [h, mag0]
  cases sg x <;> rfl
theorem add_zero_cmp (x : Nat) (h : fin x) (hx : x < 18446744073709551616) : ∃ w : Nat, soft_Add.f (x : Int) 0 = some (w : Int) ∧ soft_Cmp.f (w : Int) (x : Int) = some 0 := by
  have hz : fin 0 := by decide
  have v0 : val 0 = 0 := val_zero 0 rfl
  have hr : rg x < 9218868437227405312 := h
  have e := add_fin x 0 h hz
  rw [v0, Int.add_zero, show sg 0 = false from rfl, Bool.and_false] at e
  have ha : (val x).natAbs = mag (rg x) := by unfold val; cases sg x <;> simp
  rw [ha, rnd_mag _ hr] at e
  obtain ⟨w1, w2, w3⟩ := rg_word (if val x = 0 then false else decide (val x < 0)) (rg x) (by omega)
  generalize wordN (if val x = 0 then false else decide (val x < 0)) (rg x) = w at *
  refine ⟨w, ?_, ?_⟩
  · rw [show soft_Add.f (x : Int) 0 = some (ofB (D.add x 0)) from f_add x 0, e, ofB_some w (by omega)]
  · have hv : val w = val x := by
      by_cases h0 : rg x = 0
      · rw [val_zero x h0, val_zero w (by omega)]
      · have hp := mag_pos (rg x) h0
        have hs : sg w = sg x := by
          rw [w2]
          unfold val
          cases sg x
          · rw [if_neg (by simp; omega), decide_eq_false (by simp)]
          · rw [if_neg (by simp; omega), decide_eq_true (by simp; omega)]
        unfold val; rw [hs, w1]
    have ho := order_fin w x (by show rg w < _; omega) h
    rw [hv, cmp_int, if_neg (by omega), if_pos rfl] at ho
    rw [f_cmp w x _ ho]; rfl
theorem j0_ok (x y : Nat) (hx : x < 18446744073709551616) (c : Int) (hc : soft_Class.f (x : Int) = some c) : halterlaw02_SoftLaws.j0 c (x : Int) (y : Int) = some (.inl ()) := by
  have e := class_eq x hx
  rw [hc] at e
  have e := Option.some.inj e
  unfold halterlaw02_SoftLaws.j0
  by_cases h4 : rg x ≤ 9218868437227405312
  · have c4 : ¬ c = 4 := by
      rw [e]; split; omega; split; omega; split; omega; first | (rw [if_pos (by omega)]; omega) | omega
    rw [if_neg c4]
    by_cases h3 : rg x = 9218868437227405312
    · have c3 : c = 3 := by rw [e, if_neg (by omega), if_neg (by omega), if_neg (by omega), if_pos h3]
      rw [if_pos c3, f_sub, inf_sub x h3, bind_go, ofB_none, if_neg (fun h => h rfl), show soft_Div.f 4503599627370496 (x : Int) = some (ofB (D.div 4503599627370496 x)) from f_div 4503599627370496 x, div_inf 4503599627370496 x (by decide) (sg x) (read_inf x h3), bind_go]
      have hz : Int.tmod (ofB (some (wordN (sg 4503599627370496 ^^ sg x) 0))) 9223372036854775808 = 0 := by
        cases sg 4503599627370496 ^^ sg x
        · rw [zer_f]; rfl
        · rw [zer_t]; rfl
      rw [if_neg (fun h => h hz)]
    · have hf : fin x := by show rg x < _; omega
      have c3 : ¬ c = 3 := by
        rw [e]; split; omega; split; omega; first | (rw [if_pos (by omega)]; omega) | omega
      obtain ⟨w, a1, a2⟩ := add_zero_cmp x hf hx
      rw [if_neg c3, f_sub, sub_self x hf, bind_go, show ofB (some 0) = 0 from zer_f, if_neg (fun h => h rfl), a1, bind_go, a2, bind_go, if_neg (fun h => h rfl), show soft_Mul.f (x : Int) 4607182418800017408 = some (ofB (D.mul x 4607182418800017408)) from f_mul x _, mul_one' x hf hx, bind_go, ofB_some x h4, if_neg (fun h => h rfl), show soft_Div.f (x : Int) 4607182418800017408 = some (ofB (D.div x 4607182418800017408)) from f_div x _, div_one' x hf hx, bind_go, ofB_some x h4, if_neg (fun h => h rfl)]
  · have h4' : 9218868437227405312 < rg x := by omega
    have c4 : c = 4 := by rw [e, if_neg (by omega), if_neg (by omega), if_neg (by omega), if_neg (by omega)]
    rw [if_pos c4, f_add, nan_add x y h4', bind_go, ofB_none, if_neg (fun h => h rfl), f_mul, nan_mul x y h4', bind_go, ofB_none, if_neg (fun h => h rfl), f_div, nan_div x y h4', bind_go, ofB_none, if_neg (fun h => h rfl), f_sqrt, nan_sqrt x h4', bind_go, ofB_none, if_neg (fun h => h rfl), f_cmp x y none (nan_ord x y h4'), bind_go, show cmpV none = 2 from rfl, if_neg (fun h => h rfl), f_min y x none (nan_ord2 x y h4'), bind_go]
    rfl
/-- The lesser one and the greater one. -/
theorem minmax (x y : Nat) (hx : rg x ≤ 9218868437227405312) (hy : rg y ≤ 9218868437227405312) : ∃ p q : Nat, soft_Min.f (x : Int) (y : Int) = some (p : Int) ∧ soft_Max.f (x : Int) (y : Int) = some (q : Int) ∧ key p ≤ key q ∧ (p = x ∨ p = y) ∧ (q = x ∨ q = y) := by
  obtain ⟨o, h1, h2, h3, h4⟩ := ord_key x y hx hy
  rw [f_min x y _ h1, f_max x y _ h1, neg_sg x hx]
  cases o with
  | lt => exact ⟨x, y, by show some (ofB (some x)) = _; rw [ofB_some x hx], by show some (ofB (some y)) = _; rw [ofB_some y hy], by have := h2 rfl; omega, Or.inl rfl, Or.inr rfl⟩
  | gt => exact ⟨y, x, by show some (ofB (some y)) = _; rw [ofB_some y hy], by show some (ofB (some x)) = _; rw [ofB_some x hx], by have := h3 rfl; omega, Or.inr rfl, Or.inl rfl⟩
  | eq =>
    have hk := h4 rfl
    cases hs : sg x with
    | true =>
      refine ⟨x, y, by show some (ofB (some x)) = _; rw [ofB_some x hx], by show some (ofB (some y)) = _; rw [ofB_some y hy], ?_, Or.inl rfl, Or.inr rfl⟩
      rcases hk with hk | ⟨a, b⟩
      · omega
      · unfold key; rw [hs, a, b]
        cases sg y <;> decide
    | false =>
      refine ⟨y, x, by show some (ofB (some y)) = _; rw [ofB_some y hy], by show some (ofB (some x)) = _; rw [ofB_some x hx], ?_, Or.inr rfl, Or.inl rfl⟩
      rcases hk with hk | ⟨a, b⟩
      · omega
      · unfold key; rw [hs, a, b]
        cases sg y <;> decide
theorem cls4 (x : Nat) (hx : x < 18446744073709551616) : ∃ c : Int, soft_Class.f (x : Int) = some c ∧ (¬ c = 4 → rg x ≤ 9218868437227405312) := by
  refine ⟨_, class_eq x hx, fun h => ?_⟩
  apply Classical.byContradiction
  intro h2
  exact h (by rw [if_neg (by omega), if_neg (by omega), if_neg (by omega), if_neg (by omega)])
theorem SoftLaws (a0 : Int) (a1 : Int) (a2 : Int) (h0 : (Lit.int .u64 a0).wf = true) (h1 : (Lit.int .u64 a1).wf = true) (h2 : (Lit.int .u32 a2).wf = true) : halterlaw02_SoftLaws.f a0 a1 a2 = some true := by
  obtain ⟨x0, x1⟩ := u64_bd h0
  obtain ⟨y0, y1⟩ := u64_bd h1
  obtain ⟨v0, v1⟩ := u32_bd h2
  obtain ⟨x, rfl⟩ := Int.eq_ofNat_of_zero_le x0
  obtain ⟨y, rfl⟩ := Int.eq_ofNat_of_zero_le y0
  have hx : x < 18446744073709551616 := by omega
  have hy : y < 18446744073709551616 := by omega
  have bn := wrap32_bd a2
  have hn : (wrap32 a2).natAbs < 9007199254740992 := by omega
  obtain ⟨c, hc, hc4⟩ := cls4 x hx
  obtain ⟨c', hc', hc4'⟩ := cls4 y hy
  unfold halterlaw02_SoftLaws.f
  rw [f_add, bind_go, f_add, bind_go, add_comm' y x, if_neg (fun h => h rfl), f_mul, bind_go, f_mul, bind_go, mul_comm' y x, if_neg (fun h => h rfl), f_from, bind_go, from_eq _ hn, toInt_is _ hn, bind_go, clamp_back a2 v0 v1, if_neg (fun h => h rfl), order_key x y hx hy, bind_go, order_key y x hy hx, bind_go]
  have ho : (if key x < key y then (-1 : Int) else if key x > key y then 1 else 0) = IntKind.wrap .i64 (0 - (if key y < key x then (-1 : Int) else if key y > key x then 1 else 0)) := by
    by_cases k1 : key x < key y
    · rw [if_pos k1, if_neg (by omega), if_pos (by omega)]; rfl
    · by_cases k2 : key x > key y
      · rw [if_neg k1, if_pos k2, if_pos (by omega)]; rfl
      · rw [if_neg k1, if_neg k2, if_neg (by omega), if_neg (by omega)]; rfl
  rw [if_neg (fun h => h ho), hc, bind_go, j0_ok x y hx c hc, bind_go]
  dsimp only
  rw [bind_go]
  by_cases h4 : c = 4
  · rw [if_neg (fun h => h h4), sure_t, bind_go]
  · rw [if_pos h4, hc', bind_go]
    by_cases h4' : c' = 4
    · rw [if_neg (fun h => h h4'), sure_t, bind_go]
    · obtain ⟨p, q, m1, m2, m3, m4, m5⟩ := minmax x y (hc4 h4) (hc4' h4')
      have hp : p < 18446744073709551616 := by rcases m4 with rfl | rfl <;> assumption
      have hq : q < 18446744073709551616 := by rcases m5 with rfl | rfl <;> assumption
      have hk : ¬ (if key p < key q then (-1 : Int) else if key p > key q then 1 else 0) > 0 := by
        by_cases k1 : key p < key q
        · rw [if_pos k1]; omega
        · rw [if_neg k1, if_neg (by omega)]; omega
      rw [if_pos h4', m1, bind_go, m2, bind_go, order_key p q hp hq, bind_go, if_neg hk]
      by_cases n1 : (p : Int) = (x : Int)
      · rw [if_neg (fun h => h n1)]
        by_cases n2 : (q : Int) = (x : Int)
        · rw [if_neg (fun h => h n2), sure_t, bind_go]
        · rw [if_pos n2, if_neg (fun h => h (by rcases m5 with e | e <;> omega)), sure_t, bind_go]
      · rw [if_pos n1, if_neg (fun h => h (by rcases m4 with e | e <;> omega))]
        by_cases n2 : (q : Int) = (x : Int)
        · rw [if_neg (fun h => h n2), sure_t, bind_go]
        · rw [if_pos n2, if_neg (fun h => h (by rcases m5 with e | e <;> omega)), sure_t, bind_go]

end Go.Proofs.Ytkaehhfdjenmcaa.Pure
