/- The plain law: what the law computes is true, whatever it is handed. -/
import Derived.Test.YtkaehhfdjenmcaaGSoftEdges
import Derived.Test.YtkaehhfdjenmcaaE16
set_option linter.unusedVariables false
set_option linter.unusedSimpArgs false
set_option linter.unnecessarySimpa false
namespace Go.Proofs.Ytkaehhfdjenmcaa.Pure
open Go Go.Proofs.YtkaehhfdjenmcaaE Go.Proofs.YtkaehhfdjenmcaaGSoftEdges
theorem wu8 (x : Int) : IntKind.wrap .u8 x = x % 256 := by simp [IntKind.wrap, IntKind.bits, IntKind.signed]
theorem wu16 (x : Int) : IntKind.wrap .u16 x = x % 65536 := by simp [IntKind.wrap, IntKind.bits, IntKind.signed]
theorem wu32 (x : Int) : IntKind.wrap .u32 x = x % 4294967296 := by simp [IntKind.wrap, IntKind.bits, IntKind.signed]
theorem wu64 (x : Int) : IntKind.wrap .u64 x = x % 18446744073709551616 := by simp [IntKind.wrap, IntKind.bits, IntKind.signed]
theorem wi64 {x : Int} (h : -9223372036854775808 ≤ x) (h' : x ≤ 9223372036854775807) : IntKind.wrap .i64 x = x := by
  simp [IntKind.wrap, IntKind.bits, IntKind.signed]
  omega
theorem wu8_id {x : Int} (h : 0 ≤ x ∧ x < 256) : IntKind.wrap .u8 x = x := by rw [wu8]; omega
theorem wu32_id {x : Int} (h : 0 ≤ x ∧ x < 4294967296) : IntKind.wrap .u32 x = x := by rw [wu32]; omega
theorem wu64_id {x : Int} (h : 0 ≤ x ∧ x < 18446744073709551616) : IntKind.wrap .u64 x = x := by rw [wu64]; omega
theorem wsucc {i : Nat} (h : i < 9223372036854775807) : IntKind.wrap .i64 ((i : Int) + 1) = ((i + 1 : Nat) : Int) := by rw [wi64 (by omega) (by omega)]; omega
theorem u8_bd {a : Int} (h : (Lit.int .u8 a).wf = true) : 0 ≤ a ∧ a < 256 := by
  simpa [Lit.wf, IntKind.min, IntKind.max, IntKind.signed, IntKind.bits, ← Int.lt_add_one_iff] using h
theorem u32_bd {a : Int} (h : (Lit.int .u32 a).wf = true) : 0 ≤ a ∧ a < 4294967296 := by
  simpa [Lit.wf, IntKind.min, IntKind.max, IntKind.signed, IntKind.bits, ← Int.lt_add_one_iff] using h
theorem u64_bd {a : Int} (h : (Lit.int .u64 a).wf = true) : 0 ≤ a ∧ a < 18446744073709551616 := by
  simpa [Lit.wf, IntKind.min, IntKind.max, IntKind.signed, IntKind.bits, ← Int.lt_add_one_iff] using h
theorem i64_bd {a : Int} (h : (Lit.int .i64 a).wf = true) : -9223372036854775808 ≤ a ∧ a < 9223372036854775808 := by
  simpa [Lit.wf, IntKind.min, IntKind.max, IntKind.signed, IntKind.bits, ← Int.lt_add_one_iff] using h
theorem fuel_gt {n : Nat} (h : n < 18446744073709551616) : n < FUEL := h
theorem bind_go {α β : Type} (a : α) (f : α → Option β) : (some a).bind f = f a := by rw [Option.bind_some]
theorem drop_getD {α : Type} (l : List α) (i : Nat) (d : α) (h : i < l.length) : l.drop i = l.getD i d :: l.drop (i + 1) := by
  rw [List.drop_eq_getElem_cons h, List.getD_eq_getElem?_getD, List.getElem?_eq_getElem h, Option.getD_some]
theorem getD_mem {α : Type} (l : List α) (i : Nat) (d : α) (h : i < l.length) : l.getD i d ∈ l := by
  rw [List.getD_eq_getElem?_getD, List.getElem?_eq_getElem h, Option.getD_some]; exact List.getElem_mem _
theorem toNat_nat (i : Nat) : Int.toNat (i : Int) = i := rfl
/-- A number behind another one: a round of a loop. -/
theorem fuel_step {d n : Nat} (h : d < n) : ∃ m, n = m + 1 := ⟨n - 1, by omega⟩
/-- Where something stands first. -/
def first (v : Int) : List Int → Option Nat
  | [] => none
  | x :: xs => if x = v then some 0 else (first v xs).map (· + 1)
theorem first_none {v : Int} : ∀ {l : List Int}, first v l = none → ∀ z ∈ l, z ≠ v
  | [], _, z, hz => by cases hz
  | x :: xs, h, z, hz => by
    unfold first at h
    split at h
    · cases h
    · rename_i hx
      rcases List.mem_cons.1 hz with rfl | hz
      · exact hx
      · exact first_none (by simpa using h) z hz
theorem first_some {v : Int} : ∀ {l : List Int} {k : Nat}, first v l = some k → k < l.length ∧ l.getD k 0 = v ∧ ∀ j, j < k → l.getD j 0 ≠ v
  | [], _, h => by cases h
  | x :: xs, k, h => by
    unfold first at h
    split at h
    · cases h
      rename_i hx
      exact ⟨by simp, by simpa using hx, fun j hj => by omega⟩
    · rename_i hx
      cases hf : first v xs with
      | none => simp [hf] at h
      | some m =>
        simp [hf] at h
        subst h
        obtain ⟨h1, h2, h3⟩ := first_some hf
        refine ⟨by simp; omega, by simpa using h2, fun j hj => ?_⟩
        cases j with
        | zero => simpa using hx
        | succ j => simpa using h3 j (by omega)

open Go.Proofs.YtkaehhfdjenmcaaF (ofB ofB_none sg rg mag val fin D wordN rnd read_fin read_inf read_nan word_self write_read rnd_mag mag_rnd mag_exact order_fin add_fin sub_fin nearest_units nearest_scale nearest_eq word_eq D_eq D_inf D_binade D_sign D_least D_frac cut_rne rne rne_zero rne_scale rne_exact log2_shift log2_of signed_eq val_of cmp_int pick geB leB)
theorem ofInt_u64 (a : Nat) (ha : a < 18446744073709551616) : (BitVec.ofInt 64 (a : Int)).toNat = a := by
  rw [BitVec.ofInt_natCast, BitVec.toNat_ofNat]; exact Nat.mod_eq_of_lt (by omega)
theorem and64 (a b : Nat) (ha : a < 18446744073709551616) (hb : b < 18446744073709551616) : bits .and .u64 (a : Int) (b : Int) = ((a &&& b : Nat) : Int) := by
  have hx : a &&& b < 2 ^ 64 := Nat.and_lt_two_pow _ (by omega)
  show IntKind.u64.wrap ((BitVec.ofInt 64 (a : Int) &&& BitVec.ofInt 64 (b : Int)).toNat : Int) = _
  rw [BitVec.toNat_and, ofInt_u64 a ha, ofInt_u64 b hb, wu64_id (by omega)]
theorem shr52 (a : Nat) : shr .u64 (a : Int) 52 = ((a / 4503599627370496 : Nat) : Int) := by simp [shr, IntKind.bits]
theorem shr63 (a : Nat) : shr .u64 (a : Int) 63 = ((a / 9223372036854775808 : Nat) : Int) := by simp [shr, IntKind.bits]
theorem class_eq (x : Nat) (h : x < 18446744073709551616) : soft_Class.f (x : Int) = some (if rg x = 0 then 0 else if rg x < 4503599627370496 then 1 else if rg x < 9218868437227405312 then 2 else if rg x = 9218868437227405312 then 3 else 4) := by
  have e1 : bits .and .u64 (shr .u64 (x : Int) 52) 2047 = ((x / 4503599627370496 % 2048 : Nat) : Int) := by
    rw [shr52, show bits .and .u64 ((x / 4503599627370496 : Nat) : Int) 2047 = ((x / 4503599627370496 &&& 2047 : Nat) : Int) from and64 _ 2047 (by omega) (by omega), show (2047 : Nat) = 2 ^ 11 - 1 from rfl, Nat.and_two_pow_sub_one_eq_mod]
  have e2 : bits .and .u64 (x : Int) 4503599627370495 = ((x % 4503599627370496 : Nat) : Int) := by
    rw [show bits .and .u64 (x : Int) 4503599627370495 = ((x &&& 4503599627370495 : Nat) : Int) from and64 _ 4503599627370495 h (by omega), show (4503599627370495 : Nat) = 2 ^ 52 - 1 from rfl, Nat.and_two_pow_sub_one_eq_mod]
  unfold soft_Class.f rg
  rw [e1, e2]
  by_cases h1 : ((x / 4503599627370496 % 2048 : Nat) : Int) = 0
  · rw [if_pos h1]
    by_cases h2 : ((x % 4503599627370496 : Nat) : Int) = 0
    · rw [if_pos h2, if_pos (show x % 9223372036854775808 = 0 by omega)]
    · rw [if_neg h2, if_neg (show ¬ x % 9223372036854775808 = 0 by omega), if_pos (show x % 9223372036854775808 < 4503599627370496 by omega)]
  · rw [if_neg h1, if_neg (show ¬ x % 9223372036854775808 = 0 by omega), if_neg (show ¬ x % 9223372036854775808 < 4503599627370496 by omega)]
    by_cases h2 : ((x / 4503599627370496 % 2048 : Nat) : Int) < 2047
    · rw [if_pos h2, if_pos (show x % 9223372036854775808 < 9218868437227405312 by omega)]
    · rw [if_neg h2, if_neg (show ¬ x % 9223372036854775808 < 9218868437227405312 by omega)]
      by_cases h3 : ((x % 4503599627370496 : Nat) : Int) = 0
      · rw [if_pos h3, if_pos (show x % 9223372036854775808 = 9218868437227405312 by omega)]
      · rw [if_neg h3, if_neg (show ¬ x % 9223372036854775808 = 9218868437227405312 by omega)]
theorem sg_eq (x : Nat) (h : x < 18446744073709551616) : (shr .u64 (x : Int) 63 == 1) = sg x := by
  rw [shr63, Bool.eq_iff_iff, beq_iff_eq]
  unfold sg
  rw [beq_iff_eq]
  omega
theorem mag_pos (r : Nat) (h : r ≠ 0) : mag r ≠ 0 := by
  unfold mag
  have hp := Nat.two_pow_pos (r / 4503599627370496 - 1)
  split
  · exact h
  · intro e
    rcases Nat.mul_eq_zero.1 e with e | e <;> omega
theorem read_pos (x : Nat) (h : fin x) (h0 : rg x ≠ 0) : ∃ m j : Nat, m ≠ 0 ∧ D.read x = .number (sg x) m ((j : Int) - 1074) ∧ m * 2 ^ j = mag (rg x) := by
  obtain ⟨m, j, h1, h2⟩ := read_fin x h
  refine ⟨m, j, fun e => ?_, h1, h2⟩
  rw [e, Nat.zero_mul] at h2
  exact mag_pos _ h0 h2.symm
theorem order_self (x : Nat) (h : rg x ≤ 9218868437227405312) : D.order x x = some .eq := by
  by_cases h1 : fin x
  · rw [order_fin x x h1 h1, cmp_int, if_neg (by omega), if_pos rfl]
  · have h2 : rg x = 9218868437227405312 := by have : ¬ rg x < 9218868437227405312 := h1; omega
    unfold Ieee.Format.order
    rw [read_inf x h2]
    show some (compare (sg x).toNat (sg x).toNat) = some .eq
    cases sg x <;> rfl
theorem ofB_some (x : Nat) (h : rg x ≤ 9218868437227405312) : ofB (some x) = (x : Int) := by
  unfold ofB
  dsimp only
  rw [if_pos (show FloatKind.f64.format.order x x = some .eq from order_self x h)]
theorem div_zero (x z : Nat) (hx : fin x) (h0 : rg x ≠ 0) (t : Bool) (hz : D.read z = .number t 0 (-1074)) : D.div x z = some (wordN (sg x ^^ t) 9218868437227405312) := by
  obtain ⟨m, j, hm, h1, h2⟩ := read_pos x hx h0
  unfold Ieee.Format.div
  rw [h1, hz]
  unfold Ieee.Datum.quotient
  dsimp only
  rw [if_pos rfl, if_neg hm]
  show some (D.word _ _) = _
  rw [word_eq, D_inf]
theorem mul_inf (x z : Nat) (hx : fin x) (h0 : rg x ≠ 0) (t : Bool) (hz : D.read z = .infinity t) : D.mul x z = some (wordN (t ^^ sg x) 9218868437227405312) := by
  obtain ⟨m, j, hm, h1, h2⟩ := read_pos x hx h0
  unfold Ieee.Format.mul
  rw [h1, hz]
  show ((if m = 0 then none else some (Ieee.Datum.infinity (t ^^ sg x))).map D.write) = _
  rw [if_neg hm]
  show some (D.word _ _) = _
  rw [word_eq, D_inf]
theorem add_inf (x z : Nat) (hx : fin x) (t : Bool) (hz : D.read z = .infinity t) : D.add x z = some (wordN t 9218868437227405312) := by
  obtain ⟨m, j, h1, h2⟩ := read_fin x hx
  unfold Ieee.Format.add
  rw [h1, hz]
  show some (D.word _ _) = _
  rw [word_eq, D_inf]
theorem div_inf (x z : Nat) (hx : fin x) (t : Bool) (hz : D.read z = .infinity t) : D.div x z = some (wordN (sg x ^^ t) 0) := by
  obtain ⟨m, j, h1, h2⟩ := read_fin x hx
  unfold Ieee.Format.div
  rw [h1, hz]
  show some (D.nearest _ 0 0) = _
  rw [nearest_eq, if_pos rfl]
theorem nearest_rg (m : Nat) (p : Int) : rg (D.nearest false m p) ≤ 9218868437227405312 ∧ D.nearest false m p ≤ 9218868437227405312 := by
  rw [nearest_eq]
  unfold wordN rg
  split
  · rw [if_neg (by simp)]; omega
  · rw [if_neg (by simp)]; omega
theorem sqrt_pos (x : Nat) (hx : fin x) (h0 : rg x ≠ 0) (hs : sg x = false) : ∃ b : Nat, D.sqrt x = some b ∧ rg b ≤ 9218868437227405312 ∧ b ≤ 9218868437227405312 := by
  obtain ⟨m, j, hm, h1, h2⟩ := read_pos x hx h0
  unfold Ieee.Format.sqrt
  rw [h1, hs]
  unfold Ieee.Datum.root
  dsimp only
  rw [if_neg hm, if_neg (by simp)]
  exact ⟨_, rfl, nearest_rg _ _⟩
theorem sqrt_neg (x : Nat) (hx : fin x) (h0 : rg x ≠ 0) (hs : sg x = true) : D.sqrt x = none := by
  obtain ⟨m, j, hm, h1, h2⟩ := read_pos x hx h0
  unfold Ieee.Format.sqrt
  rw [h1, hs]
  unfold Ieee.Datum.root
  dsimp only
  rw [if_neg hm, if_pos rfl]
  rfl
theorem f_add (x y : Nat) : soft_Add.f (x : Int) (y : Int) = some (ofB (D.add x y)) := rfl
theorem f_sub (x y : Nat) : soft_Sub.f (x : Int) (y : Int) = some (ofB (D.sub x y)) := rfl
theorem f_mul (x y : Nat) : soft_Mul.f (x : Int) (y : Int) = some (ofB (D.mul x y)) := rfl
theorem f_div (x y : Nat) : soft_Div.f (x : Int) (y : Int) = some (ofB (D.div x y)) := rfl
theorem f_sqrt (x : Nat) : soft_Sqrt.f (x : Int) = some (ofB (D.sqrt x)) := rfl
theorem inf_t : ofB (some (wordN true 9218868437227405312)) = 18442240474082181120 := by kernel_rfl
theorem inf_f : ofB (some (wordN false 9218868437227405312)) = 9218868437227405312 := by kernel_rfl
theorem zer_t : ofB (some (wordN true 0)) = 9223372036854775808 := by kernel_rfl
theorem zer_f : ofB (some (wordN false 0)) = 0 := by kernel_rfl
theorem sqrt_is (x : Nat) (hx : fin x) (h0 : rg x ≠ 0) : ∃ v : Int, soft_Sqrt.f (x : Int) = some v ∧ (v == 9221120237041090560) = sg x := by
  refine ⟨_, f_sqrt x, ?_⟩
  cases hs : sg x with
  | true => rw [sqrt_neg x hx h0 hs]; rfl
  | false =>
    obtain ⟨b, h1, h2, h3⟩ := sqrt_pos x hx h0 hs
    rw [h1, ofB_some b h2, beq_eq_false_iff_ne]
    omega
theorem sure_t : halterlaw02_sure.f = some true := by kernel_rfl

theorem rd_t : D.read 18442240474082181120 = .infinity true := by kernel_rfl
theorem rd_f : D.read 9218868437227405312 = .infinity false := by kernel_rfl
theorem rz_t : D.read 9223372036854775808 = .number true 0 (-1074) := by kernel_rfl
theorem rz_f : D.read 0 = .number false 0 (-1074) := by kernel_rfl
theorem shl_z : ∀ v : Int, v = 0 ∨ v = 9223372036854775808 → shl .u64 v 1 = 0 := by
  rintro v (rfl | rfl) <;> decide
theorem shl_zer (s : Bool) : shl .u64 (ofB (some (wordN s 0))) 1 = 0 := by
  cases s
  · rw [zer_f]; exact shl_z 0 (Or.inl rfl)
  · rw [zer_t]; exact shl_z _ (Or.inr rfl)
theorem edge_t (x : Nat) (h : x < 18446744073709551616) (hx : fin x) (h0 : rg x ≠ 0) :
    soft_Div.f (x : Int) 9223372036854775808 = some (ofB (some (wordN (sg x ^^ true) 9218868437227405312))) ∧ soft_Mul.f (x : Int) 18442240474082181120 = some (ofB (some (wordN (true ^^ sg x) 9218868437227405312))) ∧ soft_Add.f (x : Int) 18442240474082181120 = some 18442240474082181120 ∧ soft_Div.f (x : Int) 18442240474082181120 = some (ofB (some (wordN (sg x ^^ true) 0))) := by
  refine ⟨?_, ?_, ?_, ?_⟩
  · rw [show soft_Div.f (x : Int) 9223372036854775808 = some (ofB (D.div x 9223372036854775808)) from f_div x _, div_zero x _ hx h0 true rz_t]
  · rw [show soft_Mul.f (x : Int) 18442240474082181120 = some (ofB (D.mul x 18442240474082181120)) from f_mul x _, mul_inf x _ hx h0 true rd_t]
  · rw [show soft_Add.f (x : Int) 18442240474082181120 = some (ofB (D.add x 18442240474082181120)) from f_add x _, add_inf x _ hx true rd_t, inf_t]
  · rw [show soft_Div.f (x : Int) 18442240474082181120 = some (ofB (D.div x 18442240474082181120)) from f_div x _, div_inf x _ hx true rd_t]
theorem edge_f (x : Nat) (h : x < 18446744073709551616) (hx : fin x) (h0 : rg x ≠ 0) :
    soft_Div.f (x : Int) 0 = some (ofB (some (wordN (sg x ^^ false) 9218868437227405312))) ∧ soft_Mul.f (x : Int) 9218868437227405312 = some (ofB (some (wordN (false ^^ sg x) 9218868437227405312))) ∧ soft_Add.f (x : Int) 9218868437227405312 = some 9218868437227405312 ∧ soft_Div.f (x : Int) 9218868437227405312 = some (ofB (some (wordN (sg x ^^ false) 0))) := by
  refine ⟨?_, ?_, ?_, ?_⟩
  · rw [show soft_Div.f (x : Int) 0 = some (ofB (D.div x 0)) from f_div x _, div_zero x _ hx h0 false rz_f]
  · rw [show soft_Mul.f (x : Int) 9218868437227405312 = some (ofB (D.mul x 9218868437227405312)) from f_mul x _, mul_inf x _ hx h0 false rd_f]
  · rw [show soft_Add.f (x : Int) 9218868437227405312 = some (ofB (D.add x 9218868437227405312)) from f_add x _, add_inf x _ hx false rd_f, inf_f]
  · rw [show soft_Div.f (x : Int) 9218868437227405312 = some (ofB (D.div x 9218868437227405312)) from f_div x _, div_inf x _ hx false rd_f]
theorem zero_is (x : Nat) (h : x < 18446744073709551616) (h0 : rg x = 0) : (x : Int) = 0 ∨ (x : Int) = 9223372036854775808 := by
  unfold rg at h0; omega
theorem cls (x : Nat) (h : x < 18446744073709551616) : (∃ c : Int, soft_Class.f (x : Int) = some c ∧ (c = 3 ∨ c = 4)) ∨ (rg x = 0 ∧ soft_Class.f (x : Int) = some 0) ∨ (fin x ∧ rg x ≠ 0 ∧ ∃ c : Int, soft_Class.f (x : Int) = some c ∧ c ≠ 4 ∧ c ≠ 3 ∧ c ≠ 0) := by
  have e := class_eq x h
  by_cases h0 : rg x = 0
  · rw [if_pos h0] at e; exact Or.inr (Or.inl ⟨h0, e⟩)
  · rw [if_neg h0] at e
    by_cases h1 : rg x < 4503599627370496
    · rw [if_pos h1] at e
      exact Or.inr (Or.inr ⟨by show rg x < _; omega, h0, 1, e, by decide, by decide, by decide⟩)
    · rw [if_neg h1] at e
      by_cases h2 : rg x < 9218868437227405312
      · rw [if_pos h2] at e
        exact Or.inr (Or.inr ⟨h2, h0, 2, e, by decide, by decide, by decide⟩)
      · rw [if_neg h2] at e
        by_cases h3 : rg x = 9218868437227405312
        · rw [if_pos h3] at e; exact Or.inl ⟨3, e, Or.inl rfl⟩
        · rw [if_neg h3] at e; exact Or.inl ⟨4, e, Or.inr rfl⟩
theorem SoftEdges (a0 : Int) (a1 : Bool) (h0 : (Lit.int .u64 a0).wf = true) : halterlaw02_SoftEdges.f a0 a1 = some true := by
  obtain ⟨x0, x1⟩ := u64_bd h0
  obtain ⟨x, rfl⟩ := Int.eq_ofNat_of_zero_le x0
  have h : x < 18446744073709551616 := by omega
  unfold halterlaw02_SoftEdges.f
  rw [sg_eq x h]
  cases a1 with
  | true =>
    rw [if_pos rfl, show soft_Mul.f 9223372036854775808 18442240474082181120 = some 9221120237041090560 by kernel_rfl, bind_go, if_neg (fun h => h rfl), show soft_Sub.f 18442240474082181120 18442240474082181120 = some 9221120237041090560 by kernel_rfl, bind_go, if_neg (fun h => h rfl), show soft_Div.f 9223372036854775808 9223372036854775808 = some 9221120237041090560 by kernel_rfl, bind_go, if_neg (fun h => h rfl), show soft_Div.f 18442240474082181120 18442240474082181120 = some 9221120237041090560 by kernel_rfl, bind_go, if_neg (fun h => h rfl), show soft_Sqrt.f 9223372036854775808 = some 9223372036854775808 by kernel_rfl, bind_go, if_neg (fun h => h rfl), show soft_Sqrt.f 18442240474082181120 = some 9221120237041090560 by kernel_rfl, bind_go, if_neg (fun h => h rfl)]
    rcases cls x h with ⟨c, e, hc⟩ | ⟨h0, e⟩ | ⟨hx, h0, c, e, c4, c3, c0⟩
    · rw [e, bind_go]
      by_cases h4 : c = 4
      · rw [if_pos h4, sure_t, bind_go]
      · rw [if_neg h4, if_pos (hc.resolve_right h4), sure_t, bind_go]
    · rw [e, bind_go, if_neg (by decide), if_neg (by decide), if_pos rfl]
      rcases zero_is x h h0 with hx | hx
      · rw [hx, show soft_Add.f 0 18442240474082181120 = some 18442240474082181120 by kernel_rfl, bind_go, if_pos rfl, show soft_Cmp.f 0 9223372036854775808 = some 0 by kernel_rfl, bind_go, if_pos rfl, sure_t, bind_go]
      · rw [hx, show soft_Add.f 9223372036854775808 18442240474082181120 = some 18442240474082181120 by kernel_rfl, bind_go, if_pos rfl, show soft_Cmp.f 9223372036854775808 9223372036854775808 = some 0 by kernel_rfl, bind_go, if_pos rfl, sure_t, bind_go]
    · obtain ⟨e1, e2, e3, e4⟩ := edge_t x h hx h0
      obtain ⟨v, v1, v2⟩ := sqrt_is x hx h0
      rw [e, bind_go, if_neg c4, if_neg c3, if_neg c0, e1, e2, e3, e4, v1]
      cases hs : sg x with
      | true =>
        rw [hs] at v2
        rw [if_neg (fun h => h rfl), bind_go, show (true ^^ true) = false from rfl, inf_f, if_pos rfl, bind_go, if_pos rfl, bind_go, if_pos rfl, bind_go, if_pos (shl_zer _), bind_go, if_pos v2, sure_t, bind_go]
      | false =>
        rw [hs] at v2
        rw [if_pos (by decide), bind_go, show (false ^^ true) = true from rfl, show (true ^^ false) = true from rfl, inf_t, if_pos rfl, bind_go, if_pos rfl, bind_go, if_pos rfl, bind_go, if_pos (shl_zer _), bind_go, if_pos v2, sure_t, bind_go]
  | false =>
    rw [if_neg (by simp), show soft_Mul.f 0 9218868437227405312 = some 9221120237041090560 by kernel_rfl, bind_go, if_neg (fun h => h rfl), show soft_Sub.f 9218868437227405312 9218868437227405312 = some 9221120237041090560 by kernel_rfl, bind_go, if_neg (fun h => h rfl), show soft_Div.f 0 0 = some 9221120237041090560 by kernel_rfl, bind_go, if_neg (fun h => h rfl), show soft_Div.f 9218868437227405312 9218868437227405312 = some 9221120237041090560 by kernel_rfl, bind_go, if_neg (fun h => h rfl), show soft_Sqrt.f 0 = some 0 by kernel_rfl, bind_go, if_neg (fun h => h rfl), show soft_Sqrt.f 9218868437227405312 = some 9218868437227405312 by kernel_rfl, bind_go, if_neg (fun h => h rfl)]
    rcases cls x h with ⟨c, e, hc⟩ | ⟨h0, e⟩ | ⟨hx, h0, c, e, c4, c3, c0⟩
    · rw [e, bind_go]
      by_cases h4 : c = 4
      · rw [if_pos h4, sure_t, bind_go]
      · rw [if_neg h4, if_pos (hc.resolve_right h4), sure_t, bind_go]
    · rw [e, bind_go, if_neg (by decide), if_neg (by decide), if_pos rfl]
      rcases zero_is x h h0 with hx | hx
      · rw [hx, show soft_Add.f 0 9218868437227405312 = some 9218868437227405312 by kernel_rfl, bind_go, if_pos rfl, show soft_Cmp.f 0 0 = some 0 by kernel_rfl, bind_go, if_pos rfl, sure_t, bind_go]
      · rw [hx, show soft_Add.f 9223372036854775808 9218868437227405312 = some 9218868437227405312 by kernel_rfl, bind_go, if_pos rfl, show soft_Cmp.f 9223372036854775808 0 = some 0 by kernel_rfl, bind_go, if_pos rfl, sure_t, bind_go]
    · obtain ⟨e1, e2, e3, e4⟩ := edge_f x h hx h0
      obtain ⟨v, v1, v2⟩ := sqrt_is x hx h0
      rw [e, bind_go, if_neg c4, if_neg c3, if_neg c0, e1, e2, e3, e4, v1]
      cases hs : sg x with
      | true =>
        rw [hs] at v2
        rw [if_pos (by decide), bind_go, show (true ^^ false) = true from rfl, show (false ^^ true) = true from rfl, inf_t, if_pos rfl, bind_go, if_pos rfl, bind_go, if_pos rfl, bind_go, if_pos (shl_zer _), bind_go, if_pos v2, sure_t, bind_go]
      | false =>
        rw [hs] at v2
        rw [if_neg (fun h => h rfl), bind_go, show (false ^^ false) = false from rfl, inf_f, if_pos rfl, bind_go, if_pos rfl, bind_go, if_pos rfl, bind_go, if_pos (shl_zer _), bind_go, if_pos v2, sure_t, bind_go]

end Go.Proofs.Ytkaehhfdjenmcaa.Pure
