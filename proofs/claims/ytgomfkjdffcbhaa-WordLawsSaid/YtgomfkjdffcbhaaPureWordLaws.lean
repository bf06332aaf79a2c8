/- WordLaws, read purely. -/
import Derived.Test.YtgomfkjdffcbhaaPWordLawsx3
set_option linter.unusedVariables false
set_option linter.unusedSimpArgs false
set_option linter.unnecessarySimpa false
namespace Go.Proofs.Ytgomfkjdffcbhaa.Pure
open Go.RowKit Go.Proofs.Ytgomfkjdffcbhaa.PWordLaws Go.Proofs.YtgomfkjdffcbhaaW.PrintWords Go.Proofs.YtgomfkjdffcbhaaW.PrintLast Go.Proofs.YtgomfkjdffcbhaaW.PrintMore

theorem u64w (x : Int) : IntKind.u64.wrap x = x % 18446744073709551616 := by simp [IntKind.wrap, IntKind.bits, IntKind.signed]
theorem u32_bd {a : Int} (h : (Lit.int .u32 a).wf = true) : 0 ≤ a ∧ a ≤ 4294967295 := by
  simpa [Lit.wf, IntKind.min, IntKind.max, IntKind.signed, IntKind.bits] using h
theorem i64_bd {a : Int} (h : (Lit.int .i64 a).wf = true) : -9223372036854775808 ≤ a ∧ a ≤ 9223372036854775807 := by
  simpa [Lit.wf, IntKind.min, IntKind.max, IntKind.signed, IntKind.bits] using h
theorem tmod_pos {a m : Int} (h : 0 ≤ a) : Int.tmod a m = a % m := Int.tmod_eq_emod_of_nonneg h
theorem tdiv_pos {a m : Int} (h : 0 ≤ a) : Int.tdiv a m = a / m := Int.tdiv_eq_ediv_of_nonneg h
theorem w64 {x : Int} (h0 : -9223372036854775808 ≤ x) (h1 : x ≤ 9223372036854775807) : wrap64 x = x := by unfold wrap64; omega

theorem neg_eq (x : Int) (h0 : 0 ≤ x) (h1 : x ≤ 4294967295) : word_negative.f x = some (decide (2147483648 ≤ x)) := by
  unfold word_negative.f
  congr 1
  simp only [decide_eq_decide]
  unfold wrap32
  omega
theorem add32_eq (a b c : Int) (ha0 : 0 ≤ a) (ha : a ≤ 4294967295) (hb0 : 0 ≤ b) (hb : b ≤ 4294967295) (hc0 : 0 ≤ c) (hc : c ≤ 1) :
    bits_Add32.f a b c = some ((a + b + c) % 4294967296, (a + b + c) / 4294967296) := by
  unfold bits_Add32.f
  simp only [u64w]
  congr 1
  simp only [Prod.mk.injEq]
  constructor <;> omega
theorem addj_eq (k : Nat) (a b ci : Int) (ha0 : 0 ≤ a) (ha : a ≤ 4294967295) (hb0 : 0 ≤ b) (hb : b ≤ 4294967295) (h0 : 0 ≤ ci) (h1 : ci ≤ 1) :
    word_Add.j0 (k + 1) a b ci = some ((a + b + ci) % 4294967296, decide (4294967296 ≤ a + b + ci), (decide (2147483648 ≤ a) == decide (2147483648 ≤ b)) && (decide (2147483648 ≤ (a + b + ci) % 4294967296) != decide (2147483648 ≤ a))) := by
  simp only [word_Add.j0]
  rw [add32_eq a b ci ha0 ha hb0 hb h0 h1]
  simp only [Option.bind_some]
  rw [neg_eq a ha0 ha, neg_eq b hb0 hb, neg_eq ((a + b + ci) % 4294967296) (by omega) (by omega)]
  simp only [Option.bind_some]
  have hq : ((a + b + ci) / 4294967296 == 1) = decide (4294967296 ≤ a + b + ci) := by
    rw [Bool.eq_iff_iff]
    simp only [beq_iff_eq, decide_eq_true_eq]
    omega
  rw [hq]
  by_cases h : (decide (2147483648 ≤ a) == decide (2147483648 ≤ b)) = true
  · rw [if_pos h, h]; simp
  · rw [if_neg h]
    simp only [Bool.not_eq_true] at h
    rw [h]
    simp
theorem add_eq (k : Nat) (a b : Int) (c : Bool) (ha0 : 0 ≤ a) (ha : a ≤ 4294967295) (hb0 : 0 ≤ b) (hb : b ≤ 4294967295) :
    word_Add.f (k + 1) a b c = some ((a + b + if c then 1 else 0) % 4294967296, decide (4294967296 ≤ a + b + if c then 1 else 0), (decide (2147483648 ≤ a) == decide (2147483648 ≤ b)) && (decide (2147483648 ≤ (a + b + if c then 1 else 0) % 4294967296) != decide (2147483648 ≤ a))) := by
  cases c
  · exact addj_eq k a b 0 ha0 ha hb0 hb (by decide) (by decide)
  · exact addj_eq k a b 1 ha0 ha hb0 hb (by decide) (by decide)

theorem wraps_u32 (n : Int) (h0 : 0 ≤ n) (h1 : n < 2 ^ 32) : IntKind.u32.wrap n = n := by rw [IntKind.wrap_u32]; omega
theorem and32 (x y : Nat) (hx : x < 4294967296) (hy : y < 4294967296) : Go.bits .and .u32 x y = ((x &&& y : Nat) : Int) := (bits_nat .u32 32 (by decide) wraps_u32 x y hx hy).1
theorem or32 (x y : Nat) (hx : x < 4294967296) (hy : y < 4294967296) : Go.bits .or .u32 x y = ((x ||| y : Nat) : Int) := (bits_nat .u32 32 (by decide) wraps_u32 x y hx hy).2
theorem xor32 (x y : Nat) (hx : x < 4294967296) (hy : y < 4294967296) : Go.bits .xor .u32 x y = ((x ^^^ y : Nat) : Int) := by
  have hx' : x % 2 ^ IntKind.u32.bits = x := Nat.mod_eq_of_lt hx
  have hy' : y % 2 ^ IntKind.u32.bits = y := Nat.mod_eq_of_lt hy
  have hl : x ^^^ y < 2 ^ 32 := Nat.xor_lt_two_pow (n := 32) hx hy
  simp only [Go.bits, BitVec.ofInt_natCast, BitVec.toNat_xor, BitVec.toNat_ofNat, hx', hy']
  exact wraps_u32 _ (Int.natCast_nonneg _) (by exact_mod_cast hl)
theorem tb31 (n : Nat) (h : n < 4294967296) : n.testBit 31 = decide (2147483648 ≤ n) := by
  rw [Nat.testBit_eq_decide_div_mod_eq, decide_eq_decide]
  omega
theorem top31 (n : Nat) (h : n < 4294967296) : n / 2147483648 = (if n.testBit 31 then 1 else 0) := by
  rw [tb31 n h]
  by_cases h2 : 2147483648 ≤ n
  · simp [h2]; omega
  · simp [h2]; omega
theorem borrow (x y : Nat) (hx : x < 4294967296) (hy : y < 4294967296) :
    (Go.bits .or .u32 (Go.bits .and .u32 (Go.bits .xor .u32 4294967295 (x : Int)) (y : Int)) (Go.bits .and .u32 (Go.bits .xor .u32 4294967295 (Go.bits .xor .u32 (x : Int) (y : Int))) (((x : Int) - y) % 4294967296))) / 2147483648 = if x < y then 1 else 0 := by
  obtain ⟨z, hz⟩ : ∃ z : Nat, (z : Int) = ((x : Int) - y) % 4294967296 := ⟨(((x : Int) - y) % 4294967296).toNat, by omega⟩
  have hz1 : z < 4294967296 := by omega
  rw [← hz]
  have c : (4294967295 : Int) = ((4294967295 : Nat) : Int) := rfl
  have h1 : x ^^^ y < 4294967296 := Nat.xor_lt_two_pow (n := 32) hx hy
  have h2 : 4294967295 ^^^ x < 4294967296 := Nat.xor_lt_two_pow (n := 32) (by decide) hx
  have h3 : 4294967295 ^^^ (x ^^^ y) < 4294967296 := Nat.xor_lt_two_pow (n := 32) (by decide) h1
  have h4 : (4294967295 ^^^ x) &&& y < 4294967296 := Nat.and_lt_two_pow (n := 32) _ hy
  have h5 : (4294967295 ^^^ (x ^^^ y)) &&& z < 4294967296 := Nat.and_lt_two_pow (n := 32) _ hz1
  have h6 : ((4294967295 ^^^ x) &&& y) ||| ((4294967295 ^^^ (x ^^^ y)) &&& z) < 4294967296 := Nat.or_lt_two_pow (n := 32) h4 h5
  rw [c, xor32 x y hx hy, xor32 _ x (by decide) hx, xor32 _ (x ^^^ y) (by decide) h1, and32 _ y h2 hy, and32 _ z h3 hz1, or32 _ _ h4 h5]
  have e : (((((4294967295 ^^^ x) &&& y) ||| ((4294967295 ^^^ (x ^^^ y)) &&& z) : Nat) : Int) / 2147483648) = (((((4294967295 ^^^ x) &&& y) ||| ((4294967295 ^^^ (x ^^^ y)) &&& z)) / 2147483648 : Nat) : Int) := by simp
  rw [e, top31 _ h6]
  simp only [Nat.testBit_or, Nat.testBit_and, Nat.testBit_xor, tb31 x hx, tb31 y hy, tb31 z hz1, tb31 4294967295 (by decide)]
  by_cases a : 2147483648 ≤ x <;> by_cases b : 2147483648 ≤ y <;> by_cases d : 2147483648 ≤ z <;> by_cases l : x < y <;> simp [a, b, d, l] <;> omega
theorem sub32_eq (a b : Int) (ha0 : 0 ≤ a) (ha : a ≤ 4294967295) (hb0 : 0 ≤ b) (hb : b ≤ 4294967295) :
    bits_Sub32.f a b 0 = some ((a - b) % 4294967296, if a < b then 1 else 0) := by
  obtain ⟨x, rfl⟩ := Int.eq_ofNat_of_zero_le ha0
  obtain ⟨y, rfl⟩ := Int.eq_ofNat_of_zero_le hb0
  have hbo := borrow x y (by omega) (by omega)
  have hs : ((((x : Int) - y) % 4294967296) - 0) % 4294967296 = ((x : Int) - y) % 4294967296 := by omega
  have hi : (if x < y then (1 : Int) else 0) = if (x : Int) < (y : Int) then 1 else 0 := by
    by_cases h : x < y
    · rw [if_pos h, if_pos (by omega)]
    · rw [if_neg h, if_neg (by omega)]
  rw [hi] at hbo
  unfold bits_Sub32.f
  rw [hs, hbo]
theorem sub_eq (a b : Int) (ha0 : 0 ≤ a) (ha : a ≤ 4294967295) (hb0 : 0 ≤ b) (hb : b ≤ 4294967295) :
    word_Sub.f a b = some ((a - b) % 4294967296, decide (a < b), (decide (2147483648 ≤ a) != decide (2147483648 ≤ b)) && (decide (2147483648 ≤ (a - b) % 4294967296) != decide (2147483648 ≤ a))) := by
  unfold word_Sub.f
  rw [sub32_eq a b ha0 ha hb0 hb]
  simp only [Option.bind_some]
  rw [neg_eq a ha0 ha, neg_eq b hb0 hb, neg_eq ((a - b) % 4294967296) (by omega) (by omega)]
  simp only [Option.bind_some]
  have hq : ((if a < b then (1 : Int) else 0) == 1) = decide (a < b) := by
    by_cases h : a < b
    · rw [if_pos h, decide_eq_true h]; rfl
    · rw [if_neg h, decide_eq_false h]; rfl
  rw [hq]
  by_cases h : (decide (2147483648 ≤ a) != decide (2147483648 ≤ b)) = true
  · rw [if_pos h, h, Bool.true_and]
  · rw [if_neg h]
    simp only [Bool.not_eq_true] at h
    rw [h, Bool.false_and]

theorem mul_bd (a b : Int) (ha0 : 0 ≤ a) (ha : a ≤ 4294967295) (hb0 : 0 ≤ b) (hb : b ≤ 4294967295) : 0 ≤ a * b ∧ a * b ≤ 18446744065119617025 :=
  ⟨Int.mul_nonneg ha0 hb0, by have := Int.mul_le_mul ha hb hb0 (by decide : (0 : Int) ≤ 4294967295); omega⟩
theorem mul_eq (a b : Int) (ha0 : 0 ≤ a) (ha : a ≤ 4294967295) (hb0 : 0 ≤ b) (hb : b ≤ 4294967295) :
    word_Mul.f a b = some (a * b % 4294967296, a * b / 4294967296) := by
  have hab := mul_bd a b ha0 ha hb0 hb
  unfold word_Mul.f bits_Mul32.f
  simp only [u64w, Option.bind_some]
  have e1 : a % 18446744073709551616 = a := by omega
  have e2 : b % 18446744073709551616 = b := by omega
  rw [e1, e2]
  congr 1
  simp only [Prod.mk.injEq]
  constructor <;> omega

theorem shl_eq (v : Int) (n : Nat) (h : n ≤ 32) : shl .u32 v n = v * 2 ^ n % 4294967296 := by
  unfold shl
  rw [IntKind.wrap_u32, Int.toNat_natCast, Nat.min_eq_left (show n ≤ IntKind.u32.bits from h)]
theorem shr_eq (k : IntKind) (v : Int) (n : Nat) (h : n ≤ k.bits) : shr k v n = v / 2 ^ n := by
  unfold shr
  rw [Int.toNat_natCast, Nat.min_eq_left h]
theorem two_split (n : Nat) (h : n ≤ 32) : 2 ^ n * 2 ^ (32 - n) = 4294967296 := by
  rw [← Nat.pow_add, show n + (32 - n) = 32 by omega]
theorem up_eq (v n : Nat) (h : n ≤ 32) : shl .u32 v n = ((2 ^ n * (v % 2 ^ (32 - n)) : Nat) : Int) := by
  rw [shl_eq v n h]
  have e : (v : Int) * 2 ^ n = ((2 ^ n * v : Nat) : Int) := by simp [Int.mul_comm]
  have e2 : (4294967296 : Int) = ((2 ^ n * 2 ^ (32 - n) : Nat) : Int) := by rw [two_split n h]; rfl
  rw [e, e2]
  have : ((2 ^ n * v : Nat) : Int) % ((2 ^ n * 2 ^ (32 - n) : Nat) : Int) = ((2 ^ n * v % (2 ^ n * 2 ^ (32 - n)) : Nat) : Int) := by simp
  rw [this, Nat.mul_mod_mul_left]
theorem down_eq (v n : Nat) (h : n ≤ 32) : shr .u32 v n = ((v / 2 ^ n : Nat) : Int) := by
  rw [shr_eq .u32 v n h]
  simp
theorem low5 (x : Int) (h : 0 ≤ x) : ∃ n : Nat, Int.tmod (IntKind.u64.wrap x) 32 = (n : Int) ∧ n < 32 ∧ (n : Int) = x % 32 := by
  rw [u64w, tmod_pos (by omega)]
  exact ⟨(x % 18446744073709551616 % 32).toNat, by omega, by omega, by omega⟩
/-- A number turned by n. -/
def rot (v n : Nat) : Nat := 2 ^ n * (v % 2 ^ (32 - n)) + v / 2 ^ (32 - n)
theorem rot_parts (v n : Nat) (hv : v < 4294967296) (h : n ≤ 32) : v / 2 ^ (32 - n) < 2 ^ n ∧ 2 ^ n * (v % 2 ^ (32 - n)) + 2 ^ n ≤ 4294967296 := by
  have hM := Nat.two_pow_pos (32 - n)
  have hs := two_split n h
  constructor
  · rw [Nat.div_lt_iff_lt_mul hM, hs]; exact hv
  · have h1 : v % 2 ^ (32 - n) + 1 ≤ 2 ^ (32 - n) := Nat.mod_lt _ hM
    have h2 := Nat.mul_le_mul_left (2 ^ n) h1
    rw [hs, Nat.mul_add, Nat.mul_one] at h2
    exact h2
theorem rotl_eq (v n : Nat) (hv : v < 4294967296) (h : n < 32) : bits_RotateLeft32.f v n = some ((rot v n : Nat) : Int) := by
  have hp := rot_parts v n hv (by omega)
  have hm : Go.bits .and .u64 (IntKind.u64.wrap (n : Int)) 31 = n := by
    have hw : ∀ x : Int, 0 ≤ x → x < 2 ^ 32 → IntKind.u64.wrap x = x := fun x h0 h1 => by rw [u64w]; omega
    have e : IntKind.u64.wrap (n : Int) = n := by rw [u64w]; omega
    rw [e]
    have := bits_mask .u64 32 (by decide) hw 5 (by decide) (n : Int) (by omega) (by omega)
    have e2 : (31 : Int) = 2 ^ 5 - 1 := by decide
    rw [e2, this]
    omega
  unfold bits_RotateLeft32.f
  rw [hm, if_pos (by omega)]
  have e32 : IntKind.u64.wrap (32 - (n : Int)) = ((32 - n : Nat) : Int) := by rw [u64w]; omega
  rw [e32, if_pos (by omega), up_eq v n (by omega), down_eq v (32 - n) (by omega)]
  congr 1
  have hw : ∀ x : Int, 0 ≤ x → x < 2 ^ 32 → IntKind.u32.wrap x = x := fun x h0 h1 => by rw [IntKind.wrap_u32]; omega
  have hj := bits_join .u32 32 (by decide) hw n ((2 ^ n * (v % 2 ^ (32 - n)) : Nat) : Int) ((v / 2 ^ (32 - n) : Nat) : Int) (Int.natCast_nonneg _)
    (by
      have : ((2 ^ n * (v % 2 ^ (32 - n)) : Nat) : Int) % 2 ^ n = ((2 ^ n * (v % 2 ^ (32 - n)) % 2 ^ n : Nat) : Int) := by simp
      rw [this, Nat.mul_mod_right]
      rfl)
    (by have := Nat.two_pow_pos n; have : (2 : Int) ^ 32 = 4294967296 := by decide
        omega)
    (Int.natCast_nonneg _) (by exact_mod_cast hp.1) (by
      have h1 : v / 2 ^ (32 - n) ≤ v := Nat.div_le_self _ _
      have : (2 : Int) ^ 32 = 4294967296 := by decide
      omega)
  rw [hj]
  simp [rot]
theorem turn_eq (v : Nat) (b : Int) (n : Nat) (hv : v < 4294967296) (h : n < 32) (hb : Int.tmod (IntKind.u64.wrap b) 32 = (n : Int)) : word_Turn.f v b = some ((rot v n : Nat) : Int) := by
  unfold word_Turn.f
  rw [hb, w64 (by omega) (by omega), rotl_eq v n hv h]
  rfl
theorem rot_lt (v n : Nat) (hv : v < 4294967296) (h : n ≤ 32) : rot v n < 4294967296 := by
  have hp := rot_parts v n hv h
  unfold rot
  omega
/-- Sext, for 1 to 31 bits. -/
theorem sext_eq (v n : Nat) (hv : v < 4294967296) (h1 : 1 ≤ n) (h2 : n ≤ 31) :
    word_Sext.f v n = some (if 2 ^ (n - 1) ≤ v % 2 ^ n then ((v % 2 ^ n : Nat) : Int) - 2 ^ n + 4294967296 else ((v % 2 ^ n : Nat) : Int)) := by
  unfold word_Sext.f
  rw [if_neg (by omega), if_neg (by omega), w64 (x := 32 - (n : Int)) (by omega) (by omega), if_pos (by omega)]
  have e : (32 : Int) - n = ((32 - n : Nat) : Int) := by omega
  rw [e, up_eq v (32 - n) (by omega), shr_eq .i32 _ (32 - n) (show 32 - n ≤ 32 by omega)]
  rw [show 32 - (32 - n) = n by omega]
  have hx : v % 2 ^ n < 2 ^ n := Nat.mod_lt _ (Nat.two_pow_pos n)
  generalize v % 2 ^ n = x at *
  have hs := two_split (32 - n) (by omega)
  rw [show 32 - (32 - n) = n by omega] at hs
  have hh : 2 ^ n = 2 * 2 ^ (n - 1) := by rw [← Nat.pow_succ']; congr 1; omega
  have c : (2 : Int) ^ (32 - n) = ((2 ^ (32 - n) : Nat) : Int) := by simp
  have c2 : (2 : Int) ^ n = ((2 ^ n : Nat) : Int) := by simp
  rw [c, c2]
  have hM := Nat.two_pow_pos (32 - n)
  generalize hMd : 2 ^ (32 - n) = M at *
  generalize 2 ^ (n - 1) = H at *
  generalize 2 ^ n = P at *
  have hMH : M * H * 2 = 4294967296 := by rw [Nat.mul_assoc, Nat.mul_comm H 2, ← hh]; exact hs
  have hPw : P ≤ 4294967296 := by
    have := Nat.le_mul_of_pos_left P hM
    omega
  congr 1
  by_cases hc : H ≤ x
  · rw [if_pos hc]
    have hl : M * H ≤ M * x := Nat.mul_le_mul_left M hc
    have hu : M * x + M ≤ M * P := by have := Nat.mul_le_mul_left M (show x + 1 ≤ P from hx); rw [Nat.mul_add, Nat.mul_one] at this; exact this
    have ew : wrap32 ((M * x : Nat) : Int) = ((M * x : Nat) : Int) - 4294967296 := by unfold wrap32; omega
    rw [ew]
    have e3 : ((M * x : Nat) : Int) - 4294967296 = (M : Int) * ((x : Int) - P) := by
      rw [Int.mul_sub]
      have : ((M * P : Nat) : Int) = 4294967296 := by rw [hs]; rfl
      have e4 : (M : Int) * (P : Int) = ((M * P : Nat) : Int) := by simp
      have e5 : (M : Int) * (x : Int) = ((M * x : Nat) : Int) := by simp
      rw [e4, e5, this]
    rw [e3, Int.mul_ediv_cancel_left _ (by omega)]
    omega
  · rw [if_neg hc]
    have hl : M * x + M ≤ M * H := by have := Nat.mul_le_mul_left M (show x + 1 ≤ H by omega); rw [Nat.mul_add, Nat.mul_one] at this; exact this
    have ew : wrap32 ((M * x : Nat) : Int) = ((M * x : Nat) : Int) := by unfold wrap32; omega
    rw [ew]
    have e5 : ((M * x : Nat) : Int) = (M : Int) * (x : Int) := by simp
    rw [e5, Int.mul_ediv_cancel_left _ (by omega)]
    omega

/-- A number with its sign. -/
def sg (a : Int) : Int := if 2147483648 ≤ a then a - 4294967296 else a
theorem sg_bd (a : Int) (h0 : 0 ≤ a) (h1 : a ≤ 4294967295) : -2147483648 ≤ sg a ∧ sg a ≤ 2147483647 ∧ (sg a = 0 ↔ a = 0) ∧ sg a % 4294967296 = a := by
  unfold sg
  by_cases h : 2147483648 ≤ a
  · rw [if_pos h]; omega
  · rw [if_neg h]; omega
theorem w32_sg (a : Int) (h0 : 0 ≤ a) (h1 : a ≤ 4294967295) : wrap64 (wrap32 a) = sg a := by
  unfold sg wrap64 wrap32
  by_cases h : 2147483648 ≤ a
  · rw [if_pos h]; omega
  · rw [if_neg h]; omega
theorem tdiv_bd (x y : Int) (h0 : -2147483648 ≤ x) (h1 : x ≤ 2147483647) (hy : y ≠ 0) : -2147483648 ≤ Int.tdiv x y ∧ Int.tdiv x y ≤ 2147483648 := by
  have h := Int.natAbs_tdiv_le_natAbs x y
  omega
theorem tmod_bd (x y : Int) (h0 : -2147483648 ≤ x) (h1 : x ≤ 2147483647) : -2147483648 ≤ Int.tmod x y ∧ Int.tmod x y ≤ 2147483648 := by
  have h : (Int.tmod x y).natAbs ≤ x.natAbs := by rw [Int.natAbs_tmod]; exact Nat.mod_le _ _
  omega
theorem signed_eq (a b : Int) (ha0 : 0 ≤ a) (ha : a ≤ 4294967295) (hb0 : 0 ≤ b) (hb : b ≤ 4294967295) (hz : b ≠ 0) :
    word_Signed.f a b = some (Int.tdiv (sg a) (sg b) % 4294967296, Int.tmod (sg a) (sg b) % 4294967296, none) := by
  have sa := sg_bd a ha0 ha
  have sb := sg_bd b hb0 hb
  have hy : sg b ≠ 0 := fun h => hz (sb.2.2.1.1 h)
  have hd := tdiv_bd (sg a) (sg b) sa.1 sa.2.1 hy
  unfold word_Signed.f
  rw [if_neg hz, w32_sg a ha0 ha, w32_sg b hb0 hb, if_neg hy, w64 (x := Int.tdiv (sg a) (sg b)) (by omega) (by omega)]

theorem or_low (i : Nat) (v y : Int) (hv0 : 0 ≤ v) (hv : v < 2 ^ i) (hv1 : v < 4294967296) (hy0 : 0 ≤ y) (hy1 : y < 4294967296) (hy : y % 2 ^ i = 0) : Go.bits .or .u32 v y = v + y := by
  have hw : ∀ x : Int, 0 ≤ x → x < 2 ^ 32 → IntKind.u32.wrap x = x := fun x h0 h1 => by rw [IntKind.wrap_u32]; omega
  have hj := bits_join .u32 32 (by decide) hw i y v hy0 hy hy1 hv0 hv hv1
  obtain ⟨a, rfl⟩ := Int.eq_ofNat_of_zero_le hv0
  obtain ⟨b, rfl⟩ := Int.eq_ofNat_of_zero_le hy0
  have h1 := (bits_nat .u32 32 (by decide) hw a b (by omega) (by omega)).2
  have h2 := (bits_nat .u32 32 (by decide) hw b a (by omega) (by omega)).2
  rw [h1, Nat.or_comm, ← h2, hj, Int.add_comm]
theorem shl0 (v : Int) : shl .u32 v 0 = v % 4294967296 := by have := shl_eq v 0 (by decide); simpa using this
theorem shl8 (v : Int) : shl .u32 v 8 = v * 256 % 4294967296 := shl_eq v 8 (by decide)
theorem shl16 (v : Int) : shl .u32 v 16 = v * 65536 % 4294967296 := shl_eq v 16 (by decide)
theorem shl24 (v : Int) : shl .u32 v 24 = v * 16777216 % 4294967296 := shl_eq v 24 (by decide)
theorem store4 (k : Nat) (a : Int) : word_Store.f (k + 5) a 4 = some ([a % 256, a / 256 % 256, a / 256 / 256 % 256, a / 256 / 256 / 256 % 256], none) := by
  simp [word_Store.f, word_sized.f, word_Store.l0, wrap64]
theorem load4 (k : Nat) (a b c d : Int) (ha : 0 ≤ a ∧ a < 256) (hb : 0 ≤ b ∧ b < 256) (hc : 0 ≤ c ∧ c < 256) (hd : 0 ≤ d ∧ d < 256) :
    word_Load.f (k + 5) [a, b, c, d] = some (a + b * 256 + c * 65536 + d * 16777216, none) := by
  have e0 : Go.bits .or .u32 0 (shl .u32 (a % 4294967296) 0) = a := by
    rw [shl0, or_low 0 0 _ (by decide) (by decide) (by decide) (by omega) (by omega) (by omega)]
    omega
  have e1 : Go.bits .or .u32 a (shl .u32 (b % 4294967296) 8) = a + b * 256 := by
    rw [shl8, or_low 8 a _ (by omega) (by omega) (by omega) (by omega) (by omega) (by omega)]
    omega
  have e2 : Go.bits .or .u32 (a + b * 256) (shl .u32 (c % 4294967296) 16) = a + b * 256 + c * 65536 := by
    rw [shl16, or_low 16 _ _ (by omega) (by omega) (by omega) (by omega) (by omega) (by omega)]
    omega
  have e3 : Go.bits .or .u32 (a + b * 256 + c * 65536) (shl .u32 (d % 4294967296) 24) = a + b * 256 + c * 65536 + d * 16777216 := by
    rw [shl24, or_low 24 _ _ (by omega) (by omega) (by omega) (by omega) (by omega) (by omega)]
    omega
  simp [word_Load.f, word_sized.f, word_Load.l0, wrap64, rd, e0, e1, e2, e3]

theorem rot_back (v n : Nat) (hv : v < 4294967296) (h : n < 32) : rot (rot v n) ((32 - n) % 32) = v := by
  have hp := rot_parts v n hv (by omega)
  by_cases h0 : n = 0
  · subst h0
    have : v % 4294967296 = v := Nat.mod_eq_of_lt hv
    have h2 : v / 4294967296 = 0 := Nat.div_eq_of_lt hv
    simp [rot, this, h2]
  · have hM := Nat.two_pow_pos (32 - n)
    rw [Nat.mod_eq_of_lt (show 32 - n < 32 by omega)]
    have e : rot (rot v n) (32 - n) = 2 ^ (32 - n) * (rot v n % 2 ^ n) + rot v n / 2 ^ n := by
      conv => lhs; unfold rot
      rw [show 32 - (32 - n) = n by omega]
      rfl
    have hd : rot v n / 2 ^ n = v % 2 ^ (32 - n) := by
      unfold rot
      rw [Nat.mul_add_div (Nat.two_pow_pos n), Nat.div_eq_of_lt hp.1, Nat.add_zero]
    have hm : rot v n % 2 ^ n = v / 2 ^ (32 - n) := by
      unfold rot
      rw [Nat.mul_add_mod, Nat.mod_eq_of_lt hp.1]
    rw [e, hd, hm]
    exact Nat.div_add_mod v _
theorem sext_again (v n : Nat) (hv : v < 4294967296) (h : n < 32) : ∃ s, word_Sext.f v n = some s ∧ word_Sext.f s n = some s := by
  by_cases h0 : n = 0
  · subst h0
    refine ⟨v, ?_, ?_⟩ <;> simp [word_Sext.f]
  · have hx : v % 2 ^ n < 2 ^ n := Nat.mod_lt _ (Nat.two_pow_pos n)
    have hs := two_split n (by omega)
    have c2 : (2 : Int) ^ n = ((2 ^ n : Nat) : Int) := by simp
    rw [sext_eq v n hv (by omega) (by omega), c2]
    have hP : 2 ^ n ≤ 2 ^ 31 := Nat.pow_le_pow_right (by decide) (by omega)
    by_cases hc : 2 ^ (n - 1) ≤ v % 2 ^ n
    · rw [if_pos hc]
      obtain ⟨u, hu⟩ : ∃ u : Nat, (u : Int) = ((v % 2 ^ n : Nat) : Int) - ((2 ^ n : Nat) : Int) + 4294967296 := ⟨(((v % 2 ^ n : Nat) : Int) - ((2 ^ n : Nat) : Int) + 4294967296).toNat, by omega⟩
      refine ⟨u, by rw [hu], ?_⟩
      have hum : u % 2 ^ n = v % 2 ^ n := by
        have e : u + 2 ^ n = v % 2 ^ n + 2 ^ n * 2 ^ (32 - n) := by omega
        have h1 : (u + 2 ^ n) % 2 ^ n = u % 2 ^ n := Nat.add_mod_right u _
        have h2 : (v % 2 ^ n + 2 ^ n * 2 ^ (32 - n)) % 2 ^ n = v % 2 ^ n := by rw [Nat.add_mul_mod_self_left, Nat.mod_mod]
        rw [← h1, e, h2]
      rw [sext_eq u n (by omega) (by omega) (by omega), hum, if_pos hc, c2, hu]
    · rw [if_neg hc]
      refine ⟨_, rfl, ?_⟩
      rw [sext_eq (v % 2 ^ n) n (by omega) (by omega) (by omega), Nat.mod_mod, if_neg hc]
def tabf (i : Int) : Int := bt (⟨#[0, 1, 2, 2, 3, 3, 3, 3, 4, 4, 4, 4, 4, 4, 4, 4, 5, 5, 5, 5, 5, 5, 5, 5, 5, 5, 5, 5, 5, 5, 5, 5, 6, 6, 6, 6, 6, 6, 6, 6, 6, 6, 6, 6, 6, 6, 6, 6, 6, 6, 6, 6, 6, 6, 6, 6, 6, 6, 6, 6, 6, 6, 6, 6, 7, 7, 7, 7, 7, 7, 7, 7, 7, 7, 7, 7, 7, 7, 7, 7, 7, 7, 7, 7, 7, 7, 7, 7, 7, 7, 7, 7, 7, 7, 7, 7, 7, 7, 7, 7, 7, 7, 7, 7, 7, 7, 7, 7, 7, 7, 7, 7, 7, 7, 7, 7, 7, 7, 7, 7, 7, 7, 7, 7, 7, 7, 7, 7, 8, 8, 8, 8, 8, 8, 8, 8, 8, 8, 8, 8, 8, 8, 8, 8, 8, 8, 8, 8, 8, 8, 8, 8, 8, 8, 8, 8, 8, 8, 8, 8, 8, 8, 8, 8, 8, 8, 8, 8, 8, 8, 8, 8, 8, 8, 8, 8, 8, 8, 8, 8, 8, 8, 8, 8, 8, 8, 8, 8, 8, 8, 8, 8, 8, 8, 8, 8, 8, 8, 8, 8, 8, 8, 8, 8, 8, 8, 8, 8, 8, 8, 8, 8, 8, 8, 8, 8, 8, 8, 8, 8, 8, 8, 8, 8, 8, 8, 8, 8, 8, 8, 8, 8, 8, 8, 8, 8, 8, 8, 8, 8, 8, 8, 8, 8, 8, 8, 8, 8, 8, 8, 8, 8, 8, 8, 8, 8]⟩ : ByteArray) i
def LenF (g : Int → Int) (a0 : Int) : Option (Int) := if a0 ≥ 65536 then (if (a0 / 65536) ≥ 256 then (if 0 ≤ (((a0 / 65536) / 256) % 256) then (if (((a0 / 65536) / 256) % 256) < 256 then (some (wrap64 ((16 + 8) + (wrap64 (g (((a0 / 65536) / 256) % 256)))))) else (none)) else (none)) else (if 0 ≤ ((a0 / 65536) % 256) then (if ((a0 / 65536) % 256) < 256 then (some (wrap64 (16 + (wrap64 (g ((a0 / 65536) % 256)))))) else (none)) else (none))) else (if a0 ≥ 256 then (if 0 ≤ ((a0 / 256) % 256) then (if ((a0 / 256) % 256) < 256 then (some (wrap64 ((0 + 8) + (wrap64 (g ((a0 / 256) % 256)))))) else (none)) else (none)) else (if 0 ≤ ((a0) % 256) then (if ((a0) % 256) < 256 then (some (wrap64 (0 + (wrap64 (g ((a0) % 256)))))) else (none)) else (none)))
theorem len_form (a : Int) : bits_Len32.f a = LenF tabf a := rfl
theorem tab_all : ((List.range 256).all fun x => decide (0 ≤ tabf (x : Int)) && decide (tabf (x : Int) ≤ 8)) = true := by decide +kernel
theorem tab_bd (x : Int) (h0 : 0 ≤ x) (h1 : x < 256) : 0 ≤ tabf x ∧ tabf x ≤ 8 := by
  obtain ⟨n, rfl⟩ := Int.eq_ofNat_of_zero_le h0
  have h := List.all_eq_true.1 tab_all n (List.mem_range.2 (by omega))
  simp only [Bool.and_eq_true, decide_eq_true_eq] at h
  exact h
theorem LenF_bd (g : Int → Int) (hg : ∀ x, 0 ≤ x → x < 256 → 0 ≤ g x ∧ g x ≤ 8) (a : Int) (h0 : 0 ≤ a) (h1 : a ≤ 4294967295) : ∃ r, LenF g a = some r ∧ 0 ≤ r ∧ r ≤ 32 := by
  have hw : ∀ (c x : Int), 0 ≤ c → c ≤ 24 → 0 ≤ x → x < 256 → 0 ≤ wrap64 (c + wrap64 (g x)) ∧ wrap64 (c + wrap64 (g x)) ≤ 32 := by
    intro c x c0 c1 x0 x1
    have h := hg x x0 x1
    rw [w64 (x := g x) (by omega) (by omega), w64 (by omega) (by omega)]
    omega
  unfold LenF
  by_cases c1 : a ≥ 65536
  · rw [if_pos c1]
    by_cases c2 : a / 65536 ≥ 256
    · rw [if_pos c2, if_pos (show 0 ≤ a / 65536 / 256 % 256 by omega), if_pos (show a / 65536 / 256 % 256 < 256 by omega)]
      exact ⟨_, rfl, hw _ _ (by decide) (by decide) (by omega) (by omega)⟩
    · rw [if_neg c2, if_pos (show 0 ≤ a / 65536 % 256 by omega), if_pos (show a / 65536 % 256 < 256 by omega)]
      exact ⟨_, rfl, hw _ _ (by decide) (by decide) (by omega) (by omega)⟩
  · rw [if_neg c1]
    by_cases c2 : a ≥ 256
    · rw [if_pos c2, if_pos (show 0 ≤ a / 256 % 256 by omega), if_pos (show a / 256 % 256 < 256 by omega)]
      exact ⟨_, rfl, hw _ _ (by decide) (by decide) (by omega) (by omega)⟩
    · rw [if_neg c2, if_pos (show 0 ≤ a % 256 by omega), if_pos (show a % 256 < 256 by omega)]
      exact ⟨_, rfl, hw _ _ (by decide) (by decide) (by omega) (by omega)⟩
theorem len_bd (a : Int) (h0 : 0 ≤ a) (h1 : a ≤ 4294967295) : ∃ r, bits_Len32.f a = some r ∧ 0 ≤ r ∧ r ≤ 32 := by
  rw [len_form]
  exact LenF_bd tabf tab_bd a h0 h1
theorem zeros_bd (a : Int) (h0 : 0 ≤ a) (h1 : a ≤ 4294967295) : ∃ r, word_Zeros.f a = some r ∧ 0 ≤ r ∧ r ≤ 32 := by
  obtain ⟨r, hr, r0, r1⟩ := len_bd a h0 h1
  unfold word_Zeros.f bits_LeadingZeros32.f
  rw [hr]
  simp only [Option.bind_some]
  rw [w64 (by omega) (by omega)]
  exact ⟨_, rfl, by omega, by omega⟩
theorem bind_go {α β : Type} (a : α) (f : α → Option β) : (some a).bind f = f a := (Option.bind_some a f).trans rfl
theorem w64n {x : Int} (h0 : 0 ≤ x) (h1 : x ≤ 4294967296) : wrap64 x = x := w64 (by omega) (by omega)
theorem back_one (v b : Int) (ha0 : 0 ≤ v) (ha1 : v ≤ 4294967295) (hb0 : 0 < b) (hb1 : b ≤ 4294967295) (k : Nat) :
    ∃ x p q, word_Mul.f (v / b) b = some x ∧ word_Add.f (k + 1) x.1 (v % b) false = some (v, p, q) := by
  have hq0 : 0 ≤ v / b := Int.ediv_nonneg ha0 (by omega)
  have hq1 : v / b ≤ v := Int.ediv_le_self b ha0
  have hm0 := Int.emod_nonneg v (show b ≠ 0 by omega)
  have hm1 := Int.emod_lt_of_pos v hb0
  have hqb : v / b * b + v % b = v := by rw [Int.mul_comm]; exact Int.mul_ediv_add_emod v b
  have hb2 := Int.mul_nonneg hq0 (Int.le_of_lt hb0)
  have e0 := mul_eq (v / b) b hq0 (by omega) (by omega) hb1
  have e1 := add_eq k (v / b * b % 4294967296) (v % b) false (by omega) (by omega) hm0 (by omega)
  have e2 : (v / b * b % 4294967296 + v % b + if false = true then 1 else 0) % 4294967296 = v := by
    rw [if_neg (show ¬ (false = true) by decide)]
    clear e0 e1 hq0 hq1
    generalize v / b * b = y at *
    generalize v % b = z at *
    omega
  rw [e2] at e1
  exact ⟨_, _, _, e0, e1⟩
theorem back_two (v b : Int) (ha0 : 0 ≤ v) (ha1 : v ≤ 4294967295) (hb0 : 0 < b) (hb1 : b ≤ 4294967295) (k : Nat) :
    ∃ x p q, word_Mul.f (Int.tdiv (sg v) (sg b) % 4294967296) b = some x ∧ word_Add.f (k + 1) x.1 (Int.tmod (sg v) (sg b) % 4294967296) false = some (v, p, q) := by
  have sa := sg_bd v ha0 ha1
  have sb := sg_bd b (by omega) hb1
  have hmod : (Int.tdiv (sg v) (sg b) % 4294967296 * b) % 4294967296 = (Int.tdiv (sg v) (sg b) * sg b) % 4294967296 := by
    rw [Int.mul_emod, Int.emod_emod, ← sb.2.2.2, Int.emod_emod, ← Int.mul_emod, sb.2.2.2]
  have hid : Int.tdiv (sg v) (sg b) * sg b + Int.tmod (sg v) (sg b) = sg v := by rw [Int.mul_comm]; exact Int.mul_tdiv_add_tmod (sg v) (sg b)
  have e0 := mul_eq (Int.tdiv (sg v) (sg b) % 4294967296) b (by omega) (by omega) (by omega) hb1
  have e1 := add_eq k (Int.tdiv (sg v) (sg b) % 4294967296 * b % 4294967296) (Int.tmod (sg v) (sg b) % 4294967296) false (by omega) (by omega) (by omega) (by omega)
  have e2 : (Int.tdiv (sg v) (sg b) % 4294967296 * b % 4294967296 + Int.tmod (sg v) (sg b) % 4294967296 + if false = true then 1 else 0) % 4294967296 = v := by
    rw [if_neg (show ¬ (false = true) by decide), hmod]
    have h3 := sa.2.2.2
    clear e0 e1 hmod sb sa
    generalize Int.tdiv (sg v) (sg b) * sg b = y at *
    generalize Int.tmod (sg v) (sg b) = z at *
    generalize sg v = w at *
    omega
  rw [e2] at e1
  exact ⟨_, _, _, e0, e1⟩
theorem laws_j2 (v b : Int) (ha0 : 0 ≤ v) (ha1 : v ≤ 4294967295) (hb0 : 0 ≤ b) (hb1 : b ≤ 4294967295) (hs : halterlaw01_sure.f 67 = some true) : halterlaw01_WordLaws.j2 68 v b false = some true := by
  show (if false = true then some false else _) = some true
  rw [if_neg (show ¬ (false = true) by decide)]
  by_cases h0 : b = 0
  · rw [if_pos h0, hs, bind_go]
    try rw [if_neg (show ¬ (false = true) by decide)]
  · have hd : word_Div.f v b = some (v / b, v % b, none) := by
      unfold word_Div.f
      have hq0 : 0 ≤ v / b := Int.ediv_nonneg ha0 hb0
      have hq1 : v / b ≤ v := Int.ediv_le_self b ha0
      rw [if_neg h0, tdiv_pos ha0, tmod_pos ha0, show v / b % 4294967296 = v / b by omega]
    obtain ⟨x, p, q, h1, h2⟩ := back_one v b ha0 ha1 (by omega) hb1 66
    obtain ⟨x', p', q', h1', h2'⟩ := back_two v b ha0 ha1 (by omega) hb1 66
    have hm1 := Int.emod_lt_of_pos v (show 0 < b by omega)
    rw [if_neg h0, hd, bind_go, h1, bind_go, h2, bind_go, signed_eq v b ha0 ha1 hb0 hb1 h0, bind_go, h1', bind_go, h2', bind_go, hs]
    repeat (first | rw [bind_go] | rw [if_pos rfl] | rw [if_pos hm1] | rw [if_pos (show ((none : Option Int).isNone = true) from rfl)])
    try rw [if_neg (show ¬ (false = true) by decide)]
theorem laws_j1 (v : Nat) (b c : Int) (n : Nat) (hv : v < 4294967296) (hn : wrap64 (Int.tmod (IntKind.u64.wrap c) 32) = (n : Int)) (hn32 : n < 32) (h2 : halterlaw01_WordLaws.j2 68 v b false = some true) : halterlaw01_WordLaws.j1 69 v b c false = some true := by
  have t1 : Int.tmod (IntKind.u64.wrap (n : Int)) 32 = (n : Int) := by rw [u64w, tmod_pos (by omega)]; omega
  have t2 : Int.tmod (IntKind.u64.wrap (32 - (n : Int))) 32 = (((32 - n) % 32 : Nat) : Int) := by rw [u64w, tmod_pos (by omega)]; omega
  have hT1 := turn_eq v n n hv hn32 t1
  have hr := rot_lt v n hv (by omega)
  have hT2 := turn_eq (rot v n) (32 - (n : Int)) ((32 - n) % 32) hr (Nat.mod_lt _ (by decide)) t2
  rw [rot_back v n hv hn32] at hT2
  obtain ⟨s, hs1, hs2⟩ := sext_again v n hv hn32
  obtain ⟨z, hz, hz0, hz1⟩ := zeros_bd v (Int.natCast_nonneg v) (by clear t1 t2 hn; omega)
  show (if false = true then some false else _) = some true
  have hd : decide (z > 32) = false := by rw [decide_eq_false_iff_not]; omega
  rw [if_neg (show ¬ (false = true) by decide), hn, hT1, bind_go, w64 (x := 32 - (n : Int)) (by clear t1 t2 hn; omega) (by clear t1 t2 hn; omega), hT2, bind_go, if_pos rfl, hs1, bind_go, hs2, bind_go, bind_go, if_pos rfl, hz, bind_go, if_neg (show ¬ z < 0 by omega), bind_go, hd]
  exact h2
theorem laws_j0 (v : Nat) (b c : Int) (hv : v < 4294967296) (h1 : halterlaw01_WordLaws.j1 69 v b c false = some true) : halterlaw01_WordLaws.j0 70 v b c false = some true := by
  show (if false = true then some false else _) = some true
  have e : ((v : Int) % 256 + (v : Int) / 256 % 256 * 256 + (v : Int) / 256 / 256 % 256 * 65536 + (v : Int) / 256 / 256 / 256 % 256 * 16777216 != (v : Int)) = false := by
    rw [bne_eq_false_iff_eq]
    omega
  have hl := load4 64 ((v : Int) % 256) ((v : Int) / 256 % 256) ((v : Int) / 256 / 256 % 256) ((v : Int) / 256 / 256 / 256 % 256) (by omega) (by omega) (by omega) (by omega)
  rw [if_neg (show ¬ (false = true) by decide), store4 64 v, bind_go, hl, bind_go, if_pos (show ((none : Option Int).isNone = true) from rfl), if_pos (show ((none : Option Int).isNone = true) from rfl), e]
  exact h1
theorem laws_n (c : Int) : ∃ n : Nat, wrap64 (Int.tmod (IntKind.u64.wrap c) 32) = (n : Int) ∧ n < 32 := by
  rw [u64w, tmod_pos (by omega), w64 (by omega) (by omega)]
  exact ⟨(c % 18446744073709551616 % 32).toNat, by omega, by omega⟩
theorem add_sub (v b : Int) (ha0 : 0 ≤ v) (ha1 : v ≤ 4294967295) (hb0 : 0 ≤ b) (hb1 : b ≤ 4294967295) (k : Nat) :
    ∃ x y p q r, word_Add.f (k + 1) v b false = some (x, p, q) ∧ word_Sub.f x b = some (v, y, r) ∧ (p != y) = false := by
  have e0 := add_eq k v b false ha0 ha1 hb0 hb1
  have z : (v + b + if false = true then 1 else 0) = v + b := by rw [if_neg (show ¬ (false = true) by decide)]; omega
  rw [z] at e0
  have e1 := sub_eq ((v + b) % 4294967296) b (by omega) (by omega) hb0 hb1
  have z1 : ((v + b) % 4294967296 - b) % 4294967296 = v := by omega
  rw [z1] at e1
  refine ⟨_, _, _, _, _, e0, e1, ?_⟩
  rw [bne_eq_false_iff_eq, decide_eq_decide]
  omega
theorem WordLaws : halterlaw01_WordLaws.Pure := by
  intro a b c ha hb _
  obtain ⟨ha0, ha1⟩ := u32_bd ha
  obtain ⟨hb0, hb1⟩ := u32_bd hb
  obtain ⟨v, rfl⟩ := Int.eq_ofNat_of_zero_le ha0
  have hs : halterlaw01_sure.f 67 = some true := by decide +kernel
  have hv : v < 4294967296 := by omega
  obtain ⟨n, hn, hn32⟩ := laws_n c
  have h0 := laws_j0 v b c hv (laws_j1 v b c n hv hn hn32 (laws_j2 v b ha0 ha1 hb0 hb1 hs))
  obtain ⟨x, y, p, q, r, e0, e1, e2⟩ := add_sub v b ha0 ha1 hb0 hb1 69
  refine ⟨70, ?_⟩
  unfold halterlaw01_WordLaws.f
  rw [e0, bind_go, e1, bind_go, if_pos rfl, e2]
  exact h0

end Go.Proofs.Ytgomfkjdffcbhaa.Pure
