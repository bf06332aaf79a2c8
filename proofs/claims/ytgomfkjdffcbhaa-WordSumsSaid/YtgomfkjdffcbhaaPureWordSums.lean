/- WordSums, read purely. -/
import Derived.Test.YtgomfkjdffcbhaaPWordSumsx3
set_option linter.unusedVariables false
set_option linter.unusedSimpArgs false
set_option linter.unnecessarySimpa false
namespace Go.Proofs.Ytgomfkjdffcbhaa.Pure
open Go.RowKit Go.Proofs.Ytgomfkjdffcbhaa.PWordSums Go.Proofs.YtgomfkjdffcbhaaW.PrintWords Go.Proofs.YtgomfkjdffcbhaaW.PrintLast Go.Proofs.YtgomfkjdffcbhaaW.PrintMore

theorem u64w (x : Int) : IntKind.u64.wrap x = x % 18446744073709551616 := by simp [IntKind.wrap, IntKind.bits, IntKind.signed]
theorem u32_bd {a : Int} (h : (Lit.int .u32 a).wf = true) : 0 ≤ a ∧ a ≤ 4294967295 := by
  simpa [Lit.wf, IntKind.min, IntKind.max, IntKind.signed, IntKind.bits] using h
theorem i64_bd {a : Int} (h : (Lit.int .i64 a).wf = true) : -9223372036854775808 ≤ a ∧ a ≤ 9223372036854775807 := by
  simpa [Lit.wf, IntKind.min, IntKind.max, IntKind.signed, IntKind.bits] using h
theorem tmod_pos {a m : Int} (h : 0 ≤ a) : Int.tmod a m = a % m := Int.tmod_eq_emod_of_nonneg h
theorem tdiv_pos {a m : Int} (h : 0 ≤ a) : Int.tdiv a m = a / m := Int.tdiv_eq_ediv_of_nonneg h
theorem w64 {x : Int} (h0 : -9223372036854775808 ≤ x) (h1 : x ≤ 9223372036854775807) : wrap64 x = x := by unfold wrap64; omega

theorem neg_eq (x : Int) (h0 : 0 ≤ x) (h1 : x ≤ 4294967295) : word_negative.f x = some (decide (2147483648 ≤ x)) := by
  unfold word_negative.f
  congr 1
  simp only [decide_eq_decide]
  unfold wrap32
  omega
theorem add32_eq (a b c : Int) (ha0 : 0 ≤ a) (ha : a ≤ 4294967295) (hb0 : 0 ≤ b) (hb : b ≤ 4294967295) (hc0 : 0 ≤ c) (hc : c ≤ 1) :
    bits_Add32.f a b c = some ((a + b + c) % 4294967296, (a + b + c) / 4294967296) := by
  unfold bits_Add32.f
  simp only [u64w]
  congr 1
  simp only [Prod.mk.injEq]
  constructor <;> omega
theorem addj_eq (k : Nat) (a b ci : Int) (ha0 : 0 ≤ a) (ha : a ≤ 4294967295) (hb0 : 0 ≤ b) (hb : b ≤ 4294967295) (h0 : 0 ≤ ci) (h1 : ci ≤ 1) :
    word_Add.j0 (k + 1) a b ci = some ((a + b + ci) % 4294967296, decide (4294967296 ≤ a + b + ci), (decide (2147483648 ≤ a) == decide (2147483648 ≤ b)) && (decide (2147483648 ≤ (a + b + ci) % 4294967296) != decide (2147483648 ≤ a))) := by
  simp only [word_Add.j0]
  rw [add32_eq a b ci ha0 ha hb0 hb h0 h1]
  simp only [Option.bind_some]
  rw [neg_eq a ha0 ha, neg_eq b hb0 hb, neg_eq ((a + b + ci) % 4294967296) (by omega) (by omega)]
  simp only [Option.bind_some]
  have hq : ((a + b + ci) / 4294967296 == 1) = decide (4294967296 ≤ a + b + ci) := by
    rw [Bool.eq_iff_iff]
    simp only [beq_iff_eq, decide_eq_true_eq]
    omega
  rw [hq]
  by_cases h : (decide (2147483648 ≤ a) == decide (2147483648 ≤ b)) = true
  · rw [if_pos h, h]; simp
  · rw [if_neg h]
    simp only [Bool.not_eq_true] at h
    rw [h]
    simp
theorem add_eq (k : Nat) (a b : Int) (c : Bool) (ha0 : 0 ≤ a) (ha : a ≤ 4294967295) (hb0 : 0 ≤ b) (hb : b ≤ 4294967295) :
    word_Add.f (k + 1) a b c = some ((a + b + if c then 1 else 0) % 4294967296, decide (4294967296 ≤ a + b + if c then 1 else 0), (decide (2147483648 ≤ a) == decide (2147483648 ≤ b)) && (decide (2147483648 ≤ (a + b + if c then 1 else 0) % 4294967296) != decide (2147483648 ≤ a))) := by
  cases c
  · exact addj_eq k a b 0 ha0 ha hb0 hb (by decide) (by decide)
  · exact addj_eq k a b 1 ha0 ha hb0 hb (by decide) (by decide)

theorem wraps_u32 (n : Int) (h0 : 0 ≤ n) (h1 : n < 2 ^ 32) : IntKind.u32.wrap n = n := by rw [IntKind.wrap_u32]; omega
theorem and32 (x y : Nat) (hx : x < 4294967296) (hy : y < 4294967296) : Go.bits .and .u32 x y = ((x &&& y : Nat) : Int) := (bits_nat .u32 32 (by decide) wraps_u32 x y hx hy).1
theorem or32 (x y : Nat) (hx : x < 4294967296) (hy : y < 4294967296) : Go.bits .or .u32 x y = ((x ||| y : Nat) : Int) := (bits_nat .u32 32 (by decide) wraps_u32 x y hx hy).2
theorem xor32 (x y : Nat) (hx : x < 4294967296) (hy : y < 4294967296) : Go.bits .xor .u32 x y = ((x ^^^ y : Nat) : Int) := by
  have hx' : x % 2 ^ IntKind.u32.bits = x := Nat.mod_eq_of_lt hx
  have hy' : y % 2 ^ IntKind.u32.bits = y := Nat.mod_eq_of_lt hy
  have hl : x ^^^ y < 2 ^ 32 := Nat.xor_lt_two_pow (n := 32) hx hy
  simp only [Go.bits, BitVec.ofInt_natCast, BitVec.toNat_xor, BitVec.toNat_ofNat, hx', hy']
  exact wraps_u32 _ (Int.natCast_nonneg _) (by exact_mod_cast hl)
theorem tb31 (n : Nat) (h : n < 4294967296) : n.testBit 31 = decide (2147483648 ≤ n) := by
  rw [Nat.testBit_eq_decide_div_mod_eq, decide_eq_decide]
  omega
theorem top31 (n : Nat) (h : n < 4294967296) : n / 2147483648 = (if n.testBit 31 then 1 else 0) := by
  rw [tb31 n h]
  by_cases h2 : 2147483648 ≤ n
  · simp [h2]; omega
  · simp [h2]; omega
theorem borrow (x y : Nat) (hx : x < 4294967296) (hy : y < 4294967296) :
    (Go.bits .or .u32 (Go.bits .and .u32 (Go.bits .xor .u32 4294967295 (x : Int)) (y : Int)) (Go.bits .and .u32 (Go.bits .xor .u32 4294967295 (Go.bits .xor .u32 (x : Int) (y : Int))) (((x : Int) - y) % 4294967296))) / 2147483648 = if x < y then 1 else 0 := by
  obtain ⟨z, hz⟩ : ∃ z : Nat, (z : Int) = ((x : Int) - y) % 4294967296 := ⟨(((x : Int) - y) % 4294967296).toNat, by omega⟩
  have hz1 : z < 4294967296 := by omega
  rw [← hz]
  have c : (4294967295 : Int) = ((4294967295 : Nat) : Int) := rfl
  have h1 : x ^^^ y < 4294967296 := Nat.xor_lt_two_pow (n := 32) hx hy
  have h2 : 4294967295 ^^^ x < 4294967296 := Nat.xor_lt_two_pow (n := 32) (by decide) hx
  have h3 : 4294967295 ^^^ (x ^^^ y) < 4294967296 := Nat.xor_lt_two_pow (n := 32) (by decide) h1
  have h4 : (4294967295 ^^^ x) &&& y < 4294967296 := Nat.and_lt_two_pow (n := 32) _ hy
  have h5 : (4294967295 ^^^ (x ^^^ y)) &&& z < 4294967296 := Nat.and_lt_two_pow (n := 32) _ hz1
  have h6 : ((4294967295 ^^^ x) &&& y) ||| ((4294967295 ^^^ (x ^^^ y)) &&& z) < 4294967296 := Nat.or_lt_two_pow (n := 32) h4 h5
  rw [c, xor32 x y hx hy, xor32 _ x (by decide) hx, xor32 _ (x ^^^ y) (by decide) h1, and32 _ y h2 hy, and32 _ z h3 hz1, or32 _ _ h4 h5]
  have e : (((((4294967295 ^^^ x) &&& y) ||| ((4294967295 ^^^ (x ^^^ y)) &&& z) : Nat) : Int) / 2147483648) = (((((4294967295 ^^^ x) &&& y) ||| ((4294967295 ^^^ (x ^^^ y)) &&& z)) / 2147483648 : Nat) : Int) := by simp
  rw [e, top31 _ h6]
  simp only [Nat.testBit_or, Nat.testBit_and, Nat.testBit_xor, tb31 x hx, tb31 y hy, tb31 z hz1, tb31 4294967295 (by decide)]
  by_cases a : 2147483648 ≤ x <;> by_cases b : 2147483648 ≤ y <;> by_cases d : 2147483648 ≤ z <;> by_cases l : x < y <;> simp [a, b, d, l] <;> omega
theorem sub32_eq (a b : Int) (ha0 : 0 ≤ a) (ha : a ≤ 4294967295) (hb0 : 0 ≤ b) (hb : b ≤ 4294967295) :
    bits_Sub32.f a b 0 = some ((a - b) % 4294967296, if a < b then 1 else 0) := by
  obtain ⟨x, rfl⟩ := Int.eq_ofNat_of_zero_le ha0
  obtain ⟨y, rfl⟩ := Int.eq_ofNat_of_zero_le hb0
  have hbo := borrow x y (by omega) (by omega)
  have hs : ((((x : Int) - y) % 4294967296) - 0) % 4294967296 = ((x : Int) - y) % 4294967296 := by omega
  have hi : (if x < y then (1 : Int) else 0) = if (x : Int) < (y : Int) then 1 else 0 := by
    by_cases h : x < y
    · rw [if_pos h, if_pos (by omega)]
    · rw [if_neg h, if_neg (by omega)]
  rw [hi] at hbo
  unfold bits_Sub32.f
  rw [hs, hbo]
theorem sub_eq (a b : Int) (ha0 : 0 ≤ a) (ha : a ≤ 4294967295) (hb0 : 0 ≤ b) (hb : b ≤ 4294967295) :
    word_Sub.f a b = some ((a - b) % 4294967296, decide (a < b), (decide (2147483648 ≤ a) != decide (2147483648 ≤ b)) && (decide (2147483648 ≤ (a - b) % 4294967296) != decide (2147483648 ≤ a))) := by
  unfold word_Sub.f
  rw [sub32_eq a b ha0 ha hb0 hb]
  simp only [Option.bind_some]
  rw [neg_eq a ha0 ha, neg_eq b hb0 hb, neg_eq ((a - b) % 4294967296) (by omega) (by omega)]
  simp only [Option.bind_some]
  have hq : ((if a < b then (1 : Int) else 0) == 1) = decide (a < b) := by
    by_cases h : a < b
    · rw [if_pos h, decide_eq_true h]; rfl
    · rw [if_neg h, decide_eq_false h]; rfl
  rw [hq]
  by_cases h : (decide (2147483648 ≤ a) != decide (2147483648 ≤ b)) = true
  · rw [if_pos h, h, Bool.true_and]
  · rw [if_neg h]
    simp only [Bool.not_eq_true] at h
    rw [h, Bool.false_and]

theorem mul_bd (a b : Int) (ha0 : 0 ≤ a) (ha : a ≤ 4294967295) (hb0 : 0 ≤ b) (hb : b ≤ 4294967295) : 0 ≤ a * b ∧ a * b ≤ 18446744065119617025 :=
  ⟨Int.mul_nonneg ha0 hb0, by have := Int.mul_le_mul ha hb hb0 (by decide : (0 : Int) ≤ 4294967295); omega⟩
theorem mul_eq (a b : Int) (ha0 : 0 ≤ a) (ha : a ≤ 4294967295) (hb0 : 0 ≤ b) (hb : b ≤ 4294967295) :
    word_Mul.f a b = some (a * b % 4294967296, a * b / 4294967296) := by
  have hab := mul_bd a b ha0 ha hb0 hb
  unfold word_Mul.f bits_Mul32.f
  simp only [u64w, Option.bind_some]
  have e1 : a % 18446744073709551616 = a := by omega
  have e2 : b % 18446744073709551616 = b := by omega
  rw [e1, e2]
  congr 1
  simp only [Prod.mk.injEq]
  constructor <;> omega

theorem pow_bd (n : Nat) (h : n ≤ 62) : (0 : Int) < 2 ^ n ∧ (2 : Int) ^ n ≤ 4611686018427387904 := by
  have h1 : 2 ^ n ≤ 2 ^ 62 := Nat.pow_le_pow_right (by decide) h
  have h2 : 0 < 2 ^ n := Nat.two_pow_pos n
  have c : ((2 ^ n : Nat) : Int) = 2 ^ n := by simp
  rw [← c]
  omega
theorem power_loop (n : Nat) (hn : n ≤ 62) (d : Nat) : ∀ (k i : Nat), n - i = d → i ≤ n → d < k → halterref01_Power.l0 k n (2 ^ i) i = some (2 ^ n) := by
  induction d with
  | zero =>
    intro k i hd hi hk
    obtain ⟨k, rfl⟩ : ∃ m, k = m + 1 := ⟨k - 1, by omega⟩
    obtain rfl : i = n := by omega
    simp only [halterref01_Power.l0]
    rw [if_neg (by omega)]
  | succ d ih =>
    intro k i hd hi hk
    obtain ⟨k, rfl⟩ : ∃ m, k = m + 1 := ⟨k - 1, by omega⟩
    simp only [halterref01_Power.l0]
    rw [if_pos (by omega)]
    have hp := pow_bd (i + 1) (by omega)
    have e : (2 : Int) * 2 ^ i = 2 ^ (i + 1) := by rw [Int.pow_succ, Int.mul_comm]
    rw [e, w64 (x := (2 : Int) ^ (i + 1)) (by omega) (by omega), w64 (x := (i : Int) + 1) (by omega) (by omega)]
    exact ih k (i + 1) (by omega) (by omega) (by omega)
theorem power_eq (k n : Nat) (hn : n ≤ 62) (hk : n < k) : halterref01_Power.f k n = some (2 ^ n) := by
  unfold halterref01_Power.f
  exact power_loop n hn n k 0 (by omega) (by omega) hk

theorem of_eq (x : Int) : halterref01_Of.f x = some (x % 4294967296) := by
  unfold halterref01_Of.f
  have h : Int.tmod x 4294967296 = if 0 ≤ x then x % 4294967296 else -((-x) % 4294967296) := by
    by_cases h0 : 0 ≤ x
    · rw [if_pos h0, tmod_pos h0]
    · rw [if_neg h0]
      have := Int.neg_tmod (-x) 4294967296
      rw [Int.neg_neg] at this
      rw [this, tmod_pos (by omega)]
  rw [h]
  by_cases h0 : 0 ≤ x
  · rw [if_pos h0, if_neg (by omega)]
    congr 1
    omega
  · rw [if_neg h0]
    by_cases h1 : -((-x) % 4294967296) < 0
    · rw [if_pos h1, w64 (by omega) (by omega)]
      congr 1
      omega
    · rw [if_neg h1]
      congr 1
      omega
theorem sign_eq (x : Int) (h0 : 0 ≤ x) (h1 : x ≤ 4294967295) : halterref01_Sign.f x = some (if 2147483648 ≤ x then x - 4294967296 else x) := by
  unfold halterref01_Sign.f
  rw [w64 (x := x) (by omega) (by omega)]
  by_cases h : 2147483648 ≤ x
  · rw [if_pos h, if_pos h, w64 (by omega) (by omega)]
  · rw [if_neg h, if_neg h]

theorem beyond_eq (x : Int) : halterref01_beyond.f x = some (decide (x < -2147483648 ∨ 2147483648 ≤ x)) := by
  unfold halterref01_beyond.f
  by_cases h : x < -2147483648
  · rw [if_pos h]; simp [h]
  · rw [if_neg h]; simp [h]

theorem refadd_eq (k : Nat) (a b : Int) (c : Bool) (ha0 : 0 ≤ a) (ha : a ≤ 4294967295) (hb0 : 0 ≤ b) (hb : b ≤ 4294967295) :
    halterref01_Add.f (k + 1) a b c = word_Add.f (k + 1) a b c := by
  rw [add_eq k a b c ha0 ha hb0 hb]
  have key : ∀ ci : Int, 0 ≤ ci → ci ≤ 1 → halterref01_Add.j0 (k + 1) a b ci = some ((a + b + ci) % 4294967296, decide (4294967296 ≤ a + b + ci), (decide (2147483648 ≤ a) == decide (2147483648 ≤ b)) && (decide (2147483648 ≤ (a + b + ci) % 4294967296) != decide (2147483648 ≤ a))) := by
    intro ci h0 h1
    simp only [halterref01_Add.j0]
    rw [w64 (x := a) (by omega) (by omega), w64 (x := b) (by omega) (by omega), w64 (x := a + b) (by omega) (by omega), w64 (x := a + b + ci) (by omega) (by omega), of_eq, sign_eq a ha0 ha, sign_eq b hb0 hb]
    simp only [Option.bind_some]
    rw [w64 (x := (if 2147483648 ≤ a then a - 4294967296 else a) + (if 2147483648 ≤ b then b - 4294967296 else b)) (by split <;> split <;> omega) (by split <;> split <;> omega)]
    rw [w64 (by split <;> split <;> omega) (by split <;> split <;> omega), beyond_eq]
    simp only [Option.bind_some]
    congr 1
    simp only [Prod.mk.injEq, true_and]
    rw [Bool.eq_iff_iff]
    simp only [decide_eq_true_eq, Bool.and_eq_true, beq_iff_eq, bne_iff_ne, ne_eq, decide_eq_decide]
    split <;> split <;> omega
  cases c
  · exact key 0 (by decide) (by decide)
  · exact key 1 (by decide) (by decide)
theorem refsub_eq (a b : Int) (ha0 : 0 ≤ a) (ha : a ≤ 4294967295) (hb0 : 0 ≤ b) (hb : b ≤ 4294967295) :
    halterref01_Sub.f a b = word_Sub.f a b := by
  rw [sub_eq a b ha0 ha hb0 hb]
  unfold halterref01_Sub.f
  rw [w64 (x := a) (by omega) (by omega), w64 (x := b) (by omega) (by omega), w64 (x := a - b) (by omega) (by omega), of_eq, sign_eq a ha0 ha, sign_eq b hb0 hb]
  simp only [Option.bind_some]
  rw [w64 (by split <;> split <;> omega) (by split <;> split <;> omega), beyond_eq]
  simp only [Option.bind_some]
  congr 1
  simp only [Prod.mk.injEq, true_and]
  rw [Bool.eq_iff_iff]
  simp only [decide_eq_true_eq, Bool.and_eq_true, bne_iff_ne, ne_eq, decide_eq_decide]
  split <;> split <;> omega
theorem w_succ (i : Nat) (h : i < 1000) : wrap64 ((i : Int) + 1) = ((i + 1 : Nat) : Int) := by rw [w64 (by omega) (by omega)]; simp
theorem sum_step (T n : Nat) (hT : T + n ≤ 18446744065119617025) (hn : n ≤ 4611686017353646080) :
    Int.tmod (wrap64 ((T : Int) % 4294967296 + Int.tmod (wrap64 (n : Int)) 4294967296)) 4294967296 = ((T + n : Nat) : Int) % 4294967296 ∧
    wrap64 (wrap64 ((T : Int) / 4294967296 + wrap64 (Int.tdiv (wrap64 (n : Int)) 4294967296)) + wrap64 (Int.tdiv (wrap64 ((T : Int) % 4294967296 + Int.tmod (wrap64 (n : Int)) 4294967296)) 4294967296)) = ((T + n : Nat) : Int) / 4294967296 := by
  rw [w64 (x := (n : Int)) (by omega) (by omega), tmod_pos (a := (n : Int)) (by omega), tdiv_pos (a := (n : Int)) (by omega), w64 (x := (T : Int) % 4294967296 + (n : Int) % 4294967296) (by omega) (by omega), tmod_pos (by omega), tdiv_pos (by omega), w64 (x := (n : Int) / 4294967296) (by omega) (by omega), w64 (x := (T : Int) / 4294967296 + (n : Int) / 4294967296) (by omega) (by omega), w64 (x := ((T : Int) % 4294967296 + (n : Int) % 4294967296) / 4294967296) (by omega) (by omega), w64 (by omega) (by omega)]
  constructor <;> omega
theorem last_step (T a : Nat) (hT : T + a * 2147483648 ≤ 18446744065119617025) (ha : a ≤ 4294967295) :
    Int.tmod (wrap64 ((T : Int) % 4294967296 + wrap64 (Int.tmod (wrap64 (a : Int)) 2 * 2147483648))) 4294967296 = ((T + a * 2147483648 : Nat) : Int) % 4294967296 ∧
    wrap64 (wrap64 ((T : Int) / 4294967296 + wrap64 (Int.tdiv (wrap64 (a : Int)) 2)) + wrap64 (Int.tdiv (wrap64 ((T : Int) % 4294967296 + wrap64 (Int.tmod (wrap64 (a : Int)) 2 * 2147483648))) 4294967296)) = ((T + a * 2147483648 : Nat) : Int) / 4294967296 := by
  rw [w64 (x := (a : Int)) (by omega) (by omega), tmod_pos (a := (a : Int)) (by omega), tdiv_pos (a := (a : Int)) (by omega), w64 (x := (a : Int) % 2 * 2147483648) (by omega) (by omega), w64 (x := (T : Int) % 4294967296 + (a : Int) % 2 * 2147483648) (by omega) (by omega), tmod_pos (by omega), tdiv_pos (by omega), w64 (x := (a : Int) / 2) (by omega) (by omega), w64 (x := (T : Int) / 4294967296 + (a : Int) / 2) (by omega) (by omega), w64 (x := ((T : Int) % 4294967296 + (a : Int) % 2 * 2147483648) / 4294967296) (by omega) (by omega), w64 (by omega) (by omega)]
  constructor <;> omega
theorem bit_step (b P : Nat) (hb : b ≤ 4294967295) (hP : 0 < P) : Int.tmod (wrap64 (Int.tdiv (wrap64 (b : Int)) (P : Int))) 2 = ((b / P % 2 : Nat) : Int) := by
  have hq : b / P ≤ 4294967295 := Nat.le_trans (Nat.div_le_self _ _) hb
  rw [w64 (x := (b : Int)) (by omega) (by omega), tdiv_pos (by omega)]
  have e1 : (b : Int) / (P : Int) = ((b / P : Nat) : Int) := by simp
  rw [e1]
  clear e1
  generalize b / P = q at *
  rw [w64 (x := (q : Int)) (by omega) (by omega), tmod_pos (by omega)]
  omega
theorem prod_step (a P : Nat) (ha : a ≤ 4294967295) : wrap64 (a : Int) * (P : Int) = ((a * P : Nat) : Int) := by
  rw [w64 (by omega) (by omega)]; simp
theorem refmul_done (a b k : Nat) (T : Nat) (hT : T ≤ 18446744065119617025) :
    halterref01_Mul.l0 (k + 1) a b ((T : Int) % 4294967296) ((T : Int) / 4294967296) 32 = some ((T : Int) % 4294967296, (T : Int) / 4294967296) := by
  simp only [halterref01_Mul.l0]
  rw [if_neg (by decide)]
  congr 1
  simp only [Prod.mk.injEq]
  constructor <;> omega
theorem refmul_round (a b k i T : Nat) (ha : a ≤ 4294967295) (hb : b ≤ 4294967295) (hi : i < 32) (hk : 33 < k) (hT : T + a * 2 ^ i * (b / 2 ^ i % 2) ≤ 18446744065119617025) :
    halterref01_Mul.l0 (k + 1) a b ((T : Int) % 4294967296) ((T : Int) / 4294967296) i = halterref01_Mul.l0 k a b (((T + a * 2 ^ i * (b / 2 ^ i % 2) : Nat) : Int) % 4294967296) (((T + a * 2 ^ i * (b / 2 ^ i % 2) : Nat) : Int) / 4294967296) ((i + 1 : Nat) : Int) := by
  have hP := Nat.two_pow_pos i
  have c : (2 : Int) ^ i = ((2 ^ i : Nat) : Int) := by simp
  have hp := power_eq k i (by omega) (by omega)
  rw [c] at hp
  simp only [halterref01_Mul.l0]
  rw [if_pos (show (i : Int) < 32 by omega), hp]
  simp only [Option.bind_some]
  rw [if_neg (show ¬ (((2 ^ i : Nat) : Int) = 0) by omega), bit_step b (2 ^ i) hb hP, w_succ i (by omega), prod_step a (2 ^ i) ha]
  clear hp c
  rcases Nat.mod_two_eq_zero_or_one (b / 2 ^ i) with h | h
  · rw [h, if_pos (by decide)]
    simp
  · rw [h] at hT
    rw [h, if_neg (by decide)]
    rw [Nat.mul_one] at hT ⊢
    by_cases hlast : i < 31
    · have hP2 : 2 ^ i ≤ 2 ^ 30 := Nat.pow_le_pow_right (by decide) (by omega)
      have hn : a * 2 ^ i ≤ 4294967295 * 2 ^ 30 := Nat.mul_le_mul ha hP2
      rw [if_pos (show (i : Int) < 31 by omega)]
      obtain ⟨s1, s2⟩ := sum_step T (a * 2 ^ i) hT hn
      rw [s1, s2]
    · obtain rfl : i = 31 := by omega
      rw [if_neg (by decide)]
      obtain ⟨s1, s2⟩ := last_step T a hT ha
      rw [s1, s2]
theorem refmul_loop (a b : Nat) (ha : a ≤ 4294967295) (hb : b ≤ 4294967295) (d : Nat) : ∀ (k i : Nat), 32 - i = d → i ≤ 32 → d + 34 < k →
    halterref01_Mul.l0 k a b (((a * (b % 2 ^ i) : Nat) : Int) % 4294967296) (((a * (b % 2 ^ i) : Nat) : Int) / 4294967296) i = some (((a * b : Nat) : Int) % 4294967296, ((a * b : Nat) : Int) / 4294967296) := by
  induction d with
  | zero =>
    intro k i hd hi hk
    obtain ⟨k, rfl⟩ : ∃ m, k = m + 1 := ⟨k - 1, by omega⟩
    obtain rfl : i = 32 := by omega
    rw [Nat.mod_eq_of_lt (show b < 2 ^ 32 by omega)]
    exact refmul_done a b k (a * b) (Nat.mul_le_mul ha hb)
  | succ d ih =>
    intro k i hd hi hk
    obtain ⟨k, rfl⟩ : ∃ m, k = m + 1 := ⟨k - 1, by omega⟩
    have hmm : b % 2 ^ (i + 1) = b % 2 ^ i + 2 ^ i * (b / 2 ^ i % 2) := by rw [Nat.pow_succ, Nat.mod_mul]
    have hT : a * (b % 2 ^ (i + 1)) = a * (b % 2 ^ i) + a * 2 ^ i * (b / 2 ^ i % 2) := by rw [hmm, Nat.mul_add, Nat.mul_assoc]
    have hle : a * (b % 2 ^ (i + 1)) ≤ 4294967295 * 4294967295 := Nat.mul_le_mul ha (Nat.le_trans (Nat.mod_le b (2 ^ (i + 1))) hb)
    have hI := ih k (i + 1) (by omega) (by omega) (by omega)
    rw [hT] at hI hle
    rw [refmul_round a b k i (a * (b % 2 ^ i)) ha hb (by omega) (by omega) hle]
    exact hI
theorem refmul_eq (a b : Int) (ha0 : 0 ≤ a) (ha : a ≤ 4294967295) (hb0 : 0 ≤ b) (hb : b ≤ 4294967295) : halterref01_Mul.f 67 a b = word_Mul.f a b := by
  rw [mul_eq a b ha0 ha hb0 hb]
  obtain ⟨x, rfl⟩ := Int.eq_ofNat_of_zero_le ha0
  obtain ⟨y, rfl⟩ := Int.eq_ofNat_of_zero_le hb0
  have h := refmul_loop x y (by omega) (by omega) 32 67 0 (by omega) (by omega) (by omega)
  have e : ((x * (y % 2 ^ 0) : Nat) : Int) = 0 := by simp [Nat.mod_one]
  rw [e] at h
  simpa [halterref01_Mul.f] using h
theorem WordSums : halterlaw01_WordSums.Pure := by
  intro a b c ha hb
  obtain ⟨ha0, ha1⟩ := u32_bd ha
  obtain ⟨hb0, hb1⟩ := u32_bd hb
  refine ⟨67, ?_⟩
  have hs : halterlaw01_sure.f 67 = some true := by decide +kernel
  simp only [halterlaw01_WordSums.f]
  rw [refadd_eq 66 a b c ha0 ha1 hb0 hb1, refsub_eq a b ha0 ha1 hb0 hb1, refmul_eq a b ha0 ha1 hb0 hb1, add_eq 66 a b c ha0 ha1 hb0 hb1, sub_eq a b ha0 ha1 hb0 hb1, mul_eq a b ha0 ha1 hb0 hb1, hs]
  simp

end Go.Proofs.Ytgomfkjdffcbhaa.Pure
