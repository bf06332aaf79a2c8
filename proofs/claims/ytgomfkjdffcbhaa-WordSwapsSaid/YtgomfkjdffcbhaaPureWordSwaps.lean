/- For every two numbers of 32 bits: sums and products are the same which of two comes first; of two differences one is the other's contrary, and something is borrowed in just one of them where the numbers are unlike. No condition. -/
import Derived.Test.YtgomfkjdffcbhaaPWordSwapsx2
set_option linter.unusedVariables false
set_option linter.unusedSimpArgs false
set_option linter.unnecessarySimpa false
namespace Go.Proofs.Ytgomfkjdffcbhaa.Pure
open Go.RowKit Go.Proofs.Ytgomfkjdffcbhaa.PWordSwaps Go.Proofs.YtgomfkjdffcbhaaW.PrintWords Go.Proofs.YtgomfkjdffcbhaaW.PrintLast Go.Proofs.YtgomfkjdffcbhaaW.PrintMore

theorem u64w (x : Int) : IntKind.u64.wrap x = x % 18446744073709551616 := by simp [IntKind.wrap, IntKind.bits, IntKind.signed]
theorem u32_bd {a : Int} (h : (Lit.int .u32 a).wf = true) : 0 ≤ a ∧ a ≤ 4294967295 := by
  simpa [Lit.wf, IntKind.min, IntKind.max, IntKind.signed, IntKind.bits] using h
theorem i64_bd {a : Int} (h : (Lit.int .i64 a).wf = true) : -9223372036854775808 ≤ a ∧ a ≤ 9223372036854775807 := by
  simpa [Lit.wf, IntKind.min, IntKind.max, IntKind.signed, IntKind.bits] using h
theorem tmod_pos {a m : Int} (h : 0 ≤ a) : Int.tmod a m = a % m := Int.tmod_eq_emod_of_nonneg h
theorem tdiv_pos {a m : Int} (h : 0 ≤ a) : Int.tdiv a m = a / m := Int.tdiv_eq_ediv_of_nonneg h
theorem w64 {x : Int} (h0 : -9223372036854775808 ≤ x) (h1 : x ≤ 9223372036854775807) : wrap64 x = x := by unfold wrap64; omega

theorem neg_eq (x : Int) (h0 : 0 ≤ x) (h1 : x ≤ 4294967295) : word_negative.f x = some (decide (2147483648 ≤ x)) := by
  unfold word_negative.f
  congr 1
  simp only [decide_eq_decide]
  unfold wrap32
  omega
theorem add32_eq (a b c : Int) (ha0 : 0 ≤ a) (ha : a ≤ 4294967295) (hb0 : 0 ≤ b) (hb : b ≤ 4294967295) (hc0 : 0 ≤ c) (hc : c ≤ 1) :
    bits_Add32.f a b c = some ((a + b + c) % 4294967296, (a + b + c) / 4294967296) := by
  unfold bits_Add32.f
  simp only [u64w]
  congr 1
  simp only [Prod.mk.injEq]
  constructor <;> omega
theorem addj_eq (k : Nat) (a b ci : Int) (ha0 : 0 ≤ a) (ha : a ≤ 4294967295) (hb0 : 0 ≤ b) (hb : b ≤ 4294967295) (h0 : 0 ≤ ci) (h1 : ci ≤ 1) :
    word_Add.j0 (k + 1) a b ci = some ((a + b + ci) % 4294967296, decide (4294967296 ≤ a + b + ci), (decide (2147483648 ≤ a) == decide (2147483648 ≤ b)) && (decide (2147483648 ≤ (a + b + ci) % 4294967296) != decide (2147483648 ≤ a))) := by
  simp only [word_Add.j0]
  rw [add32_eq a b ci ha0 ha hb0 hb h0 h1]
  simp only [Option.bind_some]
  rw [neg_eq a ha0 ha, neg_eq b hb0 hb, neg_eq ((a + b + ci) % 4294967296) (by omega) (by omega)]
  simp only [Option.bind_some]
  have hq : ((a + b + ci) / 4294967296 == 1) = decide (4294967296 ≤ a + b + ci) := by
    rw [Bool.eq_iff_iff]
    simp only [beq_iff_eq, decide_eq_true_eq]
    omega
  rw [hq]
  by_cases h : (decide (2147483648 ≤ a) == decide (2147483648 ≤ b)) = true
  · rw [if_pos h, h]; simp
  · rw [if_neg h]
    simp only [Bool.not_eq_true] at h
    rw [h]
    simp
theorem add_eq (k : Nat) (a b : Int) (c : Bool) (ha0 : 0 ≤ a) (ha : a ≤ 4294967295) (hb0 : 0 ≤ b) (hb : b ≤ 4294967295) :
    word_Add.f (k + 1) a b c = some ((a + b + if c then 1 else 0) % 4294967296, decide (4294967296 ≤ a + b + if c then 1 else 0), (decide (2147483648 ≤ a) == decide (2147483648 ≤ b)) && (decide (2147483648 ≤ (a + b + if c then 1 else 0) % 4294967296) != decide (2147483648 ≤ a))) := by
  cases c
  · exact addj_eq k a b 0 ha0 ha hb0 hb (by decide) (by decide)
  · exact addj_eq k a b 1 ha0 ha hb0 hb (by decide) (by decide)

theorem wraps_u32 (n : Int) (h0 : 0 ≤ n) (h1 : n < 2 ^ 32) : IntKind.u32.wrap n = n := by rw [IntKind.wrap_u32]; omega
theorem and32 (x y : Nat) (hx : x < 4294967296) (hy : y < 4294967296) : Go.bits .and .u32 x y = ((x &&& y : Nat) : Int) := (bits_nat .u32 32 (by decide) wraps_u32 x y hx hy).1
theorem or32 (x y : Nat) (hx : x < 4294967296) (hy : y < 4294967296) : Go.bits .or .u32 x y = ((x ||| y : Nat) : Int) := (bits_nat .u32 32 (by decide) wraps_u32 x y hx hy).2
theorem xor32 (x y : Nat) (hx : x < 4294967296) (hy : y < 4294967296) : Go.bits .xor .u32 x y = ((x ^^^ y : Nat) : Int) := by
  have hx' : x % 2 ^ IntKind.u32.bits = x := Nat.mod_eq_of_lt hx
  have hy' : y % 2 ^ IntKind.u32.bits = y := Nat.mod_eq_of_lt hy
  have hl : x ^^^ y < 2 ^ 32 := Nat.xor_lt_two_pow (n := 32) hx hy
  simp only [Go.bits, BitVec.ofInt_natCast, BitVec.toNat_xor, BitVec.toNat_ofNat, hx', hy']
  exact wraps_u32 _ (Int.natCast_nonneg _) (by exact_mod_cast hl)
theorem tb31 (n : Nat) (h : n < 4294967296) : n.testBit 31 = decide (2147483648 ≤ n) := by
  rw [Nat.testBit_eq_decide_div_mod_eq, decide_eq_decide]
  omega
theorem top31 (n : Nat) (h : n < 4294967296) : n / 2147483648 = (if n.testBit 31 then 1 else 0) := by
  rw [tb31 n h]
  by_cases h2 : 2147483648 ≤ n
  · simp [h2]; omega
  · simp [h2]; omega
theorem borrow (x y : Nat) (hx : x < 4294967296) (hy : y < 4294967296) :
    (Go.bits .or .u32 (Go.bits .and .u32 (Go.bits .xor .u32 4294967295 (x : Int)) (y : Int)) (Go.bits .and .u32 (Go.bits .xor .u32 4294967295 (Go.bits .xor .u32 (x : Int) (y : Int))) (((x : Int) - y) % 4294967296))) / 2147483648 = if x < y then 1 else 0 := by
  obtain ⟨z, hz⟩ : ∃ z : Nat, (z : Int) = ((x : Int) - y) % 4294967296 := ⟨(((x : Int) - y) % 4294967296).toNat, by omega⟩
  have hz1 : z < 4294967296 := by omega
  rw [← hz]
  have c : (4294967295 : Int) = ((4294967295 : Nat) : Int) := rfl
  have h1 : x ^^^ y < 4294967296 := Nat.xor_lt_two_pow (n := 32) hx hy
  have h2 : 4294967295 ^^^ x < 4294967296 := Nat.xor_lt_two_pow (n := 32) (by decide) hx
  have h3 : 4294967295 ^^^ (x ^^^ y) < 4294967296 := Nat.xor_lt_two_pow (n := 32) (by decide) h1
  have h4 : (4294967295 ^^^ x) &&& y < 4294967296 := Nat.and_lt_two_pow (n := 32) _ hy
  have h5 : (4294967295 ^^^ (x ^^^ y)) &&& z < 4294967296 := Nat.and_lt_two_pow (n := 32) _ hz1
  have h6 : ((4294967295 ^^^ x) &&& y) ||| ((4294967295 ^^^ (x ^^^ y)) &&& z) < 4294967296 := Nat.or_lt_two_pow (n := 32) h4 h5
  rw [c, xor32 x y hx hy, xor32 _ x (by decide) hx, xor32 _ (x ^^^ y) (by decide) h1, and32 _ y h2 hy, and32 _ z h3 hz1, or32 _ _ h4 h5]
  have e : (((((4294967295 ^^^ x) &&& y) ||| ((4294967295 ^^^ (x ^^^ y)) &&& z) : Nat) : Int) / 2147483648) = (((((4294967295 ^^^ x) &&& y) ||| ((4294967295 ^^^ (x ^^^ y)) &&& z)) / 2147483648 : Nat) : Int) := by simp
  rw [e, top31 _ h6]
  simp only [Nat.testBit_or, Nat.testBit_and, Nat.testBit_xor, tb31 x hx, tb31 y hy, tb31 z hz1, tb31 4294967295 (by decide)]
  by_cases a : 2147483648 ≤ x <;> by_cases b : 2147483648 ≤ y <;> by_cases d : 2147483648 ≤ z <;> by_cases l : x < y <;> simp [a, b, d, l] <;> omega
theorem sub32_eq (a b : Int) (ha0 : 0 ≤ a) (ha : a ≤ 4294967295) (hb0 : 0 ≤ b) (hb : b ≤ 4294967295) :
    bits_Sub32.f a b 0 = some ((a - b) % 4294967296, if a < b then 1 else 0) := by
  obtain ⟨x, rfl⟩ := Int.eq_ofNat_of_zero_le ha0
  obtain ⟨y, rfl⟩ := Int.eq_ofNat_of_zero_le hb0
  have hbo := borrow x y (by omega) (by omega)
  have hs : ((((x : Int) - y) % 4294967296) - 0) % 4294967296 = ((x : Int) - y) % 4294967296 := by omega
  have hi : (if x < y then (1 : Int) else 0) = if (x : Int) < (y : Int) then 1 else 0 := by
    by_cases h : x < y
    · rw [if_pos h, if_pos (by omega)]
    · rw [if_neg h, if_neg (by omega)]
  rw [hi] at hbo
  unfold bits_Sub32.f
  rw [hs, hbo]
theorem sub_eq (a b : Int) (ha0 : 0 ≤ a) (ha : a ≤ 4294967295) (hb0 : 0 ≤ b) (hb : b ≤ 4294967295) :
    word_Sub.f a b = some ((a - b) % 4294967296, decide (a < b), (decide (2147483648 ≤ a) != decide (2147483648 ≤ b)) && (decide (2147483648 ≤ (a - b) % 4294967296) != decide (2147483648 ≤ a))) := by
  unfold word_Sub.f
  rw [sub32_eq a b ha0 ha hb0 hb]
  simp only [Option.bind_some]
  rw [neg_eq a ha0 ha, neg_eq b hb0 hb, neg_eq ((a - b) % 4294967296) (by omega) (by omega)]
  simp only [Option.bind_some]
  have hq : ((if a < b then (1 : Int) else 0) == 1) = decide (a < b) := by
    by_cases h : a < b
    · rw [if_pos h, decide_eq_true h]; rfl
    · rw [if_neg h, decide_eq_false h]; rfl
  rw [hq]
  by_cases h : (decide (2147483648 ≤ a) != decide (2147483648 ≤ b)) = true
  · rw [if_pos h, h, Bool.true_and]
  · rw [if_neg h]
    simp only [Bool.not_eq_true] at h
    rw [h, Bool.false_and]

theorem mul_bd (a b : Int) (ha0 : 0 ≤ a) (ha : a ≤ 4294967295) (hb0 : 0 ≤ b) (hb : b ≤ 4294967295) : 0 ≤ a * b ∧ a * b ≤ 18446744065119617025 :=
  ⟨Int.mul_nonneg ha0 hb0, by have := Int.mul_le_mul ha hb hb0 (by decide : (0 : Int) ≤ 4294967295); omega⟩
theorem mul_eq (a b : Int) (ha0 : 0 ≤ a) (ha : a ≤ 4294967295) (hb0 : 0 ≤ b) (hb : b ≤ 4294967295) :
    word_Mul.f a b = some (a * b % 4294967296, a * b / 4294967296) := by
  have hab := mul_bd a b ha0 ha hb0 hb
  unfold word_Mul.f bits_Mul32.f
  simp only [u64w, Option.bind_some]
  have e1 : a % 18446744073709551616 = a := by omega
  have e2 : b % 18446744073709551616 = b := by omega
  rw [e1, e2]
  congr 1
  simp only [Prod.mk.injEq]
  constructor <;> omega

theorem WordSwaps : halterlaw01_WordSwaps.Pure := by
  intro a b c ha hb
  obtain ⟨ha0, ha1⟩ := u32_bd ha
  obtain ⟨hb0, hb1⟩ := u32_bd hb
  refine ⟨67, ?_⟩
  have hs : halterlaw01_sure.f 67 = some true := by decide +kernel
  unfold halterlaw01_WordSwaps.f
  rw [add_eq 66 a b c ha0 ha1 hb0 hb1, add_eq 66 b a c hb0 hb1 ha0 ha1, sub_eq a b ha0 ha1 hb0 hb1, sub_eq b a hb0 hb1 ha0 ha1, mul_eq a b ha0 ha1 hb0 hb1, mul_eq b a hb0 hb1 ha0 ha1, hs]
  simp only [Option.bind_some]
  rw [add_eq 66 ((a - b) % 4294967296) ((b - a) % 4294967296) false (by omega) (by omega) (by omega) (by omega)]
  simp only [Option.bind_some]
  have e1 : b + a = a + b := Int.add_comm b a
  have e2 : b * a = a * b := Int.mul_comm b a
  have e3 : ((a - b) % 4294967296 + (b - a) % 4294967296 + if false = true then (1 : Int) else 0) % 4294967296 = 0 := by
    rw [if_neg (by decide)]
    omega
  rw [e1, e2, e3]
  simp only [if_true, beq_self_eq_true]
  have e4 : ((decide (2147483648 ≤ a) == decide (2147483648 ≤ b) && (decide (2147483648 ≤ (a + b + if c = true then 1 else 0) % 4294967296) != decide (2147483648 ≤ a))) == (decide (2147483648 ≤ b) == decide (2147483648 ≤ a) && (decide (2147483648 ≤ (a + b + if c = true then 1 else 0) % 4294967296) != decide (2147483648 ≤ b)))) = true := by
    by_cases x : 2147483648 ≤ a <;> by_cases y : 2147483648 ≤ b <;> simp [x, y]
  rw [if_pos e4]
  rcases Int.lt_trichotomy a b with h | h | h
  · have h1 : ¬ b < a := by omega
    have h2 : ¬ a = b := by omega
    simp [h, h1, h2]
  · subst h
    simp
  · have h1 : ¬ a < b := by omega
    have h2 : ¬ a = b := by omega
    simp [h, h1, h2]

end Go.Proofs.Ytgomfkjdffcbhaa.Pure
