/- The plain law: what the law computes is true, whatever it is handed. -/
import Derived.Test.YtfoejbiifolnnaaDoorGAluDoes
import Derived.Test.YtfoejbiifolnnaaDoorE16
import Derived.Laws.BitsLemmas
import Derived.Laws.BitsAllLaws
set_option linter.unusedVariables false
set_option linter.unusedSimpArgs false
set_option linter.unnecessarySimpa false
namespace Go.Proofs.YtfoejbiifolnnaaDoor.Pure
open Go Go.Proofs.YtfoejbiifolnnaaDoorE Go.Proofs.YtfoejbiifolnnaaDoorGAluDoes
theorem wu8 (x : Int) : IntKind.wrap .u8 x = x % 256 := by simp [IntKind.wrap, IntKind.bits, IntKind.signed]
theorem wu16 (x : Int) : IntKind.wrap .u16 x = x % 65536 := by simp [IntKind.wrap, IntKind.bits, IntKind.signed]
theorem wu32 (x : Int) : IntKind.wrap .u32 x = x % 4294967296 := by simp [IntKind.wrap, IntKind.bits, IntKind.signed]
theorem wu64 (x : Int) : IntKind.wrap .u64 x = x % 18446744073709551616 := by simp [IntKind.wrap, IntKind.bits, IntKind.signed]
theorem wi64 {x : Int} (h : -9223372036854775808 ≤ x) (h' : x ≤ 9223372036854775807) : IntKind.wrap .i64 x = x := by
  simp [IntKind.wrap, IntKind.bits, IntKind.signed]
  omega
theorem wu8_id {x : Int} (h : 0 ≤ x ∧ x < 256) : IntKind.wrap .u8 x = x := by rw [wu8]; omega
theorem wu32_id {x : Int} (h : 0 ≤ x ∧ x < 4294967296) : IntKind.wrap .u32 x = x := by rw [wu32]; omega
theorem wu64_id {x : Int} (h : 0 ≤ x ∧ x < 18446744073709551616) : IntKind.wrap .u64 x = x := by rw [wu64]; omega
theorem wsucc {i : Nat} (h : i < 9223372036854775807) : IntKind.wrap .i64 ((i : Int) + 1) = ((i + 1 : Nat) : Int) := by rw [wi64 (by omega) (by omega)]; omega
theorem u8_bd {a : Int} (h : (Lit.int .u8 a).wf = true) : 0 ≤ a ∧ a < 256 := by
  simpa [Lit.wf, IntKind.min, IntKind.max, IntKind.signed, IntKind.bits, ← Int.lt_add_one_iff] using h
theorem u32_bd {a : Int} (h : (Lit.int .u32 a).wf = true) : 0 ≤ a ∧ a < 4294967296 := by
  simpa [Lit.wf, IntKind.min, IntKind.max, IntKind.signed, IntKind.bits, ← Int.lt_add_one_iff] using h
theorem u64_bd {a : Int} (h : (Lit.int .u64 a).wf = true) : 0 ≤ a ∧ a < 18446744073709551616 := by
  simpa [Lit.wf, IntKind.min, IntKind.max, IntKind.signed, IntKind.bits, ← Int.lt_add_one_iff] using h
theorem i64_bd {a : Int} (h : (Lit.int .i64 a).wf = true) : -9223372036854775808 ≤ a ∧ a < 9223372036854775808 := by
  simpa [Lit.wf, IntKind.min, IntKind.max, IntKind.signed, IntKind.bits, ← Int.lt_add_one_iff] using h
theorem fuel_gt {n : Nat} (h : n < 18446744073709551616) : n < FUEL := h
theorem bind_go {α β : Type} (a : α) (f : α → Option β) : (some a).bind f = f a := by rw [Option.bind_some]
theorem drop_getD {α : Type} (l : List α) (i : Nat) (d : α) (h : i < l.length) : l.drop i = l.getD i d :: l.drop (i + 1) := by
  rw [List.drop_eq_getElem_cons h, List.getD_eq_getElem?_getD, List.getElem?_eq_getElem h, Option.getD_some]
theorem getD_mem {α : Type} (l : List α) (i : Nat) (d : α) (h : i < l.length) : l.getD i d ∈ l := by
  rw [List.getD_eq_getElem?_getD, List.getElem?_eq_getElem h, Option.getD_some]; exact List.getElem_mem _
theorem toNat_nat (i : Nat) : Int.toNat (i : Int) = i := rfl
/-- A number behind another one: a round of a loop. -/
theorem fuel_step {d n : Nat} (h : d < n) : ∃ m, n = m + 1 := ⟨n - 1, by omega⟩
/-- Where something stands first. -/
def first (v : Int) : List Int → Option Nat
  | [] => none
  | x :: xs => if x = v then some 0 else (first v xs).map (· + 1)
theorem first_none {v : Int} : ∀ {l : List Int}, first v l = none → ∀ z ∈ l, z ≠ v
  | [], _, z, hz => by cases hz
  | x :: xs, h, z, hz => by
    unfold first at h
    split at h
    · cases h
    · rename_i hx
      rcases List.mem_cons.1 hz with rfl | hz
      · exact hx
      · exact first_none (by simpa using h) z hz
theorem first_some {v : Int} : ∀ {l : List Int} {k : Nat}, first v l = some k → k < l.length ∧ l.getD k 0 = v ∧ ∀ j, j < k → l.getD j 0 ≠ v
  | [], _, h => by cases h
  | x :: xs, k, h => by
    unfold first at h
    split at h
    · cases h
      rename_i hx
      exact ⟨by simp, by simpa using hx, fun j hj => by omega⟩
    · rename_i hx
      cases hf : first v xs with
      | none => simp [hf] at h
      | some m =>
        simp [hf] at h
        subst h
        obtain ⟨h1, h2, h3⟩ := first_some hf
        refine ⟨by simp; omega, by simpa using h2, fun j hj => ?_⟩
        cases j with
        | zero => simpa using hx
        | succ j => simpa using h3 j (by omega)

theorem wi32 (x : Int) : IntKind.wrap .i32 x = (x + 2147483648) % 4294967296 - 2147483648 := IntKind.wrap_i32 x
theorem tmod_pos {a m : Int} (h : 0 ≤ a) : Int.tmod a m = a % m := Int.tmod_eq_emod_of_nonneg h
theorem tdiv_pos {a m : Int} (h : 0 ≤ a) : Int.tdiv a m = a / m := Int.tdiv_eq_ediv_of_nonneg h
theorem shr32w (x : Int) : shr .u64 x 32 = x / 4294967296 := by simp [shr, IntKind.bits]
theorem shr31 (x : Int) : shr .u32 x 31 = x / 2147483648 := by simp [shr, IntKind.bits]
theorem max32 : IntKind.max .u32 = 4294967295 := by decide
theorem neg_eq (x : Int) (h0 : 0 ≤ x) (h1 : x ≤ 4294967295) : word_negative.f x = some (decide (2147483648 ≤ x)) := by
  unfold word_negative.f
  rw [wi32]
  congr 1
  rw [decide_eq_decide]
  omega
theorem add32_eq (a b c : Int) (ha0 : 0 ≤ a) (ha : a ≤ 4294967295) (hb0 : 0 ≤ b) (hb : b ≤ 4294967295) (hc0 : 0 ≤ c) (hc : c ≤ 1) :
    math_bits_Add32.f a b c = some ((a + b + c) % 4294967296, (a + b + c) / 4294967296) := by
  unfold math_bits_Add32.f
  rw [wu64_id (x := a) (by omega), wu64_id (x := b) (by omega), wu64_id (x := c) (by omega), wu64_id (x := a + b) (by omega), wu64_id (x := a + b + c) (by omega), shr32w, wu32, wu32_id (by omega)]
theorem add_eq (a b : Int) (ha0 : 0 ≤ a) (ha : a ≤ 4294967295) (hb0 : 0 ≤ b) (hb : b ≤ 4294967295) :
    word_Add.f a b false = some ((a + b) % 4294967296, decide (4294967296 ≤ a + b), (decide (2147483648 ≤ a) == decide (2147483648 ≤ b)) && (decide (2147483648 ≤ (a + b) % 4294967296) != decide (2147483648 ≤ a))) := by
  unfold word_Add.f
  rw [if_neg (by simp), add32_eq a b 0 ha0 ha hb0 hb (by omega) (by omega), bind_go, neg_eq a ha0 ha, bind_go, neg_eq b hb0 hb, bind_go, Int.add_zero]
  dsimp only
  have hq : ((a + b) / 4294967296 == 1) = decide (4294967296 ≤ a + b) := by
    rw [Bool.eq_iff_iff]
    simp only [beq_iff_eq, decide_eq_true_eq]
    omega
  rw [hq]
  by_cases h : decide (2147483648 ≤ a) = decide (2147483648 ≤ b)
  · rw [if_pos h, neg_eq _ (by omega) (by omega), bind_go, bind_go, h, beq_self_eq_true, Bool.true_and]
    rfl
  · rw [if_neg h]
    have h2 : (decide (2147483648 ≤ a) == decide (2147483648 ≤ b)) = false := by rw [beq_eq_false_iff_ne]; exact h
    rw [h2, Bool.false_and]
theorem wraps_u32 (n : Int) (h0 : 0 ≤ n) (h1 : n < 2 ^ 32) : IntKind.u32.wrap n = n := by rw [IntKind.wrap_u32]; omega
theorem and32 (x y : Nat) (hx : x < 4294967296) (hy : y < 4294967296) : Go.bits .and .u32 x y = ((x &&& y : Nat) : Int) := (bits_nat .u32 32 (by decide) wraps_u32 x y hx hy).1
theorem or32 (x y : Nat) (hx : x < 4294967296) (hy : y < 4294967296) : Go.bits .or .u32 x y = ((x ||| y : Nat) : Int) := (bits_nat .u32 32 (by decide) wraps_u32 x y hx hy).2
theorem xor32 (x y : Nat) (hx : x < 4294967296) (hy : y < 4294967296) : Go.bits .xor .u32 x y = ((x ^^^ y : Nat) : Int) := by
  have hx' : x % 2 ^ IntKind.u32.bits = x := Nat.mod_eq_of_lt hx
  have hy' : y % 2 ^ IntKind.u32.bits = y := Nat.mod_eq_of_lt hy
  have hl : x ^^^ y < 2 ^ 32 := Nat.xor_lt_two_pow (n := 32) hx hy
  simp only [Go.bits, BitVec.ofInt_natCast, BitVec.toNat_xor, BitVec.toNat_ofNat, hx', hy']
  exact wraps_u32 _ (Int.natCast_nonneg _) (by exact_mod_cast hl)
theorem tb31 (n : Nat) (h : n < 4294967296) : n.testBit 31 = decide (2147483648 ≤ n) := by
  rw [Nat.testBit_eq_decide_div_mod_eq, decide_eq_decide]
  omega
theorem top31 (n : Nat) (h : n < 4294967296) : n / 2147483648 = (if n.testBit 31 then 1 else 0) := by
  rw [tb31 n h]
  by_cases h2 : 2147483648 ≤ n
  · simp [h2]; omega
  · simp [h2]; omega
theorem borrow (x y : Nat) (hx : x < 4294967296) (hy : y < 4294967296) :
    (Go.bits .or .u32 (Go.bits .and .u32 (Go.bits .xor .u32 4294967295 (x : Int)) (y : Int)) (Go.bits .and .u32 (Go.bits .xor .u32 4294967295 (Go.bits .xor .u32 (x : Int) (y : Int))) (((x : Int) - y) % 4294967296))) / 2147483648 = if x < y then 1 else 0 := by
  obtain ⟨z, hz⟩ : ∃ z : Nat, (z : Int) = ((x : Int) - y) % 4294967296 := ⟨(((x : Int) - y) % 4294967296).toNat, by omega⟩
  have hz1 : z < 4294967296 := by omega
  rw [← hz]
  have c : (4294967295 : Int) = ((4294967295 : Nat) : Int) := rfl
  have h1 : x ^^^ y < 4294967296 := Nat.xor_lt_two_pow (n := 32) hx hy
  have h2 : 4294967295 ^^^ x < 4294967296 := Nat.xor_lt_two_pow (n := 32) (by decide) hx
  have h3 : 4294967295 ^^^ (x ^^^ y) < 4294967296 := Nat.xor_lt_two_pow (n := 32) (by decide) h1
  have h4 : (4294967295 ^^^ x) &&& y < 4294967296 := Nat.and_lt_two_pow (n := 32) _ hy
  have h5 : (4294967295 ^^^ (x ^^^ y)) &&& z < 4294967296 := Nat.and_lt_two_pow (n := 32) _ hz1
  have h6 : ((4294967295 ^^^ x) &&& y) ||| ((4294967295 ^^^ (x ^^^ y)) &&& z) < 4294967296 := Nat.or_lt_two_pow (n := 32) h4 h5
  rw [c, xor32 x y hx hy, xor32 _ x (by decide) hx, xor32 _ (x ^^^ y) (by decide) h1, and32 _ y h2 hy, and32 _ z h3 hz1, or32 _ _ h4 h5]
  have e : (((((4294967295 ^^^ x) &&& y) ||| ((4294967295 ^^^ (x ^^^ y)) &&& z) : Nat) : Int) / 2147483648) = (((((4294967295 ^^^ x) &&& y) ||| ((4294967295 ^^^ (x ^^^ y)) &&& z)) / 2147483648 : Nat) : Int) := by simp
  rw [e, top31 _ h6]
  simp only [Nat.testBit_or, Nat.testBit_and, Nat.testBit_xor, tb31 x hx, tb31 y hy, tb31 z hz1, tb31 4294967295 (by decide)]
  by_cases a : 2147483648 ≤ x <;> by_cases b : 2147483648 ≤ y <;> by_cases d : 2147483648 ≤ z <;> by_cases l : x < y <;> simp [a, b, d, l] <;> omega
theorem sub32_eq (a b : Int) (ha0 : 0 ≤ a) (ha : a ≤ 4294967295) (hb0 : 0 ≤ b) (hb : b ≤ 4294967295) :
    math_bits_Sub32.f a b 0 = some ((a - b) % 4294967296, if a < b then 1 else 0) := by
  obtain ⟨x, rfl⟩ := Int.eq_ofNat_of_zero_le ha0
  obtain ⟨y, rfl⟩ := Int.eq_ofNat_of_zero_le hb0
  have hbo := borrow x y (by omega) (by omega)
  have hi : (if x < y then (1 : Int) else 0) = if (x : Int) < (y : Int) then 1 else 0 := by
    by_cases h : x < y
    · rw [if_pos h, if_pos (by omega)]
    · rw [if_neg h, if_neg (by omega)]
  rw [hi] at hbo
  unfold math_bits_Sub32.f
  rw [max32, wu32 ((x : Int) - (y : Int)), wu32_id (x := ((x : Int) - (y : Int)) % 4294967296 - 0) (by omega), shr31, Int.sub_zero, hbo]
theorem sub_eq (a b : Int) (ha0 : 0 ≤ a) (ha : a ≤ 4294967295) (hb0 : 0 ≤ b) (hb : b ≤ 4294967295) :
    word_Sub.f a b = some ((a - b) % 4294967296, decide (a < b), (decide (2147483648 ≤ a) != decide (2147483648 ≤ b)) && (decide (2147483648 ≤ (a - b) % 4294967296) != decide (2147483648 ≤ a))) := by
  unfold word_Sub.f
  rw [sub32_eq a b ha0 ha hb0 hb, bind_go, neg_eq a ha0 ha, bind_go, neg_eq b hb0 hb, bind_go]
  dsimp only
  have hq : ((if a < b then (1 : Int) else 0) == 1) = decide (a < b) := by
    by_cases h : a < b
    · rw [if_pos h, decide_eq_true h]; rfl
    · rw [if_neg h, decide_eq_false h]; rfl
  rw [hq]
  by_cases h : decide (2147483648 ≤ a) = decide (2147483648 ≤ b)
  · rw [if_neg (fun h2 => h2 h)]
    have h2 : (decide (2147483648 ≤ a) != decide (2147483648 ≤ b)) = false := by rw [bne_eq_false_iff_eq]; exact h
    rw [h2, Bool.false_and]
  · rw [if_pos h, neg_eq _ (by omega) (by omega), bind_go, bind_go]
    have h2 : (decide (2147483648 ≤ a) != decide (2147483648 ≤ b)) = true := by rw [bne_iff_ne]; exact h
    rw [h2, Bool.true_and]
    rfl
theorem mul_bd (a b : Int) (ha0 : 0 ≤ a) (ha : a ≤ 4294967295) (hb0 : 0 ≤ b) (hb : b ≤ 4294967295) : 0 ≤ a * b ∧ a * b ≤ 18446744065119617025 :=
  ⟨Int.mul_nonneg ha0 hb0, by have := Int.mul_le_mul ha hb hb0 (by decide : (0 : Int) ≤ 4294967295); omega⟩
theorem mul_eq (a b : Int) (ha0 : 0 ≤ a) (ha : a ≤ 4294967295) (hb0 : 0 ≤ b) (hb : b ≤ 4294967295) :
    word_Mul.f a b = some (a * b % 4294967296, a * b / 4294967296) := by
  have hab := mul_bd a b ha0 ha hb0 hb
  unfold word_Mul.f math_bits_Mul32.f
  rw [bind_go, wu64_id (x := a) (by omega), wu64_id (x := b) (by omega)]
  dsimp only
  generalize a * b = p at *
  rw [wu64_id (x := p) (by omega), shr32w, wu32, wu32_id (by omega)]
theorem and_two (x k : Nat) : x &&& 2 ^ k = x / 2 ^ k % 2 * 2 ^ k := by
  have hm : x / 2 ^ k % 2 < 2 := Nat.mod_lt _ (by omega)
  apply Nat.eq_of_testBit_eq
  intro j
  rw [Nat.testBit_and, Nat.testBit_two_pow]
  by_cases h : x / 2 ^ k % 2 = 1
  · rw [h, Nat.one_mul, Nat.testBit_two_pow]
    by_cases e : k = j
    · subst e; rw [Nat.testBit_eq_decide_div_mod_eq, decide_eq_true h]; rfl
    · rw [decide_eq_false e, Bool.and_false]
  · have h0 : x / 2 ^ k % 2 = 0 := by omega
    rw [h0, Nat.zero_mul, Nat.zero_testBit]
    by_cases e : k = j
    · subst e; rw [Nat.testBit_eq_decide_div_mod_eq, decide_eq_false h]; rfl
    · rw [decide_eq_false e, Bool.and_false]
/-- The flags. -/
def pairN (v : Int) (c o : Bool) : Nat := (decide (v = 0)).toNat + 2 * (decide (2147483648 ≤ v)).toNat + 4 * c.toNat + 8 * o.toNat
theorem pair_eq (v : Int) (h0 : 0 ≤ v) (h1 : v ≤ 4294967295) (c o : Bool) : alu_pair.f v c o = some ((pairN v c o : Nat) : Int) := by
  obtain ⟨x, rfl⟩ := Int.eq_ofNat_of_zero_le h0
  have hb : bits .and .u32 (x : Int) 2147483648 = ((x &&& 2147483648 : Nat) : Int) := and32 x 2147483648 (by omega) (by omega)
  have ht : x &&& 2147483648 = (decide (2147483648 ≤ x)).toNat * 2147483648 := by
    have h := and_two x 31
    rw [show (2147483648 : Nat) = 2 ^ 31 from rfl, h]
    congr 1
    by_cases h2 : 2 ^ 31 ≤ x
    · rw [decide_eq_true h2]; show _ = 1; omega
    · rw [decide_eq_false h2]; show _ = 0; omega
  unfold alu_pair.f pairN
  rw [hb, ht]
  by_cases hz : x = 0
  · subst hz; cases c <;> cases o <;> decide +kernel
  · rw [if_neg (show ¬ (x : Int) = 0 by omega), decide_eq_false (show ¬ (x : Int) = 0 by omega)]
    by_cases ht : 2147483648 ≤ x
    · rw [decide_eq_true ht, decide_eq_true (show (2147483648 : Int) ≤ (x : Int) by omega)]
      cases c <;> cases o <;> decide +kernel
    · rw [decide_eq_false ht, decide_eq_false (show ¬ (2147483648 : Int) ≤ (x : Int) by omega)]
      cases c <;> cases o <;> decide +kernel
theorem pairN_lt (v : Int) (c o : Bool) : pairN v c o < 16 := by
  unfold pairN
  have h1 := Bool.toNat_le (decide (v = 0)); have h2 := Bool.toNat_le (decide (2147483648 ≤ v)); have h3 := Bool.toNat_le c; have h4 := Bool.toNat_le o
  omega
theorem and_bit (f k : Nat) (hf : f < 4294967296) (hk : k < 32) : bits .and .u32 (f : Int) ((2 ^ k : Nat) : Int) = (((f / 2 ^ k % 2) * 2 ^ k : Nat) : Int) := by
  have hp : (2 : Nat) ^ k < 2 ^ 32 := Nat.pow_lt_pow_right (by omega) hk
  rw [and32 f (2 ^ k) hf (by omega), and_two]
/-- Step, as it was. -/
def stN (f : Nat) : Nat := f / 16 % 2
theorem step_and (f : Nat) (hf : f < 4294967296) : bits .and .u32 (f : Int) 16 = ((stN f * 16 : Nat) : Int) := and_bit f 4 hf (by omega)
theorem or_step (p s : Nat) (hp : p < 16) (hs : s < 2) : bits .or .u32 (p : Int) ((s * 16 : Nat) : Int) = ((p + s * 16 : Nat) : Int) := by
  have : ∀ q : Fin 16, ∀ r : Fin 2, bits .or .u32 (q.val : Int) ((r.val * 16 : Nat) : Int) = ((q.val + r.val * 16 : Nat) : Int) := by decide +kernel
  exact this ⟨p, hp⟩ ⟨s, hs⟩
theorem stN_lt (f : Nat) : stN f < 2 := Nat.mod_lt _ (by omega)
theorem flag_or (v : Int) (c o : Bool) (f : Nat) (hf : f < 4294967296) : bits .or .u32 ((pairN v c o : Nat) : Int) (bits .and .u32 (f : Int) 16) = ((pairN v c o + stN f * 16 : Nat) : Int) := by
  rw [step_and f hf, or_step _ _ (pairN_lt v c o) (stN_lt f)]
/-- What each flag of such a sum is. -/
theorem flag_bits (v : Int) (c o : Bool) (s : Nat) : (pairN v c o + s * 16) % 2 = (decide (v = 0)).toNat ∧ (pairN v c o + s * 16) / 2 % 2 = (decide (2147483648 ≤ v)).toNat ∧ (pairN v c o + s * 16) / 4 % 2 = c.toNat ∧ (pairN v c o + s * 16) / 8 % 2 = o.toNat ∧ (pairN v c o + s * 16) / 16 = s := by
  unfold pairN
  have h1 := Bool.toNat_le (decide (v = 0)); have h2 := Bool.toNat_le (decide (2147483648 ≤ v)); have h3 := Bool.toNat_le c; have h4 := Bool.toNat_le o
  generalize (decide (v = 0)).toNat = x1 at *
  generalize (decide (2147483648 ≤ v)).toNat = x2 at *
  generalize c.toNat = x3 at *
  generalize o.toNat = x4 at *
  omega
/-- A flag asked for. -/
theorem ask (f k w : Nat) (hf : f < 4294967296) (hk : k < 32) (hw : w = 2 ^ k) : (bits .and .u32 (f : Int) (w : Int) != 0) = decide (f / w % 2 = 1) := by
  subst hw
  rw [and_bit f k hf hk]
  have : f / 2 ^ k % 2 < 2 := Nat.mod_lt _ (by omega)
  have hp := Nat.two_pow_pos k
  by_cases h : f / 2 ^ k % 2 = 1
  · rw [h, decide_eq_true rfl, Nat.one_mul, bne_iff_ne]; omega
  · have h0 : f / 2 ^ k % 2 = 0 := by omega
    rw [h0, Nat.zero_mul]; rfl
theorem ask0 (f k w : Nat) (hf : f < 4294967296) (hk : k < 32) (hw : w = 2 ^ k) : (bits .and .u32 (f : Int) (w : Int) == 0) = !decide (f / w % 2 = 1) := by
  rw [← ask f k w hf hk hw]
  cases h : (bits .and .u32 (f : Int) (w : Int) == 0) <;> simp [bne, h]
/-- Whether a jump is taken. -/
def takS (op : Int) (f : Nat) : Bool × Option Int :=
  if op = 21 then (true, none) else if op = 22 then (decide (f % 2 = 1), none) else if op = 23 then (!decide (f % 2 = 1), none)
  else if op = 24 then (!(decide (f / 2 % 2 = 1) == decide (f / 8 % 2 = 1)), none) else if op = 25 then (decide (f / 2 % 2 = 1) == decide (f / 8 % 2 = 1), none)
  else if op = 26 then (decide (f / 4 % 2 = 1), none) else (false, some 22)
theorem Taken_eq (op : Int) (f : Nat) (hf : f < 4294967296) : alu_Taken.f op (f : Int) = some (takS op f) := by
  have h1 : (bits .and .u32 (f : Int) 1 != 0) = decide (f % 2 = 1) := by have := ask f 0 1 hf (by omega) rfl; rw [Nat.div_one] at this; exact this
  have h0 : (bits .and .u32 (f : Int) 1 == 0) = !decide (f % 2 = 1) := by have := ask0 f 0 1 hf (by omega) rfl; rw [Nat.div_one] at this; exact this
  have h2 : (bits .and .u32 (f : Int) 2 != 0) = decide (f / 2 % 2 = 1) := ask f 1 2 hf (by omega) rfl
  have h3 : (bits .and .u32 (f : Int) 4 != 0) = decide (f / 4 % 2 = 1) := ask f 2 4 hf (by omega) rfl
  have h4 : (bits .and .u32 (f : Int) 8 != 0) = decide (f / 8 % 2 = 1) := ask f 3 8 hf (by omega) rfl
  unfold alu_Taken.f takS
  rw [h1, h0, h2, h3, h4, Bool.not_not]
  repeat' (split; rfl)
  rfl
/-- With signs. -/
def sgn (v : Nat) : Int := if 2147483648 ≤ v then (v : Int) - 4294967296 else v

theorem shl_eq (v : Int) (n : Nat) (h : n ≤ 32) : shl .u32 v n = v * 2 ^ n % 4294967296 := by
  unfold shl
  rw [wu32, Int.toNat_natCast, Nat.min_eq_left (show n ≤ IntKind.u32.bits from h)]
theorem shr_eq (k : IntKind) (v : Int) (n : Nat) (h : n ≤ k.bits) : shr k v n = v / 2 ^ n := by
  unfold shr
  rw [Int.toNat_natCast, Nat.min_eq_left h]
theorem two_split (n : Nat) (h : n ≤ 32) : 2 ^ n * 2 ^ (32 - n) = 4294967296 := by
  rw [← Nat.pow_add, show n + (32 - n) = 32 by omega]
theorem up_eq (v n : Nat) (h : n ≤ 32) : shl .u32 v n = ((2 ^ n * (v % 2 ^ (32 - n)) : Nat) : Int) := by
  rw [shl_eq v n h]
  have e : (v : Int) * 2 ^ n = ((2 ^ n * v : Nat) : Int) := by simp [Int.mul_comm]
  have e2 : (4294967296 : Int) = ((2 ^ n * 2 ^ (32 - n) : Nat) : Int) := by rw [two_split n h]; rfl
  rw [e, e2]
  have : ((2 ^ n * v : Nat) : Int) % ((2 ^ n * 2 ^ (32 - n) : Nat) : Int) = ((2 ^ n * v % (2 ^ n * 2 ^ (32 - n)) : Nat) : Int) := by simp
  rw [this, Nat.mul_mod_mul_left]
theorem up_lt (v n : Nat) (h : n ≤ 32) : 2 ^ n * (v % 2 ^ (32 - n)) < 4294967296 := by
  have h1 : v % 2 ^ (32 - n) + 1 ≤ 2 ^ (32 - n) := Nat.mod_lt _ (Nat.two_pow_pos _)
  have h2 := Nat.mul_le_mul_left (2 ^ n) h1
  have hp := Nat.two_pow_pos n
  rw [two_split n h, Nat.mul_add, Nat.mul_one] at h2
  omega
theorem down_eq (v n : Nat) (h : n ≤ 32) : shr .u32 v n = ((v / 2 ^ n : Nat) : Int) := by
  rw [shr_eq .u32 v n h]
  simp
theorem wi32_sgn (v : Nat) (hv : v < 4294967296) : IntKind.wrap .i32 (v : Int) = sgn v := by
  rw [wi32]; unfold sgn
  by_cases h : 2147483648 ≤ v
  · rw [if_pos h]; omega
  · rw [if_neg h]; omega
/-- What an operation makes: the answer, what the flags tell of, carry and over; or the error. -/
def resS (op : Int) (a b : Nat) : (Int × Int × Bool × Bool) ⊕ Int :=
  if op = 4 then .inl (((a : Int) + b) % 4294967296, ((a : Int) + b) % 4294967296, decide (4294967296 ≤ (a : Int) + b), (decide (2147483648 ≤ (a : Int)) == decide (2147483648 ≤ (b : Int))) && (decide (2147483648 ≤ ((a : Int) + b) % 4294967296) != decide (2147483648 ≤ (a : Int))))
  else if op = 5 then .inl (((a : Int) - b) % 4294967296, ((a : Int) - b) % 4294967296, decide ((a : Int) < b), (decide (2147483648 ≤ (a : Int)) != decide (2147483648 ≤ (b : Int))) && (decide (2147483648 ≤ ((a : Int) - b) % 4294967296) != decide (2147483648 ≤ (a : Int))))
  else if op = 16 then .inl ((a : Int), ((a : Int) - b) % 4294967296, decide ((a : Int) < b), (decide (2147483648 ≤ (a : Int)) != decide (2147483648 ≤ (b : Int))) && (decide (2147483648 ≤ ((a : Int) - b) % 4294967296) != decide (2147483648 ≤ (a : Int))))
  else if op = 6 then .inl ((a : Int) * b % 4294967296, (a : Int) * b % 4294967296, (a : Int) * b / 4294967296 != 0, false)
  else if op = 7 then (if b = 0 then .inr 14 else .inl (((a / b : Nat) : Int), ((a / b : Nat) : Int), false, false))
  else if op = 8 then (if b = 0 then .inr 14 else .inl (((a % b : Nat) : Int), ((a % b : Nat) : Int), false, false))
  else if op = 9 then .inl (((a &&& b : Nat) : Int), ((a &&& b : Nat) : Int), false, false)
  else if op = 10 then .inl (((a ||| b : Nat) : Int), ((a ||| b : Nat) : Int), false, false)
  else if op = 11 then .inl (((a ^^^ b : Nat) : Int), ((a ^^^ b : Nat) : Int), false, false)
  else if op = 12 then .inl (((2 ^ (b % 32) * (a % 2 ^ (32 - b % 32)) : Nat) : Int), ((2 ^ (b % 32) * (a % 2 ^ (32 - b % 32)) : Nat) : Int), false, false)
  else if op = 13 then .inl (((a / 2 ^ (b % 32) : Nat) : Int), ((a / 2 ^ (b % 32) : Nat) : Int), false, false)
  else if op = 14 then .inl (sgn a / 2 ^ (b % 32) % 4294967296, sgn a / 2 ^ (b % 32) % 4294967296, false, false)
  else .inr 22
theorem shift_up (a n : Nat) (hn : n < 32) : word_Shift.f (a : Int) (n : Int) = some ((2 ^ n * (a % 2 ^ (32 - n)) : Nat) : Int) := by
  have e : Int.tmod (IntKind.wrap .u64 (n : Int)) 32 = (n : Int) := by rw [wu64_id (by omega), tmod_pos (by omega)]; omega
  unfold word_Shift.f
  rw [if_neg (by omega), e, if_pos (by omega), up_eq a n (by omega)]
theorem shift_down (a n : Nat) (ha : a < 4294967296) (hn : n < 32) : word_Shift.f (a : Int) (IntKind.wrap .i64 (0 - (n : Int))) = some ((a / 2 ^ n : Nat) : Int) := by
  by_cases h0 : n = 0
  · subst h0
    have := shift_up a 0 (by omega)
    rw [show IntKind.wrap .i64 (0 - ((0 : Nat) : Int)) = ((0 : Nat) : Int) from rfl, this]
    congr 2
    rw [Nat.pow_zero, Nat.one_mul, Nat.div_one]
    exact Nat.mod_eq_of_lt (by omega)
  · have e0 : IntKind.wrap .i64 (0 - (n : Int)) = -(n : Int) := by rw [wi64 (by omega) (by omega)]; omega
    have e1 : IntKind.wrap .i64 (0 - -(n : Int)) = (n : Int) := by rw [wi64 (by omega) (by omega)]; omega
    have e : Int.tmod (IntKind.wrap .u64 (n : Int)) 32 = (n : Int) := by rw [wu64_id (by omega), tmod_pos (by omega)]; omega
    unfold word_Shift.f
    rw [e0, if_pos (by omega), e1, e, if_pos (by omega), down_eq a n (by omega)]
theorem sar_eq (a n : Nat) (ha : a < 4294967296) (hn : n < 32) : word_Sar.f (a : Int) (n : Int) = some (sgn a / 2 ^ n % 4294967296) := by
  have e : Int.tmod (IntKind.wrap .u64 (n : Int)) 32 = (n : Int) := by rw [wu64_id (by omega), tmod_pos (by omega)]; omega
  unfold word_Sar.f
  rw [e, if_pos (by omega), wi32_sgn a ha, shr_eq .i32 _ n (show n ≤ 32 by omega), wu32]
/-- An answer of so many flags. -/
def ansS (fl : Nat) : (Int × Int × Bool × Bool) ⊕ Int → Int × Int × Option Int
  | .inl r => (r.1, ((pairN r.2.1 r.2.2.1 r.2.2.2 + stN fl * 16 : Nat) : Int), none)
  | .inr e => (0, 0, some e)
theorem resS_bd (op : Int) (a b : Nat) (ha : a < 4294967296) (hb : b < 4294967296) (r : Int × Int × Bool × Bool) (h : resS op a b = .inl r) : 0 ≤ r.1 ∧ r.1 ≤ 4294967295 ∧ 0 ≤ r.2.1 ∧ r.2.1 ≤ 4294967295 := by
  have h9 : a &&& b < 4294967296 := Nat.and_lt_two_pow (n := 32) _ hb
  have h10 : a ||| b < 4294967296 := Nat.or_lt_two_pow (n := 32) ha hb
  have h11 : a ^^^ b < 4294967296 := Nat.xor_lt_two_pow (n := 32) ha hb
  have h12 := up_lt a (b % 32) (by omega)
  have h13 : a / 2 ^ (b % 32) ≤ a := Nat.div_le_self ..
  have h7 : a / b ≤ a := Nat.div_le_self ..
  have h8 : a % b ≤ a := Nat.mod_le ..
  unfold resS at h
  generalize 2 ^ (b % 32) * (a % 2 ^ (32 - b % 32)) = q12 at *
  generalize a / 2 ^ (b % 32) = q13 at *
  generalize sgn a / 2 ^ (b % 32) = q14 at *
  generalize (a : Int) * b = q6 at *
  generalize a / b = q7 at *
  generalize a % b = q8 at *
  generalize a &&& b = q9 at *
  generalize a ||| b = q10 at *
  generalize a ^^^ b = q11 at *
  by_cases c4 : op = 4
  · rw [if_pos c4] at h; exact (by obtain rfl := Sum.inl.inj h; refine ⟨?_, ?_, ?_, ?_⟩ <;> dsimp only <;> omega)
  rw [if_neg c4] at h
  by_cases c5 : op = 5
  · rw [if_pos c5] at h; exact (by obtain rfl := Sum.inl.inj h; refine ⟨?_, ?_, ?_, ?_⟩ <;> dsimp only <;> omega)
  rw [if_neg c5] at h
  by_cases c16 : op = 16
  · rw [if_pos c16] at h; exact (by obtain rfl := Sum.inl.inj h; refine ⟨?_, ?_, ?_, ?_⟩ <;> dsimp only <;> omega)
  rw [if_neg c16] at h
  by_cases c6 : op = 6
  · rw [if_pos c6] at h; exact (by obtain rfl := Sum.inl.inj h; refine ⟨?_, ?_, ?_, ?_⟩ <;> dsimp only <;> omega)
  rw [if_neg c6] at h
  by_cases c7 : op = 7
  · rw [if_pos c7] at h
    by_cases z : b = 0
    · rw [if_pos z] at h; cases h
    · rw [if_neg z] at h; exact (by obtain rfl := Sum.inl.inj h; refine ⟨?_, ?_, ?_, ?_⟩ <;> dsimp only <;> omega)
  rw [if_neg c7] at h
  by_cases c8 : op = 8
  · rw [if_pos c8] at h
    by_cases z : b = 0
    · rw [if_pos z] at h; cases h
    · rw [if_neg z] at h; exact (by obtain rfl := Sum.inl.inj h; refine ⟨?_, ?_, ?_, ?_⟩ <;> dsimp only <;> omega)
  rw [if_neg c8] at h
  by_cases c9 : op = 9
  · rw [if_pos c9] at h; exact (by obtain rfl := Sum.inl.inj h; refine ⟨?_, ?_, ?_, ?_⟩ <;> dsimp only <;> omega)
  rw [if_neg c9] at h
  by_cases c10 : op = 10
  · rw [if_pos c10] at h; exact (by obtain rfl := Sum.inl.inj h; refine ⟨?_, ?_, ?_, ?_⟩ <;> dsimp only <;> omega)
  rw [if_neg c10] at h
  by_cases c11 : op = 11
  · rw [if_pos c11] at h; exact (by obtain rfl := Sum.inl.inj h; refine ⟨?_, ?_, ?_, ?_⟩ <;> dsimp only <;> omega)
  rw [if_neg c11] at h
  by_cases c12 : op = 12
  · rw [if_pos c12] at h; exact (by obtain rfl := Sum.inl.inj h; refine ⟨?_, ?_, ?_, ?_⟩ <;> dsimp only <;> omega)
  rw [if_neg c12] at h
  by_cases c13 : op = 13
  · rw [if_pos c13] at h; exact (by obtain rfl := Sum.inl.inj h; refine ⟨?_, ?_, ?_, ?_⟩ <;> dsimp only <;> omega)
  rw [if_neg c13] at h
  by_cases c14 : op = 14
  · rw [if_pos c14] at h; exact (by obtain rfl := Sum.inl.inj h; refine ⟨?_, ?_, ?_, ?_⟩ <;> dsimp only <;> omega)
  rw [if_neg c14] at h
  cases h
theorem div_le (a b : Nat) (ha : a < 4294967296) : ((a / b : Nat) : Int) ≤ 4294967295 := by
  have hq : a / b ≤ a := Nat.div_le_self ..
  generalize a / b = q at *
  omega
theorem divw (a b : Nat) (ha : a < 4294967296) : IntKind.wrap .u32 (Int.tdiv (a : Int) (b : Int)) = ((a / b : Nat) : Int) := by
  have hq : a / b ≤ a := Nat.div_le_self ..
  have hc : (a : Int) / (b : Int) = ((a / b : Nat) : Int) := (Int.natCast_ediv a b).symm
  rw [tdiv_pos (by omega), hc]
  generalize a / b = q at *
  exact wu32_id (by omega)
theorem plain_tail (fl : Nat) (hfl : fl < 4294967296) (x : Int) (h0 : 0 ≤ x) (h1 : x ≤ 4294967295) : (alu_pair.f x false false).bind (fun t19 => some (x, (bits .or .u32 t19 (bits .and .u32 (fl : Int) (16 : Int))), (none : Option Int))) = some (ansS fl (.inl (x, x, false, false))) := by
  rw [pair_eq x h0 h1, bind_go, flag_or _ _ _ fl hfl]
  rfl
theorem Do_eq (op : Int) (a b fl : Nat) (ha : a < 4294967296) (hb : b < 4294967296) (hfl : fl < 4294967296) : alu_Do.f op (a : Int) (b : Int) (fl : Int) = some (ansS fl (resS op a b)) := by
  have hbd := resS_bd op a b ha hb
  have en : IntKind.wrap .i64 (Int.tmod (b : Int) 32) = ((b % 32 : Nat) : Int) := by rw [tmod_pos (by omega), wi64 (by omega) (by omega)]; omega
  unfold alu_Do.f alu_sums.f alu_parts.f alu_plain.f
  unfold resS at hbd ⊢
  by_cases h4 : op = 4
  · rw [if_pos h4] at hbd ⊢
    rw [if_pos h4, if_pos h4, add_eq _ _ (by omega) (by omega) (by omega) (by omega), bind_go]
    dsimp only
    rw [pair_eq _ (by omega) (by omega), bind_go, bind_go]
    dsimp only
    rw [flag_or _ _ _ fl hfl]
    rfl
  · rw [if_neg h4] at hbd ⊢
    rw [if_neg h4, if_neg h4]
    by_cases h5 : op = 5
    · subst h5
      rw [if_pos rfl, if_pos rfl, if_neg (by decide), sub_eq _ _ (by omega) (by omega) (by omega) (by omega), bind_go, if_neg (by decide)]
      dsimp only
      rw [pair_eq _ (by omega) (by omega), bind_go, bind_go]
      dsimp only
      rw [flag_or _ _ _ fl hfl]
      rfl
    · rw [if_neg h5] at hbd ⊢
      rw [if_neg h5]
      by_cases h16 : op = 16
      · subst h16
        rw [if_pos rfl, if_pos rfl, if_neg (by decide), sub_eq _ _ (by omega) (by omega) (by omega) (by omega), bind_go, if_pos rfl]
        dsimp only
        rw [pair_eq _ (by omega) (by omega), bind_go, bind_go]
        dsimp only
        rw [flag_or _ _ _ fl hfl]
        rfl
      · rw [if_neg h16] at hbd ⊢
        rw [if_neg h16]
        by_cases h6 : op = 6
        · subst h6
          have hm := mul_bd (a : Int) (b : Int) (by omega) (by omega) (by omega) (by omega)
          rw [if_pos rfl, if_pos rfl, if_pos rfl, mul_eq _ _ (by omega) (by omega) (by omega) (by omega), bind_go]
          dsimp only
          generalize (a : Int) * b = p at *
          rw [pair_eq _ (by omega) (by omega), bind_go, bind_go]
          dsimp only
          rw [flag_or _ _ _ fl hfl]
          rfl
        · rw [if_neg h6] at hbd ⊢
          rw [if_neg h6]
          unfold word_Div.f
          by_cases h7 : op = 7
          · subst h7
            rw [if_pos rfl, if_pos rfl]
            by_cases hb0 : b = 0
            · subst hb0
              rw [if_pos rfl, if_pos (show ((0 : Nat) : Int) = 0 from rfl), bind_go]
              dsimp only
              rw [if_pos (by simp), bind_go]
              dsimp only
              rw [if_pos (by simp)]
              rfl
            · have hz : ¬ (b : Int) = 0 := by omega
              have e1 := divw a b ha
              have e2 := div_le a b ha
              rw [if_neg hb0, if_neg hz, if_pos hz, if_pos hz, bind_go]
              dsimp only
              rw [if_neg (fun h => h rfl), if_neg (by decide), bind_go]
              dsimp only
              rw [if_neg (fun h => h rfl), e1]
              exact plain_tail fl hfl _ (Int.natCast_nonneg _) e2
          · rw [if_neg h7] at hbd ⊢
            rw [if_neg h7]
            by_cases h8 : op = 8
            · subst h8
              rw [if_pos rfl, if_pos rfl]
              by_cases hb0 : b = 0
              · subst hb0
                rw [if_pos rfl, if_pos (show ((0 : Nat) : Int) = 0 from rfl), bind_go]
                dsimp only
                rw [if_pos (by simp), bind_go]
                dsimp only
                rw [if_pos (by simp)]
                rfl
              · have hz : ¬ (b : Int) = 0 := by omega
                have hq : a % b ≤ a := Nat.mod_le ..
                have e1 : Int.tmod (a : Int) (b : Int) = ((a % b : Nat) : Int) := by
                  rw [tmod_pos (by omega), ← Int.natCast_emod]
                rw [if_neg hb0, if_neg hz, if_pos hz, if_pos hz, bind_go]
                dsimp only
                rw [if_neg (fun h => h rfl), if_pos rfl, bind_go]
                dsimp only
                rw [if_neg (fun h => h rfl), e1]
                exact plain_tail fl hfl _ (by omega) (by omega)
            · rw [if_neg h8] at hbd ⊢
              rw [if_neg h8, en]
              by_cases h9 : op = 9
              · rw [if_pos h9] at hbd ⊢
                have := hbd _ rfl
                rw [if_pos h9, bind_go]
                dsimp only at this ⊢
                rw [if_neg (fun h => h rfl), and32 a b ha hb]
                exact plain_tail fl hfl _ (by omega) (by omega)
              · rw [if_neg h9] at hbd ⊢
                rw [if_neg h9]
                by_cases h10 : op = 10
                · rw [if_pos h10] at hbd ⊢
                  have := hbd _ rfl
                  rw [if_pos h10, bind_go]
                  dsimp only at this ⊢
                  rw [if_neg (fun h => h rfl), or32 a b ha hb]
                  exact plain_tail fl hfl _ (by omega) (by omega)
                · rw [if_neg h10] at hbd ⊢
                  rw [if_neg h10]
                  by_cases h11 : op = 11
                  · rw [if_pos h11] at hbd ⊢
                    have := hbd _ rfl
                    rw [if_pos h11, bind_go]
                    dsimp only at this ⊢
                    rw [if_neg (fun h => h rfl), xor32 a b ha hb]
                    exact plain_tail fl hfl _ (by omega) (by omega)
                  · rw [if_neg h11] at hbd ⊢
                    rw [if_neg h11]
                    by_cases h12 : op = 12
                    · rw [if_pos h12] at hbd ⊢
                      have := hbd _ rfl
                      rw [if_pos h12, shift_up a (b % 32) (by omega), bind_go, bind_go]
                      dsimp only at this ⊢
                      rw [if_neg (fun h => h rfl)]
                      exact plain_tail fl hfl _ this.1 this.2.1
                    · rw [if_neg h12] at hbd ⊢
                      rw [if_neg h12]
                      by_cases h13 : op = 13
                      · rw [if_pos h13] at hbd ⊢
                        have := hbd _ rfl
                        rw [if_pos h13, shift_down a (b % 32) ha (by omega), bind_go, bind_go]
                        dsimp only at this ⊢
                        rw [if_neg (fun h => h rfl)]
                        exact plain_tail fl hfl _ this.1 this.2.1
                      · rw [if_neg h13] at hbd ⊢
                        rw [if_neg h13]
                        by_cases h14 : op = 14
                        · rw [if_pos h14] at hbd ⊢
                          have := hbd _ rfl
                          rw [if_pos h14, sar_eq a (b % 32) ha (by omega), bind_go, bind_go]
                          dsimp only at this ⊢
                          rw [if_neg (fun h => h rfl)]
                          exact plain_tail fl hfl _ this.1 this.2.1
                        · rw [if_neg h14, if_neg h14, bind_go]
                          dsimp only
                          rw [if_pos (by simp)]
                          rfl
theorem num_some (e : Int) : num.f (some e) = some e := rfl
theorem num_none : num.f none = some 0 := rfl
theorem sure_t : halterlaw11_sure.f = some true := by kernel_rfl
theorem b1 (b : Bool) : decide (b.toNat = 1) = b := by cases b <;> rfl

theorem beyond_eq (x : Int) : halterref01_beyond.f x = some (decide (x < -2147483648 ∨ 2147483648 ≤ x)) := by
  unfold halterref01_beyond.f
  by_cases h : x < -2147483648
  · rw [if_pos h]; simp [h]
  · rw [if_neg h]; simp [h]
theorem of_eq (x : Int) : halterref01_Of.f x = some (x % 4294967296) := by
  unfold halterref01_Of.f
  have h : Int.tmod x 4294967296 = if 0 ≤ x then x % 4294967296 else -((-x) % 4294967296) := by
    by_cases h0 : 0 ≤ x
    · rw [if_pos h0, tmod_pos h0]
    · rw [if_neg h0]
      have := Int.neg_tmod (-x) 4294967296
      rw [Int.neg_neg] at this
      rw [this, tmod_pos (by omega)]
  rw [h]
  by_cases h0 : 0 ≤ x
  · rw [if_pos h0, if_neg (by omega), wu32]
    congr 1
    omega
  · rw [if_neg h0]
    by_cases h1 : -((-x) % 4294967296) < 0
    · rw [if_pos h1, wi64 (by omega) (by omega), wu32]
      congr 1
      omega
    · rw [if_neg h1, wu32]
      congr 1
      omega
theorem sign_eq (v : Nat) (hv : v < 4294967296) : halterref01_Sign.f (v : Int) = some (sgn v) := by
  unfold halterref01_Sign.f sgn
  rw [wi64 (x := (v : Int)) (by omega) (by omega)]
  by_cases h : 2147483648 ≤ v
  · rw [if_pos (by omega), if_pos h, wi64 (by omega) (by omega)]
  · rw [if_neg (by omega), if_neg h]
theorem sgn_bd (v : Nat) (hv : v < 4294967296) : -2147483648 ≤ sgn v ∧ sgn v ≤ 2147483647 ∧ sgn v % 4294967296 = v := by
  unfold sgn
  by_cases h : 2147483648 ≤ v
  · rw [if_pos h]; omega
  · rw [if_neg h]; omega
theorem refadd_eq (a b : Nat) (ha : a < 4294967296) (hb : b < 4294967296) :
    halterref01_Add.f (a : Int) (b : Int) false = some (((a : Int) + b) % 4294967296, decide (4294967296 ≤ (a : Int) + b), (decide (2147483648 ≤ (a : Int)) == decide (2147483648 ≤ (b : Int))) && (decide (2147483648 ≤ ((a : Int) + b) % 4294967296) != decide (2147483648 ≤ (a : Int)))) := by
  have sa := sgn_bd a ha
  have sb := sgn_bd b hb
  unfold halterref01_Add.f
  rw [if_neg (by simp), wi64 (x := (a : Int)) (by omega) (by omega), wi64 (x := (b : Int)) (by omega) (by omega), wi64 (x := (a : Int) + b) (by omega) (by omega), wi64 (x := (a : Int) + b + 0) (by omega) (by omega), of_eq, bind_go, sign_eq a ha, bind_go, sign_eq b hb, bind_go, wi64 (x := sgn a + sgn b) (by omega) (by omega), wi64 (x := sgn a + sgn b + 0) (by omega) (by omega), beyond_eq, bind_go, Int.add_zero, Int.add_zero]
  congr 1
  simp only [Prod.mk.injEq, true_and, ge_iff_le]
  rw [Bool.eq_iff_iff]
  simp only [decide_eq_true_eq, Bool.and_eq_true, beq_iff_eq, bne_iff_ne, ne_eq, decide_eq_decide]
  clear sa sb
  unfold sgn
  split <;> split <;> omega
theorem refsub_eq (a b : Nat) (ha : a < 4294967296) (hb : b < 4294967296) :
    halterref01_Sub.f (a : Int) (b : Int) = some (((a : Int) - b) % 4294967296, decide ((a : Int) < b), (decide (2147483648 ≤ (a : Int)) != decide (2147483648 ≤ (b : Int))) && (decide (2147483648 ≤ ((a : Int) - b) % 4294967296) != decide (2147483648 ≤ (a : Int)))) := by
  have sa := sgn_bd a ha
  have sb := sgn_bd b hb
  unfold halterref01_Sub.f
  rw [wi64 (x := (a : Int)) (by omega) (by omega), wi64 (x := (b : Int)) (by omega) (by omega), wi64 (x := (a : Int) - b) (by omega) (by omega), of_eq, bind_go, sign_eq a ha, bind_go, sign_eq b hb, bind_go, wi64 (x := sgn a - sgn b) (by omega) (by omega), beyond_eq, bind_go]
  congr 1
  simp only [Prod.mk.injEq, true_and]
  rw [Bool.eq_iff_iff]
  simp only [decide_eq_true_eq, Bool.and_eq_true, bne_iff_ne, ne_eq, decide_eq_decide]
  clear sa sb
  unfold sgn
  split <;> split <;> omega
theorem pow_bd (n : Nat) (h : n ≤ 62) : 0 < 2 ^ n ∧ 2 ^ n ≤ 4611686018427387904 :=
  ⟨Nat.two_pow_pos n, Nat.pow_le_pow_right (by decide) h⟩
theorem power_loop (n : Nat) (hn : n ≤ 62) (d : Nat) : ∀ (k i : Nat), n - i = d → i ≤ n → d < k → halterref01_Power.l0 (n : Int) k ((2 ^ i : Nat) : Int) (i : Int) = some ((2 ^ n : Nat) : Int) := by
  induction d with
  | zero =>
    intro k i hd hi hk
    obtain ⟨k, rfl⟩ := fuel_step hk
    obtain rfl : i = n := by omega
    rw [halterref01_Power.l0, if_neg (by omega)]
  | succ d ih =>
    intro k i hd hi hk
    obtain ⟨k, rfl⟩ := fuel_step hk
    have hp := pow_bd (i + 1) (by omega)
    have e : (2 : Int) * ((2 ^ i : Nat) : Int) = ((2 ^ (i + 1) : Nat) : Int) := by rw [Nat.pow_succ]; omega
    rw [halterref01_Power.l0, if_pos (by omega), e, wi64 (x := ((2 ^ (i + 1) : Nat) : Int)) (by omega) (by omega), wsucc (by omega)]
    exact ih k (i + 1) (by omega) (by omega) (by omega)
theorem power_eq (n : Nat) (hn : n ≤ 62) : halterref01_Power.f (n : Int) = some ((2 ^ n : Nat) : Int) := by
  have := power_loop n hn n FUEL 0 (by omega) (by omega) (fuel_gt (by omega))
  have z0 : ((0 : Nat) : Int) = 0 := rfl
  rw [Nat.pow_zero, z0] at this
  unfold halterref01_Power.f
  rw [show halterref01_Power.l0 (n : Int) FUEL 1 0 = _ from this, bind_go]
theorem bit_at (b P : Nat) (hb : b ≤ 4294967295) (hP : 0 < P) : Int.tmod (IntKind.wrap .i64 (Int.tdiv (IntKind.wrap .i64 (b : Int)) (P : Int))) 2 = ((b / P % 2 : Nat) : Int) := by
  have hq : b / P ≤ 4294967295 := Nat.le_trans (Nat.div_le_self _ _) hb
  rw [wi64 (x := (b : Int)) (by omega) (by omega), tdiv_pos (by omega)]
  have e1 : (b : Int) / (P : Int) = ((b / P : Nat) : Int) := by simp
  rw [e1]
  clear e1
  generalize b / P = q at *
  rw [wi64 (x := (q : Int)) (by omega) (by omega), tmod_pos (by omega)]
  omega
theorem sum_step (T n : Nat) (hT : T + n ≤ 18446744065119617025) (hn : n ≤ 4611686017353646080) :
    Int.tmod (IntKind.wrap .i64 ((T : Int) % 4294967296 + Int.tmod (IntKind.wrap .i64 (n : Int)) 4294967296)) 4294967296 = ((T + n : Nat) : Int) % 4294967296 ∧
    IntKind.wrap .i64 (IntKind.wrap .i64 ((T : Int) / 4294967296 + IntKind.wrap .i64 (Int.tdiv (IntKind.wrap .i64 (n : Int)) 4294967296)) + IntKind.wrap .i64 (Int.tdiv (IntKind.wrap .i64 ((T : Int) % 4294967296 + Int.tmod (IntKind.wrap .i64 (n : Int)) 4294967296)) 4294967296)) = ((T + n : Nat) : Int) / 4294967296 := by
  rw [wi64 (x := (n : Int)) (by omega) (by omega), tmod_pos (a := (n : Int)) (by omega), tdiv_pos (a := (n : Int)) (by omega), wi64 (x := (T : Int) % 4294967296 + (n : Int) % 4294967296) (by omega) (by omega), tmod_pos (by omega), tdiv_pos (by omega), wi64 (x := (n : Int) / 4294967296) (by omega) (by omega), wi64 (x := (T : Int) / 4294967296 + (n : Int) / 4294967296) (by omega) (by omega), wi64 (x := ((T : Int) % 4294967296 + (n : Int) % 4294967296) / 4294967296) (by omega) (by omega), wi64 (by omega) (by omega)]
  constructor <;> omega
theorem last_step (T a : Nat) (hT : T + a * 2147483648 ≤ 18446744065119617025) (ha : a ≤ 4294967295) :
    Int.tmod (IntKind.wrap .i64 ((T : Int) % 4294967296 + IntKind.wrap .i64 (Int.tmod (IntKind.wrap .i64 (a : Int)) 2 * 2147483648))) 4294967296 = ((T + a * 2147483648 : Nat) : Int) % 4294967296 ∧
    IntKind.wrap .i64 (IntKind.wrap .i64 ((T : Int) / 4294967296 + IntKind.wrap .i64 (Int.tdiv (IntKind.wrap .i64 (a : Int)) 2)) + IntKind.wrap .i64 (Int.tdiv (IntKind.wrap .i64 ((T : Int) % 4294967296 + IntKind.wrap .i64 (Int.tmod (IntKind.wrap .i64 (a : Int)) 2 * 2147483648))) 4294967296)) = ((T + a * 2147483648 : Nat) : Int) / 4294967296 := by
  rw [wi64 (x := (a : Int)) (by omega) (by omega), tmod_pos (a := (a : Int)) (by omega), tdiv_pos (a := (a : Int)) (by omega), wi64 (x := (a : Int) % 2 * 2147483648) (by omega) (by omega), wi64 (x := (T : Int) % 4294967296 + (a : Int) % 2 * 2147483648) (by omega) (by omega), tmod_pos (by omega), tdiv_pos (by omega), wi64 (x := (a : Int) / 2) (by omega) (by omega), wi64 (x := (T : Int) / 4294967296 + (a : Int) / 2) (by omega) (by omega), wi64 (x := ((T : Int) % 4294967296 + (a : Int) % 2 * 2147483648) / 4294967296) (by omega) (by omega), wi64 (by omega) (by omega)]
  constructor <;> omega
theorem prod_step (a P : Nat) (ha : a ≤ 4294967295) : IntKind.wrap .i64 (a : Int) * (P : Int) = ((a * P : Nat) : Int) := by
  rw [wi64 (by omega) (by omega)]; simp
theorem refmul_round (a b k i T : Nat) (ha : a ≤ 4294967295) (hb : b ≤ 4294967295) (hi : i < 32) (hT : T + a * 2 ^ i * (b / 2 ^ i % 2) ≤ 18446744065119617025) :
    halterref01_Mul.l0 (a : Int) (b : Int) (k + 1) ((T : Int) % 4294967296) ((T : Int) / 4294967296) (i : Int) = halterref01_Mul.l0 (a : Int) (b : Int) k (((T + a * 2 ^ i * (b / 2 ^ i % 2) : Nat) : Int) % 4294967296) (((T + a * 2 ^ i * (b / 2 ^ i % 2) : Nat) : Int) / 4294967296) ((i + 1 : Nat) : Int) := by
  have hP := Nat.two_pow_pos i
  have hp := power_eq i (by omega)
  rw [halterref01_Mul.l0, if_pos (show (i : Int) < 32 by omega), hp, bind_go, if_pos (show ((2 ^ i : Nat) : Int) ≠ 0 by omega), bit_at b (2 ^ i) hb hP, wsucc (by omega)]
  rcases Nat.mod_two_eq_zero_or_one (b / 2 ^ i) with h | h
  · rw [h, if_pos (by decide)]
    simp
  · rw [h] at hT
    rw [h, if_neg (by decide), bind_go, prod_step a (2 ^ i) ha]
    rw [Nat.mul_one] at hT ⊢
    by_cases hlast : i < 31
    · have hP2 : 2 ^ i ≤ 2 ^ 30 := Nat.pow_le_pow_right (by decide) (by omega)
      have hn : a * 2 ^ i ≤ 4294967295 * 2 ^ 30 := Nat.mul_le_mul ha hP2
      rw [if_pos (show (i : Int) < 31 by omega)]
      obtain ⟨s1, s2⟩ := sum_step T (a * 2 ^ i) hT hn
      rw [s1, s2]
    · obtain rfl : i = 31 := by omega
      rw [if_neg (by decide)]
      obtain ⟨s1, s2⟩ := last_step T a hT ha
      rw [s1, s2]
theorem refmul_loop (a b : Nat) (ha : a ≤ 4294967295) (hb : b ≤ 4294967295) (d : Nat) : ∀ (k i : Nat), 32 - i = d → i ≤ 32 → d < k →
    halterref01_Mul.l0 (a : Int) (b : Int) k (((a * (b % 2 ^ i) : Nat) : Int) % 4294967296) (((a * (b % 2 ^ i) : Nat) : Int) / 4294967296) (i : Int) = some (((a * b : Nat) : Int) % 4294967296, ((a * b : Nat) : Int) / 4294967296) := by
  induction d with
  | zero =>
    intro k i hd hi hk
    obtain ⟨k, rfl⟩ := fuel_step hk
    obtain rfl : i = 32 := by omega
    rw [Nat.mod_eq_of_lt (show b < 2 ^ 32 by omega), halterref01_Mul.l0, if_neg (by decide)]
  | succ d ih =>
    intro k i hd hi hk
    obtain ⟨k, rfl⟩ := fuel_step hk
    have hmm : b % 2 ^ (i + 1) = b % 2 ^ i + 2 ^ i * (b / 2 ^ i % 2) := by rw [Nat.pow_succ, Nat.mod_mul]
    have hT : a * (b % 2 ^ (i + 1)) = a * (b % 2 ^ i) + a * 2 ^ i * (b / 2 ^ i % 2) := by rw [hmm, Nat.mul_add, Nat.mul_assoc]
    have hle : a * (b % 2 ^ (i + 1)) ≤ 4294967295 * 4294967295 := Nat.mul_le_mul ha (Nat.le_trans (Nat.mod_le b (2 ^ (i + 1))) hb)
    have hI := ih k (i + 1) (by omega) (by omega) (by omega)
    rw [hT] at hI hle
    rw [refmul_round a b k i (a * (b % 2 ^ i)) ha hb (by omega) hle]
    exact hI
theorem refmul_eq (a b : Nat) (ha : a < 4294967296) (hb : b < 4294967296) : halterref01_Mul.f (a : Int) (b : Int) = some ((a : Int) * b % 4294967296, (a : Int) * b / 4294967296) := by
  have h := refmul_loop a b (by omega) (by omega) 32 FUEL 0 (by omega) (by omega) (fuel_gt (by omega))
  have e : ((a * (b % 2 ^ 0) : Nat) : Int) = 0 := by simp [Nat.mod_one]
  have hm := mul_bd (a : Int) (b : Int) (by omega) (by omega) (by omega) (by omega)
  have z0 : ((0 : Nat) : Int) = 0 := rfl
  have hab : ((a * b : Nat) : Int) = (a : Int) * b := by simp
  rw [e, z0, hab] at h
  unfold halterref01_Mul.f
  rw [show halterref01_Mul.l0 (a : Int) (b : Int) FUEL 0 0 0 = _ from h, bind_go]
  dsimp only
  generalize (a : Int) * b = p at *
  rw [wu32_id (by omega), wu32_id (by omega)]
theorem rflags_eq (v : Int) (h0 : 0 ≤ v) (h1 : v ≤ 4294967295) (c o : Bool) (fl : Nat) (hfl : fl < 4294967296) : halterref11_flags.f v c o (fl : Int) = some ((pairN v c o + stN fl * 16 : Nat) : Int) := by
  have hst : Int.tmod (IntKind.wrap .u32 (Int.tdiv (fl : Int) 16)) 2 = ((stN fl : Nat) : Int) := by
    rw [tdiv_pos (by omega), wu32_id (by omega), tmod_pos (by omega)]; unfold stN; omega
  have hs := stN_lt fl
  unfold halterref11_flags.f
  rw [hst]
  unfold pairN
  generalize stN fl = s at *
  by_cases hz : v = 0
  · have ht : ¬ v ≥ 2147483648 := by omega
    rw [if_pos hz, if_neg ht, decide_eq_true hz, decide_eq_false (show ¬ 2147483648 ≤ v from ht)]
    cases c <;> cases o <;> (obtain h | h : s = 0 ∨ s = 1 := by omega) <;> subst h <;> decide +kernel
  · rw [if_neg hz, decide_eq_false hz]
    by_cases ht : v ≥ 2147483648
    · rw [if_pos ht, decide_eq_true (show 2147483648 ≤ v from ht)]
      cases c <;> cases o <;> (obtain h | h : s = 0 ∨ s = 1 := by omega) <;> subst h <;> decide +kernel
    · rw [if_neg ht, decide_eq_false (show ¬ 2147483648 ≤ v from ht)]
      cases c <;> cases o <;> (obtain h | h : s = 0 ∨ s = 1 := by omega) <;> subst h <;> decide +kernel
/-- Bit by bit. -/
theorem bit_step (a b : Nat) (ha : a < 4294967296) (hb : b < 4294967296) (how : Int) (n i x : Nat) (hi : i < 32) (hx : x < 2147483648) (y : Nat) (hy : y < 2)
    (hc : (how = 0 ∧ (y = 1 ↔ a / 2 ^ i % 2 + b / 2 ^ i % 2 = 2)) ∨ (how = 1 ∧ (y = 1 ↔ a / 2 ^ i % 2 + b / 2 ^ i % 2 > 0)) ∨ (how = 2 ∧ (y = 1 ↔ a / 2 ^ i % 2 + b / 2 ^ i % 2 = 1))) :
    halterref11_bit.l0 (a : Int) (b : Int) how (n + 1) (x : Int) (i : Int) = halterref11_bit.l0 (a : Int) (b : Int) how n ((2 * x + y : Nat) : Int) ((i : Int) - 1) := by
  have hP := Nat.two_pow_pos i
  have hp := power_eq i (by omega)
  have hne : ((2 ^ i : Nat) : Int) ≠ 0 := by omega
  have e1 : IntKind.wrap .u32 ((2 : Int) * (x : Int)) = ((2 * x : Nat) : Int) := by rw [wu32_id (by omega)]; omega
  have e2 : IntKind.wrap .u32 (((2 * x : Nat) : Int) + 1) = ((2 * x + 1 : Nat) : Int) := by rw [wu32_id (by omega)]; omega
  have e3 : IntKind.wrap .i64 ((i : Int) - 1) = (i : Int) - 1 := wi64 (by omega) (by omega)
  rw [halterref11_bit.l0, if_pos (by omega), hp, bind_go, if_pos hne, bind_go, if_pos hne, bit_at a (2 ^ i) (by omega) hP, bit_at b (2 ^ i) (by omega) hP, e1, e2, e3]
  have hu : a / 2 ^ i % 2 < 2 := Nat.mod_lt _ (by omega)
  have hv : b / 2 ^ i % 2 < 2 := Nat.mod_lt _ (by omega)
  generalize a / 2 ^ i % 2 = u at *
  generalize b / 2 ^ i % 2 = v at *
  rw [wi64 (x := (u : Int) + (v : Int)) (by omega) (by omega)]
  have hy' : y = 0 ∨ y = 1 := by omega
  rcases hc with ⟨rfl, hc⟩ | ⟨rfl, hc⟩ | ⟨rfl, hc⟩
  · rw [if_pos rfl]
    rcases hy' with rfl | rfl
    · rw [if_neg (by omega), if_neg (by decide), if_neg (by decide), Nat.add_zero]
    · rw [if_pos (by omega)]
  · rw [if_neg (by decide), if_pos rfl]
    rcases hy' with rfl | rfl
    · rw [if_neg (by omega), if_neg (by decide), Nat.add_zero]
    · rw [if_pos (by omega)]
  · rw [if_neg (by decide), if_neg (by decide), if_pos rfl]
    rcases hy' with rfl | rfl
    · rw [if_neg (by omega), Nat.add_zero]
    · rw [if_pos (by omega)]
theorem bit_loop (a b R : Nat) (ha : a < 4294967296) (hb : b < 4294967296) (hR : R < 4294967296) (how : Int)
    (hc : ∀ i, i < 32 → (how = 0 ∧ (R / 2 ^ i % 2 = 1 ↔ a / 2 ^ i % 2 + b / 2 ^ i % 2 = 2)) ∨ (how = 1 ∧ (R / 2 ^ i % 2 = 1 ↔ a / 2 ^ i % 2 + b / 2 ^ i % 2 > 0)) ∨ (how = 2 ∧ (R / 2 ^ i % 2 = 1 ↔ a / 2 ^ i % 2 + b / 2 ^ i % 2 = 1))) :
    ∀ (m n : Nat), m ≤ 32 → m < n → halterref11_bit.l0 (a : Int) (b : Int) how n ((R / 2 ^ m : Nat) : Int) ((m : Int) - 1) = some (R : Int) := by
  intro m
  induction m with
  | zero =>
    intro n hm hn
    obtain ⟨q, rfl⟩ := fuel_step hn
    rw [halterref11_bit.l0, if_neg (by omega), Nat.pow_zero, Nat.div_one]
  | succ m ih =>
    intro n hm hn
    obtain ⟨q, rfl⟩ := fuel_step hn
    have e : R / 2 ^ m = 2 * (R / 2 ^ (m + 1)) + R / 2 ^ m % 2 := by
      rw [Nat.pow_succ, ← Nat.div_div_eq_div_mul]
      generalize R / 2 ^ m = r
      omega
    have hx : R / 2 ^ (m + 1) < 2147483648 := by
      have : R / 2 ^ m ≤ R := Nat.div_le_self ..
      omega
    have ei : ((m + 1 : Nat) : Int) - 1 = (m : Int) := by omega
    rw [ei, bit_step a b ha hb how q m (R / 2 ^ (m + 1)) (by omega) hx (R / 2 ^ m % 2) (Nat.mod_lt _ (by omega)) (hc m (by omega)), ← e]
    exact ih q (by omega) (by omega)
theorem tb (x i : Nat) : x / 2 ^ i % 2 = (x.testBit i).toNat := by
  have : x / 2 ^ i % 2 < 2 := Nat.mod_lt _ (by omega)
  rw [Nat.testBit_eq_decide_div_mod_eq]
  by_cases h : x / 2 ^ i % 2 = 1
  · rw [decide_eq_true h, h]; rfl
  · rw [decide_eq_false h]; show _ = 0; omega
theorem rbit (a b R : Nat) (ha : a < 4294967296) (hb : b < 4294967296) (hR : R < 4294967296) (how : Int)
    (hc : (how = 0 ∧ R = a &&& b) ∨ (how = 1 ∧ R = a ||| b) ∨ (how = 2 ∧ R = a ^^^ b)) : halterref11_bit.f (a : Int) (b : Int) how = some (R : Int) := by
  have h := bit_loop a b R ha hb hR how (fun i hi => by
    rw [tb, tb, tb]
    rcases hc with ⟨rfl, rfl⟩ | ⟨rfl, rfl⟩ | ⟨rfl, rfl⟩
    · refine Or.inl ⟨rfl, ?_⟩
      rw [Nat.testBit_and]
      cases a.testBit i <;> cases b.testBit i <;> decide
    · refine Or.inr (Or.inl ⟨rfl, ?_⟩)
      rw [Nat.testBit_or]
      cases a.testBit i <;> cases b.testBit i <;> decide
    · refine Or.inr (Or.inr ⟨rfl, ?_⟩)
      rw [Nat.testBit_xor]
      cases a.testBit i <;> cases b.testBit i <;> decide) 32 FUEL (by omega) (fuel_gt (by omega))
  have e0 : R / 2 ^ 32 = 0 := Nat.div_eq_of_lt (by omega)
  rw [e0] at h
  unfold halterref11_bit.f
  rw [show halterref11_bit.l0 (a : Int) (b : Int) how FUEL 0 31 = _ from h, bind_go]
theorem low_eq (n : Nat) (hn : n < 32) : halterref01_low.f (n : Int) = some (n : Int) := by
  unfold halterref01_low.f
  have e : Int.tmod (n : Int) 32 = (n : Int) := by rw [tmod_pos (by omega)]; omega
  rw [e, if_neg (by omega)]
theorem half_step (y : Int) (h0 : -2147483648 ≤ y) (h1 : y ≤ 2147483647) :
    IntKind.wrap .u32 (IntKind.wrap .i64 (IntKind.wrap .i64 (Int.tdiv (IntKind.wrap .i64 (y % 4294967296)) 2) + IntKind.wrap .i64 (IntKind.wrap .i64 (Int.tdiv (IntKind.wrap .i64 (y % 4294967296)) 2147483648) * 2147483648))) = (y / 2) % 4294967296 := by
  rw [wi64 (x := y % 4294967296) (by omega) (by omega), tdiv_pos (by omega), tdiv_pos (by omega), wi64 (x := y % 4294967296 / 2) (by omega) (by omega), wi64 (x := y % 4294967296 / 2147483648) (by omega) (by omega), wi64 (x := y % 4294967296 / 2147483648 * 2147483648) (by omega) (by omega), wi64 (by omega) (by omega), wu32]
  omega
theorem sar_bd (y : Int) (i : Nat) (h0 : -2147483648 ≤ y) (h1 : y ≤ 2147483647) : -2147483648 ≤ y / 2 ^ i ∧ y / 2 ^ i ≤ 2147483647 := by
  have hP : (0 : Int) < 2 ^ i := by have := Nat.two_pow_pos i; have c : ((2 ^ i : Nat) : Int) = 2 ^ i := by simp
                                    omega
  generalize (2 : Int) ^ i = P at *
  constructor
  · rw [Int.le_ediv_iff_mul_le hP]
    have : -2147483648 * P ≤ -2147483648 * 1 := Int.mul_le_mul_of_nonpos_left (by decide) hP
    omega
  · have : y / P < 2147483648 := by
      rw [Int.ediv_lt_iff_lt_mul hP]
      have : 2147483648 * 1 ≤ 2147483648 * P := Int.mul_le_mul_of_nonneg_left hP (by decide)
      omega
    omega
theorem sar_loop (v n : Nat) (hv : v < 4294967296) (hn : n < 32) (d : Nat) :
    ∀ (k i : Nat), n - i = d → i ≤ n → d < k → halterref01_Sar.l0 (n : Int) k (sgn v / 2 ^ i % 4294967296) (i : Int) = some (sgn v / 2 ^ n % 4294967296) := by
  induction d with
  | zero =>
    intro k i hd hi hk
    obtain ⟨k, rfl⟩ := fuel_step hk
    obtain rfl : i = n := by omega
    rw [halterref01_Sar.l0, low_eq i hn, bind_go, if_neg (show ¬ ((i : Int) < (i : Int)) by omega)]
  | succ d ih =>
    intro k i hd hi hk
    obtain ⟨k, rfl⟩ := fuel_step hk
    obtain ⟨s0, s1, _⟩ := sgn_bd v hv
    obtain ⟨b0, b1⟩ := sar_bd (sgn v) i s0 s1
    have e : sgn v / 2 ^ (i + 1) = sgn v / 2 ^ i / 2 := by
      rw [Int.pow_succ]
      exact (Int.ediv_ediv_of_nonneg (Int.pow_nonneg (by decide))).symm
    have hI := ih k (i + 1) (by omega) (by omega) (by omega)
    rw [e] at hI
    rw [halterref01_Sar.l0, low_eq n hn, bind_go, if_pos (show (i : Int) < (n : Int) by omega), half_step _ b0 b1, wsucc (by omega)]
    exact hI
theorem refsar_eq (v n : Nat) (hv : v < 4294967296) (hn : n < 32) : halterref01_Sar.f (v : Int) (n : Int) = some (sgn v / 2 ^ n % 4294967296) := by
  have h := sar_loop v n hv hn n FUEL 0 (by omega) (by omega) (fuel_gt (by omega))
  have e : sgn v / 2 ^ 0 % 4294967296 = (v : Int) := by
    rw [Int.pow_zero, Int.ediv_one]
    exact (sgn_bd v hv).2.2
  rw [e] at h
  unfold halterref01_Sar.f
  rw [show halterref01_Sar.l0 (n : Int) FUEL (v : Int) 0 = _ from h, bind_go]

/-- The reference's answer. -/
def ansR (fl : Nat) : (Int × Int × Bool × Bool) ⊕ Int → Int × Int × Int
  | .inl r => (r.1, ((pairN r.2.1 r.2.2.1 r.2.2.2 + stN fl * 16 : Nat) : Int), 0)
  | .inr e => (0, 0, e)
theorem rtail (fl : Nat) (hfl : fl < 4294967296) (x : Int) (h0 : 0 ≤ x) (h1 : x ≤ 4294967295) : (halterref11_flags.f x false false (fl : Int)).bind (fun t => some (x, t, (0 : Int))) = some (ansR fl (.inl (x, x, false, false))) := by
  rw [rflags_eq x h0 h1 _ _ fl hfl, bind_go]
  rfl
theorem remw (a b : Nat) (ha : a < 4294967296) (hb : 0 < b) (hb2 : b < 4294967296) : IntKind.wrap .u32 ((a : Int) - IntKind.wrap .u32 (IntKind.wrap .u32 (Int.tdiv (a : Int) (b : Int)) * (b : Int))) = ((a % b : Nat) : Int) := by
  rw [divw a b ha]
  have h1 := Nat.div_add_mod a b
  have h2 : ((a / b : Nat) : Int) * (b : Int) = ((b * (a / b) : Nat) : Int) := by simp [Int.mul_comm]
  have h3 : a % b < b := Nat.mod_lt _ hb
  rw [h2]
  generalize b * (a / b) = q at *
  rw [wu32_id (x := (q : Int)) (by omega), wu32_id (by omega)]
  omega
theorem RDo_eq (op : Int) (a b fl : Nat) (ha : a < 4294967296) (hb : b < 4294967296) (hfl : fl < 4294967296) : halterref11_Do.f op (a : Int) (b : Int) (fl : Int) = some (ansR fl (resS op a b)) := by
  have hbd := resS_bd op a b ha hb
  have hn : b % 32 < 32 := Nat.mod_lt _ (by omega)
  have en : IntKind.wrap .i64 (Int.tmod (b : Int) 32) = ((b % 32 : Nat) : Int) := by rw [tmod_pos (by omega), wi64 (by omega) (by omega)]; omega
  unfold halterref11_Do.f
  unfold resS at hbd ⊢
  by_cases h4 : op = 4
  · rw [if_pos h4, if_pos h4, refadd_eq a b ha hb, bind_go]
    dsimp only
    rw [rflags_eq _ (by omega) (by omega) _ _ fl hfl, bind_go]
    rfl
  · rw [if_neg h4] at hbd ⊢
    rw [if_neg h4]
    by_cases h5 : op = 5
    · rw [if_pos h5, if_pos h5, refsub_eq a b ha hb, bind_go]
      dsimp only
      rw [rflags_eq _ (by omega) (by omega) _ _ fl hfl, bind_go]
      rfl
    · rw [if_neg h5] at hbd ⊢
      rw [if_neg h5]
      by_cases h16 : op = 16
      · subst h16
        rw [if_pos rfl, if_neg (by decide), if_neg (by decide), if_neg (by decide), if_neg (by decide), if_neg (by decide), if_neg (by decide), if_neg (by decide), if_neg (by decide), if_neg (by decide), if_pos rfl, refsub_eq a b ha hb, bind_go]
        dsimp only
        rw [rflags_eq _ (by omega) (by omega) _ _ fl hfl, bind_go]
        rfl
      · rw [if_neg h16] at hbd
        rw [if_neg h16, if_neg h16]
        by_cases h6 : op = 6
        · subst h6
          have hm := mul_bd (a : Int) (b : Int) (by omega) (by omega) (by omega) (by omega)
          rw [if_pos rfl, if_pos rfl, refmul_eq a b ha hb, bind_go]
          dsimp only
          generalize (a : Int) * b = p at *
          have e : decide (p / 4294967296 > 0) = (p / 4294967296 != 0) := by
            rw [Bool.eq_iff_iff, decide_eq_true_eq, bne_iff_ne]; omega
          rw [e, rflags_eq _ (by omega) (by omega) _ _ fl hfl, bind_go]
          rfl
        · rw [if_neg h6] at hbd ⊢
          rw [if_neg h6]
          by_cases h7 : op = 7
          · subst h7
            rw [if_pos rfl, if_pos rfl]
            by_cases hb0 : b = 0
            · subst hb0
              rw [if_pos rfl, if_pos (show ((0 : Nat) : Int) = 0 from rfl)]
              rfl
            · have hz : ¬ (b : Int) = 0 := by omega
              rw [if_neg hb0, if_neg hz, if_pos hz, if_neg (by decide), divw a b ha]
              exact rtail fl hfl _ (Int.natCast_nonneg _) (div_le a b ha)
          · rw [if_neg h7] at hbd ⊢
            rw [if_neg h7]
            by_cases h8 : op = 8
            · subst h8
              rw [if_pos rfl, if_pos rfl]
              by_cases hb0 : b = 0
              · subst hb0
                rw [if_pos rfl, if_pos (show ((0 : Nat) : Int) = 0 from rfl)]
                rfl
              · have hz : ¬ (b : Int) = 0 := by omega
                have hq : a % b ≤ a := Nat.mod_le ..
                rw [if_neg hb0, if_neg hz, if_pos hz, if_pos hz, remw a b ha (by omega) hb]
                exact rtail fl hfl _ (Int.natCast_nonneg _) (by omega)
            · rw [if_neg h8] at hbd ⊢
              rw [if_neg h8, en]
              by_cases h9 : op = 9
              · rw [if_pos h9] at hbd ⊢
                have := hbd _ rfl
                dsimp only at this
                rw [if_pos h9, rbit a b (a &&& b) ha hb (by omega) _ (Or.inl ⟨by rw [h9]; rfl, rfl⟩), bind_go]
                exact rtail fl hfl _ this.1 this.2.1
              · rw [if_neg h9] at hbd ⊢
                rw [if_neg h9]
                by_cases h10 : op = 10
                · rw [if_pos h10] at hbd ⊢
                  have := hbd _ rfl
                  dsimp only at this
                  rw [if_pos h10, rbit a b (a ||| b) ha hb (by omega) _ (Or.inr (Or.inl ⟨by rw [h10]; rfl, rfl⟩)), bind_go]
                  exact rtail fl hfl _ this.1 this.2.1
                · rw [if_neg h10] at hbd ⊢
                  rw [if_neg h10]
                  by_cases h11 : op = 11
                  · rw [if_pos h11] at hbd ⊢
                    have := hbd _ rfl
                    dsimp only at this
                    rw [if_pos h11, rbit a b (a ^^^ b) ha hb (by omega) _ (Or.inr (Or.inr ⟨by rw [h11]; rfl, rfl⟩)), bind_go]
                    exact rtail fl hfl _ this.1 this.2.1
                  · rw [if_neg h11] at hbd ⊢
                    rw [if_neg h11]
                    by_cases h12 : op = 12
                    · rw [if_pos h12] at hbd ⊢
                      have := hbd _ rfl
                      dsimp only at this
                      have e32 : IntKind.wrap .i64 ((32 : Int) - ((b % 32 : Nat) : Int)) = ((32 - b % 32 : Nat) : Int) := by rw [wi64 (by omega) (by omega)]; omega
                      have hP := Nat.two_pow_pos (32 - b % 32)
                      have eM : Int.tmod (IntKind.wrap .i64 (a : Int)) ((2 ^ (32 - b % 32) : Nat) : Int) * ((2 ^ (b % 32) : Nat) : Int) = ((2 ^ (b % 32) * (a % 2 ^ (32 - b % 32)) : Nat) : Int) := by
                        rw [wi64 (x := (a : Int)) (by omega) (by omega), tmod_pos (by omega), ← Int.natCast_emod, ← Int.natCast_mul, Nat.mul_comm]
                      rw [if_pos h12, e32, power_eq (32 - b % 32) (by omega), bind_go, if_pos (show ((2 ^ (32 - b % 32) : Nat) : Int) ≠ 0 by omega), power_eq (b % 32) (by omega), bind_go, eM]
                      generalize 2 ^ (b % 32) * (a % 2 ^ (32 - b % 32)) = q at *
                      rw [wi64 (x := (q : Int)) (by omega) (by omega), of_eq, bind_go, show (q : Int) % 4294967296 = (q : Int) by omega]
                      exact rtail fl hfl _ this.1 this.2.1
                    · rw [if_neg h12] at hbd ⊢
                      rw [if_neg h12]
                      by_cases h13 : op = 13
                      · rw [if_pos h13] at hbd ⊢
                        have := hbd _ rfl
                        dsimp only at this
                        have hP := Nat.two_pow_pos (b % 32)
                        have hq : a / 2 ^ (b % 32) ≤ a := Nat.div_le_self ..
                        have eD : Int.tdiv (IntKind.wrap .i64 (a : Int)) ((2 ^ (b % 32) : Nat) : Int) = ((a / 2 ^ (b % 32) : Nat) : Int) := by
                          rw [wi64 (x := (a : Int)) (by omega) (by omega), tdiv_pos (by omega), ← Int.natCast_ediv]
                        rw [if_pos h13, power_eq (b % 32) (by omega), bind_go, if_pos (show ((2 ^ (b % 32) : Nat) : Int) ≠ 0 by omega), eD]
                        generalize a / 2 ^ (b % 32) = q at *
                        rw [wi64 (x := (q : Int)) (by omega) (by omega), wu32_id (x := (q : Int)) (by omega)]
                        exact rtail fl hfl _ this.1 this.2.1
                      · rw [if_neg h13] at hbd ⊢
                        rw [if_neg h13]
                        by_cases h14 : op = 14
                        · rw [if_pos h14] at hbd ⊢
                          have := hbd _ rfl
                          dsimp only at this
                          rw [if_pos h14, refsar_eq a (b % 32) ha hn, bind_go]
                          exact rtail fl hfl _ this.1 this.2.1
                        · rw [if_neg h14, if_neg h14]
                          rfl
theorem RTaken_eq (op : Int) (f : Nat) (hf : f < 4294967296) : halterref11_Taken.f op (f : Int) = some ((takS op f).1, (takS op f).2.getD 0) := by
  have ex : ∀ w : Nat, 0 < w → ((Int.tmod (IntKind.wrap .u32 (Int.tdiv (f : Int) (w : Int))) 2) == 1) = decide (f / w % 2 = 1) := fun w hw => by
    have hq : f / w ≤ f := Nat.div_le_self ..
    rw [tdiv_pos (by omega), ← Int.natCast_ediv]
    generalize f / w = q at *
    rw [wu32_id (by omega), tmod_pos (by omega), Bool.eq_iff_iff, beq_iff_eq, decide_eq_true_eq]
    omega
  have e1 : ((Int.tmod (f : Int) 2) == 1) = decide (f % 2 = 1) := by
    rw [tmod_pos (by omega), Bool.eq_iff_iff, beq_iff_eq, decide_eq_true_eq]; omega
  have e2 := ex 2 (by omega)
  have e4 := ex 4 (by omega)
  have e8 := ex 8 (by omega)
  unfold halterref11_Taken.f takS
  rw [e1, show ((Int.tmod (IntKind.wrap .u32 (Int.tdiv (f : Int) 2)) 2) == 1) = decide (f / 2 % 2 = 1) from e2, show ((Int.tmod (IntKind.wrap .u32 (Int.tdiv (f : Int) 4)) 2) == 1) = decide (f / 4 % 2 = 1) from e4, show ((Int.tmod (IntKind.wrap .u32 (Int.tdiv (f : Int) 8)) 2) == 1) = decide (f / 8 % 2 = 1) from e8]
  by_cases k1 : op = 21
  · rw [if_pos k1, if_pos k1]; rfl
  · rw [if_neg k1, if_neg k1]
    by_cases k2 : op = 22
    · rw [if_pos k2, if_pos k2]; rfl
    · rw [if_neg k2, if_neg k2]
      by_cases k3 : op = 23
      · rw [if_pos k3, if_pos k3]; rfl
      · rw [if_neg k3, if_neg k3]
        by_cases k4 : op = 24
        · rw [if_pos k4, if_pos k4]; rfl
        · rw [if_neg k4, if_neg k4]
          by_cases k5 : op = 25
          · rw [if_pos k5, if_pos k5]; rfl
          · rw [if_neg k5, if_neg k5]
            by_cases k6 : op = 26
            · rw [if_pos k6, if_pos k6]; rfl
            · rw [if_neg k6, if_neg k6]; rfl
theorem num_any (e : Option Int) : num.f e = some (e.getD 0) := rfl
theorem AluDoes (a0 : Int) (a1 : (List Int)) (a2 : Int) (h0 : (Lit.int .i64 a0).wf = true) (h1 : List.length a1 = 3) (h2 : ∀ z ∈ a1, (Lit.int .u32 z).wf = true) (h3 : (Lit.int .i64 a2).wf = true) : halterlaw11_AluDoes.f a0 a1 a2 = some true := by
  have g0 : ∀ i, i < 3 → ∃ n : Nat, n < 4294967296 ∧ a1.getD i 0 = (n : Int) := fun i hi => by
    obtain ⟨p, q⟩ := u32_bd (h2 _ (getD_mem a1 i 0 (by rw [h1]; exact hi)))
    exact ⟨(a1.getD i 0).toNat, by omega, by omega⟩
  obtain ⟨a, ha, ea⟩ := g0 0 (by omega)
  obtain ⟨b, hb, eb⟩ := g0 1 (by omega)
  obtain ⟨fl, hf, ef⟩ := g0 2 (by omega)
  unfold halterlaw11_AluDoes.f
  rw [ea, eb, ef, Do_eq a0 a b fl ha hb hf, bind_go, RDo_eq a0 a b fl ha hb hf, bind_go, Taken_eq a2 fl hf, bind_go, RTaken_eq a2 fl hf, bind_go]
  dsimp only
  cases resS a0 a b with
  | inl r =>
    unfold ansS ansR
    dsimp only
    rw [if_pos rfl, if_pos rfl, num_none, bind_go, if_pos rfl, if_pos rfl, num_any, bind_go, if_pos rfl, sure_t, bind_go]
  | inr e =>
    unfold ansS ansR
    dsimp only
    rw [if_pos rfl, if_pos rfl, num_some, bind_go, if_pos rfl, if_pos rfl, num_any, bind_go, if_pos rfl, sure_t, bind_go]

end Go.Proofs.YtfoejbiifolnnaaDoor.Pure
