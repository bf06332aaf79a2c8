/- WordSpreads, read purely. -/
import Derived.Test.YtgomfkjdffcbhaaPWordSpreadsx2
set_option linter.unusedVariables false
set_option linter.unusedSimpArgs false
set_option linter.unnecessarySimpa false
namespace Go.Proofs.Ytgomfkjdffcbhaa.Pure
open Go.RowKit Go.Proofs.Ytgomfkjdffcbhaa.PWordSpreads Go.Proofs.YtgomfkjdffcbhaaW.PrintWords Go.Proofs.YtgomfkjdffcbhaaW.PrintLast Go.Proofs.YtgomfkjdffcbhaaW.PrintMore

theorem u64w (x : Int) : IntKind.u64.wrap x = x % 18446744073709551616 := by simp [IntKind.wrap, IntKind.bits, IntKind.signed]
theorem u32_bd {a : Int} (h : (Lit.int .u32 a).wf = true) : 0 ≤ a ∧ a ≤ 4294967295 := by
  simpa [Lit.wf, IntKind.min, IntKind.max, IntKind.signed, IntKind.bits] using h
theorem i64_bd {a : Int} (h : (Lit.int .i64 a).wf = true) : -9223372036854775808 ≤ a ∧ a ≤ 9223372036854775807 := by
  simpa [Lit.wf, IntKind.min, IntKind.max, IntKind.signed, IntKind.bits] using h
theorem tmod_pos {a m : Int} (h : 0 ≤ a) : Int.tmod a m = a % m := Int.tmod_eq_emod_of_nonneg h
theorem tdiv_pos {a m : Int} (h : 0 ≤ a) : Int.tdiv a m = a / m := Int.tdiv_eq_ediv_of_nonneg h
theorem w64 {x : Int} (h0 : -9223372036854775808 ≤ x) (h1 : x ≤ 9223372036854775807) : wrap64 x = x := by unfold wrap64; omega

theorem neg_eq (x : Int) (h0 : 0 ≤ x) (h1 : x ≤ 4294967295) : word_negative.f x = some (decide (2147483648 ≤ x)) := by
  unfold word_negative.f
  congr 1
  simp only [decide_eq_decide]
  unfold wrap32
  omega
theorem add32_eq (a b c : Int) (ha0 : 0 ≤ a) (ha : a ≤ 4294967295) (hb0 : 0 ≤ b) (hb : b ≤ 4294967295) (hc0 : 0 ≤ c) (hc : c ≤ 1) :
    bits_Add32.f a b c = some ((a + b + c) % 4294967296, (a + b + c) / 4294967296) := by
  unfold bits_Add32.f
  simp only [u64w]
  congr 1
  simp only [Prod.mk.injEq]
  constructor <;> omega
theorem addj_eq (k : Nat) (a b ci : Int) (ha0 : 0 ≤ a) (ha : a ≤ 4294967295) (hb0 : 0 ≤ b) (hb : b ≤ 4294967295) (h0 : 0 ≤ ci) (h1 : ci ≤ 1) :
    word_Add.j0 (k + 1) a b ci = some ((a + b + ci) % 4294967296, decide (4294967296 ≤ a + b + ci), (decide (2147483648 ≤ a) == decide (2147483648 ≤ b)) && (decide (2147483648 ≤ (a + b + ci) % 4294967296) != decide (2147483648 ≤ a))) := by
  simp only [word_Add.j0]
  rw [add32_eq a b ci ha0 ha hb0 hb h0 h1]
  simp only [Option.bind_some]
  rw [neg_eq a ha0 ha, neg_eq b hb0 hb, neg_eq ((a + b + ci) % 4294967296) (by omega) (by omega)]
  simp only [Option.bind_some]
  have hq : ((a + b + ci) / 4294967296 == 1) = decide (4294967296 ≤ a + b + ci) := by
    rw [Bool.eq_iff_iff]
    simp only [beq_iff_eq, decide_eq_true_eq]
    omega
  rw [hq]
  by_cases h : (decide (2147483648 ≤ a) == decide (2147483648 ≤ b)) = true
  · rw [if_pos h, h]; simp
  · rw [if_neg h]
    simp only [Bool.not_eq_true] at h
    rw [h]
    simp
theorem add_eq (k : Nat) (a b : Int) (c : Bool) (ha0 : 0 ≤ a) (ha : a ≤ 4294967295) (hb0 : 0 ≤ b) (hb : b ≤ 4294967295) :
    word_Add.f (k + 1) a b c = some ((a + b + if c then 1 else 0) % 4294967296, decide (4294967296 ≤ a + b + if c then 1 else 0), (decide (2147483648 ≤ a) == decide (2147483648 ≤ b)) && (decide (2147483648 ≤ (a + b + if c then 1 else 0) % 4294967296) != decide (2147483648 ≤ a))) := by
  cases c
  · exact addj_eq k a b 0 ha0 ha hb0 hb (by decide) (by decide)
  · exact addj_eq k a b 1 ha0 ha hb0 hb (by decide) (by decide)

theorem shl_eq (v : Int) (n : Nat) (h : n ≤ 32) : shl .u32 v n = v * 2 ^ n % 4294967296 := by
  unfold shl
  rw [IntKind.wrap_u32, Int.toNat_natCast, Nat.min_eq_left (show n ≤ IntKind.u32.bits from h)]
theorem shr_eq (k : IntKind) (v : Int) (n : Nat) (h : n ≤ k.bits) : shr k v n = v / 2 ^ n := by
  unfold shr
  rw [Int.toNat_natCast, Nat.min_eq_left h]
theorem two_split (n : Nat) (h : n ≤ 32) : 2 ^ n * 2 ^ (32 - n) = 4294967296 := by
  rw [← Nat.pow_add, show n + (32 - n) = 32 by omega]
theorem up_eq (v n : Nat) (h : n ≤ 32) : shl .u32 v n = ((2 ^ n * (v % 2 ^ (32 - n)) : Nat) : Int) := by
  rw [shl_eq v n h]
  have e : (v : Int) * 2 ^ n = ((2 ^ n * v : Nat) : Int) := by simp [Int.mul_comm]
  have e2 : (4294967296 : Int) = ((2 ^ n * 2 ^ (32 - n) : Nat) : Int) := by rw [two_split n h]; rfl
  rw [e, e2]
  have : ((2 ^ n * v : Nat) : Int) % ((2 ^ n * 2 ^ (32 - n) : Nat) : Int) = ((2 ^ n * v % (2 ^ n * 2 ^ (32 - n)) : Nat) : Int) := by simp
  rw [this, Nat.mul_mod_mul_left]
theorem down_eq (v n : Nat) (h : n ≤ 32) : shr .u32 v n = ((v / 2 ^ n : Nat) : Int) := by
  rw [shr_eq .u32 v n h]
  simp
theorem low5 (x : Int) (h : 0 ≤ x) : ∃ n : Nat, Int.tmod (IntKind.u64.wrap x) 32 = (n : Int) ∧ n < 32 ∧ (n : Int) = x % 32 := by
  rw [u64w, tmod_pos (by omega)]
  exact ⟨(x % 18446744073709551616 % 32).toNat, by omega, by omega, by omega⟩
/-- A number turned by n. -/
def rot (v n : Nat) : Nat := 2 ^ n * (v % 2 ^ (32 - n)) + v / 2 ^ (32 - n)
theorem rot_parts (v n : Nat) (hv : v < 4294967296) (h : n ≤ 32) : v / 2 ^ (32 - n) < 2 ^ n ∧ 2 ^ n * (v % 2 ^ (32 - n)) + 2 ^ n ≤ 4294967296 := by
  have hM := Nat.two_pow_pos (32 - n)
  have hs := two_split n h
  constructor
  · rw [Nat.div_lt_iff_lt_mul hM, hs]; exact hv
  · have h1 : v % 2 ^ (32 - n) + 1 ≤ 2 ^ (32 - n) := Nat.mod_lt _ hM
    have h2 := Nat.mul_le_mul_left (2 ^ n) h1
    rw [hs, Nat.mul_add, Nat.mul_one] at h2
    exact h2
theorem rotl_eq (v n : Nat) (hv : v < 4294967296) (h : n < 32) : bits_RotateLeft32.f v n = some ((rot v n : Nat) : Int) := by
  have hp := rot_parts v n hv (by omega)
  have hm : Go.bits .and .u64 (IntKind.u64.wrap (n : Int)) 31 = n := by
    have hw : ∀ x : Int, 0 ≤ x → x < 2 ^ 32 → IntKind.u64.wrap x = x := fun x h0 h1 => by rw [u64w]; omega
    have e : IntKind.u64.wrap (n : Int) = n := by rw [u64w]; omega
    rw [e]
    have := bits_mask .u64 32 (by decide) hw 5 (by decide) (n : Int) (by omega) (by omega)
    have e2 : (31 : Int) = 2 ^ 5 - 1 := by decide
    rw [e2, this]
    omega
  unfold bits_RotateLeft32.f
  rw [hm, if_pos (by omega)]
  have e32 : IntKind.u64.wrap (32 - (n : Int)) = ((32 - n : Nat) : Int) := by rw [u64w]; omega
  rw [e32, if_pos (by omega), up_eq v n (by omega), down_eq v (32 - n) (by omega)]
  congr 1
  have hw : ∀ x : Int, 0 ≤ x → x < 2 ^ 32 → IntKind.u32.wrap x = x := fun x h0 h1 => by rw [IntKind.wrap_u32]; omega
  have hj := bits_join .u32 32 (by decide) hw n ((2 ^ n * (v % 2 ^ (32 - n)) : Nat) : Int) ((v / 2 ^ (32 - n) : Nat) : Int) (Int.natCast_nonneg _)
    (by
      have : ((2 ^ n * (v % 2 ^ (32 - n)) : Nat) : Int) % 2 ^ n = ((2 ^ n * (v % 2 ^ (32 - n)) % 2 ^ n : Nat) : Int) := by simp
      rw [this, Nat.mul_mod_right]
      rfl)
    (by have := Nat.two_pow_pos n; have : (2 : Int) ^ 32 = 4294967296 := by decide
        omega)
    (Int.natCast_nonneg _) (by exact_mod_cast hp.1) (by
      have h1 : v / 2 ^ (32 - n) ≤ v := Nat.div_le_self _ _
      have : (2 : Int) ^ 32 = 4294967296 := by decide
      omega)
  rw [hj]
  simp [rot]
theorem turn_eq (v : Nat) (b : Int) (n : Nat) (hv : v < 4294967296) (h : n < 32) (hb : Int.tmod (IntKind.u64.wrap b) 32 = (n : Int)) : word_Turn.f v b = some ((rot v n : Nat) : Int) := by
  unfold word_Turn.f
  rw [hb, w64 (by omega) (by omega), rotl_eq v n hv h]
  rfl
theorem rot_lt (v n : Nat) (hv : v < 4294967296) (h : n ≤ 32) : rot v n < 4294967296 := by
  have hp := rot_parts v n hv h
  unfold rot
  omega
/-- Sext, for 1 to 31 bits. -/
theorem sext_eq (v n : Nat) (hv : v < 4294967296) (h1 : 1 ≤ n) (h2 : n ≤ 31) :
    word_Sext.f v n = some (if 2 ^ (n - 1) ≤ v % 2 ^ n then ((v % 2 ^ n : Nat) : Int) - 2 ^ n + 4294967296 else ((v % 2 ^ n : Nat) : Int)) := by
  unfold word_Sext.f
  rw [if_neg (by omega), if_neg (by omega), w64 (x := 32 - (n : Int)) (by omega) (by omega), if_pos (by omega)]
  have e : (32 : Int) - n = ((32 - n : Nat) : Int) := by omega
  rw [e, up_eq v (32 - n) (by omega), shr_eq .i32 _ (32 - n) (show 32 - n ≤ 32 by omega)]
  rw [show 32 - (32 - n) = n by omega]
  have hx : v % 2 ^ n < 2 ^ n := Nat.mod_lt _ (Nat.two_pow_pos n)
  generalize v % 2 ^ n = x at *
  have hs := two_split (32 - n) (by omega)
  rw [show 32 - (32 - n) = n by omega] at hs
  have hh : 2 ^ n = 2 * 2 ^ (n - 1) := by rw [← Nat.pow_succ']; congr 1; omega
  have c : (2 : Int) ^ (32 - n) = ((2 ^ (32 - n) : Nat) : Int) := by simp
  have c2 : (2 : Int) ^ n = ((2 ^ n : Nat) : Int) := by simp
  rw [c, c2]
  have hM := Nat.two_pow_pos (32 - n)
  generalize hMd : 2 ^ (32 - n) = M at *
  generalize 2 ^ (n - 1) = H at *
  generalize 2 ^ n = P at *
  have hMH : M * H * 2 = 4294967296 := by rw [Nat.mul_assoc, Nat.mul_comm H 2, ← hh]; exact hs
  have hPw : P ≤ 4294967296 := by
    have := Nat.le_mul_of_pos_left P hM
    omega
  congr 1
  by_cases hc : H ≤ x
  · rw [if_pos hc]
    have hl : M * H ≤ M * x := Nat.mul_le_mul_left M hc
    have hu : M * x + M ≤ M * P := by have := Nat.mul_le_mul_left M (show x + 1 ≤ P from hx); rw [Nat.mul_add, Nat.mul_one] at this; exact this
    have ew : wrap32 ((M * x : Nat) : Int) = ((M * x : Nat) : Int) - 4294967296 := by unfold wrap32; omega
    rw [ew]
    have e3 : ((M * x : Nat) : Int) - 4294967296 = (M : Int) * ((x : Int) - P) := by
      rw [Int.mul_sub]
      have : ((M * P : Nat) : Int) = 4294967296 := by rw [hs]; rfl
      have e4 : (M : Int) * (P : Int) = ((M * P : Nat) : Int) := by simp
      have e5 : (M : Int) * (x : Int) = ((M * x : Nat) : Int) := by simp
      rw [e4, e5, this]
    rw [e3, Int.mul_ediv_cancel_left _ (by omega)]
    omega
  · rw [if_neg hc]
    have hl : M * x + M ≤ M * H := by have := Nat.mul_le_mul_left M (show x + 1 ≤ H by omega); rw [Nat.mul_add, Nat.mul_one] at this; exact this
    have ew : wrap32 ((M * x : Nat) : Int) = ((M * x : Nat) : Int) := by unfold wrap32; omega
    rw [ew]
    have e5 : ((M * x : Nat) : Int) = (M : Int) * (x : Int) := by simp
    rw [e5, Int.mul_ediv_cancel_left _ (by omega)]
    omega

theorem div_pow (v n : Nat) (hv : v < 4294967296) (h : n ≤ 31) : word_Div.f v (shl .u32 1 (n : Int)) = some (((v / 2 ^ n : Nat) : Int), ((v % 2 ^ n : Nat) : Int), none) := by
  have hP1 := Nat.two_pow_pos n
  have hP2 : 2 ^ n ≤ 2 ^ 31 := Nat.pow_le_pow_right (by decide) h
  have e0 : shl .u32 1 (n : Int) = ((2 ^ n : Nat) : Int) := by
    rw [shl_eq 1 n (by omega), Int.one_mul]
    have cP : (2 : Int) ^ n = ((2 ^ n : Nat) : Int) := by simp
    rw [cP]
    generalize 2 ^ n = P at *
    omega
  rw [e0]
  have e1 : (v : Int) / ((2 ^ n : Nat) : Int) = ((v / 2 ^ n : Nat) : Int) := by simp
  have e2 : (v : Int) % ((2 ^ n : Nat) : Int) = ((v % 2 ^ n : Nat) : Int) := by simp
  have hle : v / 2 ^ n ≤ v := Nat.div_le_self _ _
  have e3 : ((v / 2 ^ n : Nat) : Int) % 4294967296 = ((v / 2 ^ n : Nat) : Int) := by
    clear e0 e1 e2
    generalize v / 2 ^ n = x at *
    omega
  unfold word_Div.f
  rw [if_neg (show ¬ (((2 ^ n : Nat) : Int) = 0) by omega), tdiv_pos (Int.natCast_nonneg v), tmod_pos (Int.natCast_nonneg v), e1, e2, e3]
theorem mod32 (n : Nat) (h : n < 32) : Int.tmod (IntKind.u64.wrap (n : Int)) 32 = (n : Int) := by rw [u64w, tmod_pos (by omega)]; omega
theorem sub32 (n : Nat) (h : n < 32) : wrap64 (32 - (n : Int)) = ((32 - n : Nat) : Int) := by rw [w64 (by omega) (by omega)]; omega
theorem shift_up (v n : Nat) (h : n < 32) : word_Shift.f v (n : Int) = some (shl .u32 v (n : Int)) := by
  unfold word_Shift.f
  rw [if_neg (show ¬ ((n : Int) < 0) by omega), mod32 n h, if_pos (show (0 : Int) ≤ (n : Int) by omega)]
theorem shift_down (v n : Nat) (h : n < 32) (h1 : 1 ≤ n) : word_Shift.f v (wrap64 (-(n : Int))) = some (shr .u32 v (n : Int)) := by
  unfold word_Shift.f
  rw [w64 (x := -(n : Int)) (by omega) (by omega), if_pos (show -(n : Int) < 0 by omega), w64 (x := -(-(n : Int))) (by omega) (by omega), Int.neg_neg, mod32 n h, if_pos (show (0 : Int) ≤ (n : Int) by omega)]
theorem neg32 (n : Nat) (h1 : 1 ≤ n) (h : n ≤ 31) : wrap64 ((n : Int) - 32) = wrap64 (-((32 - n : Nat) : Int)) := by congr 1; omega
theorem sext_sar (v n : Nat) (h1 : 1 ≤ n) (h : n ≤ 31) : word_Sext.f v (n : Int) = word_Sar.f (shl .u32 v ((32 - n : Nat) : Int)) ((32 - n : Nat) : Int) := by
  unfold word_Sext.f word_Sar.f
  rw [if_neg (show ¬ ((n : Int) < 1) by omega), if_neg (show ¬ ((n : Int) ≥ 32) by omega), sub32 n (by omega), if_pos (show (0 : Int) ≤ ((32 - n : Nat) : Int) by omega), mod32 (32 - n) (by omega), if_pos (show (0 : Int) ≤ ((32 - n : Nat) : Int) by omega)]
theorem sar_some (x : Int) (n : Nat) (h : n < 32) : ∃ s, word_Sar.f x (n : Int) = some s := by
  unfold word_Sar.f
  rw [mod32 n h, if_pos (show (0 : Int) ≤ (n : Int) by omega)]
  exact ⟨_, rfl⟩
theorem join_add (v n : Nat) (hv : v < 4294967296) (h : n ≤ 32) : ∃ p q, word_Add.f 67 ((2 ^ n * (v % 2 ^ (32 - n)) : Nat) : Int) ((v / 2 ^ (32 - n) : Nat) : Int) false = some (((rot v n : Nat) : Int), p, q) := by
  have hr := rot_lt v n hv h
  unfold rot at hr ⊢
  generalize v / 2 ^ (32 - n) = x at *
  generalize 2 ^ n * (v % 2 ^ (32 - n)) = y at *
  rw [add_eq 66 _ _ false (by omega) (by omega) (by omega) (by omega)]
  have e : ((y : Int) + (x : Int) + if false = true then 1 else 0) % 4294967296 = ((y + x : Nat) : Int) := by
    rw [if_neg (show ¬ (false = true) by decide)]
    omega
  rw [e]
  exact ⟨_, _, rfl⟩
theorem spread_n (b : Int) : ∃ n : Nat, wrap64 (1 + (wrap64 (Int.tmod (IntKind.u64.wrap b) 31))) = (n : Int) ∧ 1 ≤ n ∧ n ≤ 31 := by
  rw [u64w, tmod_pos (by omega), w64 (x := b % 18446744073709551616 % 31) (by omega) (by omega), w64 (by omega) (by omega)]
  exact ⟨(1 + b % 18446744073709551616 % 31).toNat, by omega, by omega, by omega⟩
theorem wrap_n (n : Nat) (h : n < 32) : IntKind.u64.wrap (n : Int) = n := by rw [u64w]; omega
theorem bind_go {α β : Type} (a : α) (f : α → Option β) : (some a).bind f = f a := (Option.bind_some a f).trans rfl
theorem WordSpreads : halterlaw01_WordSpreads.Pure := by
  intro a b ha _
  obtain ⟨ha0, ha1⟩ := u32_bd ha
  obtain ⟨v, rfl⟩ := Int.eq_ofNat_of_zero_le ha0
  refine ⟨67, ?_⟩
  have hs : halterlaw01_sure.f 67 = some true := by decide +kernel
  obtain ⟨n, hn, hn1, hn2⟩ := spread_n b
  have hv : v < 4294967296 := by omega
  obtain ⟨s, hsar⟩ := sar_some (shl .u32 v ((32 - n : Nat) : Int)) (32 - n) (by omega)
  obtain ⟨p, q, hadd⟩ := join_add v n hv (by omega)
  unfold halterlaw01_WordSpreads.f
  rw [hn, wrap_n n (by omega), if_pos (show (0 : Int) ≤ (n : Int) by omega), div_pow v n hv hn2, shift_up v n (by omega), neg32 n hn1 hn2, shift_down v (32 - n) (by omega) (by omega), up_eq v n (by omega), down_eq v (32 - n) (by omega), sext_sar v n hn1 hn2, sub32 n (by omega), shift_up v (32 - n) (by omega), shift_down v n (by omega) hn1, down_eq v n (by omega), turn_eq v n n hv (by omega) (mod32 n (by omega)), hs]
  rw [bind_go, bind_go, bind_go, hadd, bind_go, if_pos (show ((none : Option Int).isNone = true) from rfl), hsar]
  repeat (first | rw [bind_go] | rw [if_pos rfl] | rw [hsar])

end Go.Proofs.Ytgomfkjdffcbhaa.Pure
