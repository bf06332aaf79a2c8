/- WordShifts, read purely. -/
import Derived.Test.YtgomfkjdffcbhaaPWordShiftsx3
set_option linter.unusedVariables false
set_option linter.unusedSimpArgs false
set_option linter.unnecessarySimpa false
namespace Go.Proofs.Ytgomfkjdffcbhaa.Pure
open Go.RowKit Go.Proofs.Ytgomfkjdffcbhaa.PWordShifts Go.Proofs.YtgomfkjdffcbhaaW.PrintWords Go.Proofs.YtgomfkjdffcbhaaW.PrintLast Go.Proofs.YtgomfkjdffcbhaaW.PrintMore

theorem u64w (x : Int) : IntKind.u64.wrap x = x % 18446744073709551616 := by simp [IntKind.wrap, IntKind.bits, IntKind.signed]
theorem u32_bd {a : Int} (h : (Lit.int .u32 a).wf = true) : 0 ≤ a ∧ a ≤ 4294967295 := by
  simpa [Lit.wf, IntKind.min, IntKind.max, IntKind.signed, IntKind.bits] using h
theorem i64_bd {a : Int} (h : (Lit.int .i64 a).wf = true) : -9223372036854775808 ≤ a ∧ a ≤ 9223372036854775807 := by
  simpa [Lit.wf, IntKind.min, IntKind.max, IntKind.signed, IntKind.bits] using h
theorem tmod_pos {a m : Int} (h : 0 ≤ a) : Int.tmod a m = a % m := Int.tmod_eq_emod_of_nonneg h
theorem tdiv_pos {a m : Int} (h : 0 ≤ a) : Int.tdiv a m = a / m := Int.tdiv_eq_ediv_of_nonneg h
theorem w64 {x : Int} (h0 : -9223372036854775808 ≤ x) (h1 : x ≤ 9223372036854775807) : wrap64 x = x := by unfold wrap64; omega

theorem shl_eq (v : Int) (n : Nat) (h : n ≤ 32) : shl .u32 v n = v * 2 ^ n % 4294967296 := by
  unfold shl
  rw [IntKind.wrap_u32, Int.toNat_natCast, Nat.min_eq_left (show n ≤ IntKind.u32.bits from h)]
theorem shr_eq (k : IntKind) (v : Int) (n : Nat) (h : n ≤ k.bits) : shr k v n = v / 2 ^ n := by
  unfold shr
  rw [Int.toNat_natCast, Nat.min_eq_left h]

theorem two_split (n : Nat) (h : n ≤ 32) : 2 ^ n * 2 ^ (32 - n) = 4294967296 := by
  rw [← Nat.pow_add, show n + (32 - n) = 32 by omega]
theorem up_eq (v n : Nat) (h : n ≤ 32) : shl .u32 v n = ((2 ^ n * (v % 2 ^ (32 - n)) : Nat) : Int) := by
  rw [shl_eq v n h]
  have e : (v : Int) * 2 ^ n = ((2 ^ n * v : Nat) : Int) := by simp [Int.mul_comm]
  have e2 : (4294967296 : Int) = ((2 ^ n * 2 ^ (32 - n) : Nat) : Int) := by rw [two_split n h]; rfl
  rw [e, e2]
  have : ((2 ^ n * v : Nat) : Int) % ((2 ^ n * 2 ^ (32 - n) : Nat) : Int) = ((2 ^ n * v % (2 ^ n * 2 ^ (32 - n)) : Nat) : Int) := by simp
  rw [this, Nat.mul_mod_mul_left]
theorem down_eq (v n : Nat) (h : n ≤ 32) : shr .u32 v n = ((v / 2 ^ n : Nat) : Int) := by
  rw [shr_eq .u32 v n h]
  simp
theorem low5 (x : Int) (h : 0 ≤ x) : ∃ n : Nat, Int.tmod (IntKind.u64.wrap x) 32 = (n : Int) ∧ n < 32 ∧ (n : Int) = x % 32 := by
  rw [u64w, tmod_pos (by omega)]
  exact ⟨(x % 18446744073709551616 % 32).toNat, by omega, by omega, by omega⟩
/-- A number turned by n. -/
def rot (v n : Nat) : Nat := 2 ^ n * (v % 2 ^ (32 - n)) + v / 2 ^ (32 - n)
theorem rot_parts (v n : Nat) (hv : v < 4294967296) (h : n ≤ 32) : v / 2 ^ (32 - n) < 2 ^ n ∧ 2 ^ n * (v % 2 ^ (32 - n)) + 2 ^ n ≤ 4294967296 := by
  have hM := Nat.two_pow_pos (32 - n)
  have hs := two_split n h
  constructor
  · rw [Nat.div_lt_iff_lt_mul hM, hs]; exact hv
  · have h1 : v % 2 ^ (32 - n) + 1 ≤ 2 ^ (32 - n) := Nat.mod_lt _ hM
    have h2 := Nat.mul_le_mul_left (2 ^ n) h1
    rw [hs, Nat.mul_add, Nat.mul_one] at h2
    exact h2
theorem rotl_eq (v n : Nat) (hv : v < 4294967296) (h : n < 32) : bits_RotateLeft32.f v n = some ((rot v n : Nat) : Int) := by
  have hp := rot_parts v n hv (by omega)
  have hm : Go.bits .and .u64 (IntKind.u64.wrap (n : Int)) 31 = n := by
    have hw : ∀ x : Int, 0 ≤ x → x < 2 ^ 32 → IntKind.u64.wrap x = x := fun x h0 h1 => by rw [u64w]; omega
    have e : IntKind.u64.wrap (n : Int) = n := by rw [u64w]; omega
    rw [e]
    have := bits_mask .u64 32 (by decide) hw 5 (by decide) (n : Int) (by omega) (by omega)
    have e2 : (31 : Int) = 2 ^ 5 - 1 := by decide
    rw [e2, this]
    omega
  unfold bits_RotateLeft32.f
  rw [hm, if_pos (by omega)]
  have e32 : IntKind.u64.wrap (32 - (n : Int)) = ((32 - n : Nat) : Int) := by rw [u64w]; omega
  rw [e32, if_pos (by omega), up_eq v n (by omega), down_eq v (32 - n) (by omega)]
  congr 1
  have hw : ∀ x : Int, 0 ≤ x → x < 2 ^ 32 → IntKind.u32.wrap x = x := fun x h0 h1 => by rw [IntKind.wrap_u32]; omega
  have hj := bits_join .u32 32 (by decide) hw n ((2 ^ n * (v % 2 ^ (32 - n)) : Nat) : Int) ((v / 2 ^ (32 - n) : Nat) : Int) (Int.natCast_nonneg _)
    (by
      have : ((2 ^ n * (v % 2 ^ (32 - n)) : Nat) : Int) % 2 ^ n = ((2 ^ n * (v % 2 ^ (32 - n)) % 2 ^ n : Nat) : Int) := by simp
      rw [this, Nat.mul_mod_right]
      rfl)
    (by have := Nat.two_pow_pos n; have : (2 : Int) ^ 32 = 4294967296 := by decide
        omega)
    (Int.natCast_nonneg _) (by exact_mod_cast hp.1) (by
      have h1 : v / 2 ^ (32 - n) ≤ v := Nat.div_le_self _ _
      have : (2 : Int) ^ 32 = 4294967296 := by decide
      omega)
  rw [hj]
  simp [rot]
theorem turn_eq (v : Nat) (b : Int) (n : Nat) (hv : v < 4294967296) (h : n < 32) (hb : Int.tmod (IntKind.u64.wrap b) 32 = (n : Int)) : word_Turn.f v b = some ((rot v n : Nat) : Int) := by
  unfold word_Turn.f
  rw [hb, w64 (by omega) (by omega), rotl_eq v n hv h]
  rfl
theorem rot_lt (v n : Nat) (hv : v < 4294967296) (h : n ≤ 32) : rot v n < 4294967296 := by
  have hp := rot_parts v n hv h
  unfold rot
  omega
/-- Sext, for 1 to 31 bits. -/
theorem sext_eq (v n : Nat) (hv : v < 4294967296) (h1 : 1 ≤ n) (h2 : n ≤ 31) :
    word_Sext.f v n = some (if 2 ^ (n - 1) ≤ v % 2 ^ n then ((v % 2 ^ n : Nat) : Int) - 2 ^ n + 4294967296 else ((v % 2 ^ n : Nat) : Int)) := by
  unfold word_Sext.f
  rw [if_neg (by omega), if_neg (by omega), w64 (x := 32 - (n : Int)) (by omega) (by omega), if_pos (by omega)]
  have e : (32 : Int) - n = ((32 - n : Nat) : Int) := by omega
  rw [e, up_eq v (32 - n) (by omega), shr_eq .i32 _ (32 - n) (show 32 - n ≤ 32 by omega)]
  rw [show 32 - (32 - n) = n by omega]
  have hx : v % 2 ^ n < 2 ^ n := Nat.mod_lt _ (Nat.two_pow_pos n)
  generalize v % 2 ^ n = x at *
  have hs := two_split (32 - n) (by omega)
  rw [show 32 - (32 - n) = n by omega] at hs
  have hh : 2 ^ n = 2 * 2 ^ (n - 1) := by rw [← Nat.pow_succ']; congr 1; omega
  have c : (2 : Int) ^ (32 - n) = ((2 ^ (32 - n) : Nat) : Int) := by simp
  have c2 : (2 : Int) ^ n = ((2 ^ n : Nat) : Int) := by simp
  rw [c, c2]
  have hM := Nat.two_pow_pos (32 - n)
  generalize hMd : 2 ^ (32 - n) = M at *
  generalize 2 ^ (n - 1) = H at *
  generalize 2 ^ n = P at *
  have hMH : M * H * 2 = 4294967296 := by rw [Nat.mul_assoc, Nat.mul_comm H 2, ← hh]; exact hs
  have hPw : P ≤ 4294967296 := by
    have := Nat.le_mul_of_pos_left P hM
    omega
  congr 1
  by_cases hc : H ≤ x
  · rw [if_pos hc]
    have hl : M * H ≤ M * x := Nat.mul_le_mul_left M hc
    have hu : M * x + M ≤ M * P := by have := Nat.mul_le_mul_left M (show x + 1 ≤ P from hx); rw [Nat.mul_add, Nat.mul_one] at this; exact this
    have ew : wrap32 ((M * x : Nat) : Int) = ((M * x : Nat) : Int) - 4294967296 := by unfold wrap32; omega
    rw [ew]
    have e3 : ((M * x : Nat) : Int) - 4294967296 = (M : Int) * ((x : Int) - P) := by
      rw [Int.mul_sub]
      have : ((M * P : Nat) : Int) = 4294967296 := by rw [hs]; rfl
      have e4 : (M : Int) * (P : Int) = ((M * P : Nat) : Int) := by simp
      have e5 : (M : Int) * (x : Int) = ((M * x : Nat) : Int) := by simp
      rw [e4, e5, this]
    rw [e3, Int.mul_ediv_cancel_left _ (by omega)]
    omega
  · rw [if_neg hc]
    have hl : M * x + M ≤ M * H := by have := Nat.mul_le_mul_left M (show x + 1 ≤ H by omega); rw [Nat.mul_add, Nat.mul_one] at this; exact this
    have ew : wrap32 ((M * x : Nat) : Int) = ((M * x : Nat) : Int) := by unfold wrap32; omega
    rw [ew]
    have e5 : ((M * x : Nat) : Int) = (M : Int) * (x : Int) := by simp
    rw [e5, Int.mul_ediv_cancel_left _ (by omega)]
    omega

theorem of_eq (x : Int) : halterref01_Of.f x = some (x % 4294967296) := by
  unfold halterref01_Of.f
  have h : Int.tmod x 4294967296 = if 0 ≤ x then x % 4294967296 else -((-x) % 4294967296) := by
    by_cases h0 : 0 ≤ x
    · rw [if_pos h0, tmod_pos h0]
    · rw [if_neg h0]
      have := Int.neg_tmod (-x) 4294967296
      rw [Int.neg_neg] at this
      rw [this, tmod_pos (by omega)]
  rw [h]
  by_cases h0 : 0 ≤ x
  · rw [if_pos h0, if_neg (by omega)]
    congr 1
    omega
  · rw [if_neg h0]
    by_cases h1 : -((-x) % 4294967296) < 0
    · rw [if_pos h1, w64 (by omega) (by omega)]
      congr 1
      omega
    · rw [if_neg h1]
      congr 1
      omega

theorem pow_bd (n : Nat) (h : n ≤ 62) : (0 : Int) < 2 ^ n ∧ (2 : Int) ^ n ≤ 4611686018427387904 := by
  have h1 : 2 ^ n ≤ 2 ^ 62 := Nat.pow_le_pow_right (by decide) h
  have h2 : 0 < 2 ^ n := Nat.two_pow_pos n
  have c : ((2 ^ n : Nat) : Int) = 2 ^ n := by simp
  rw [← c]
  omega
theorem power_loop (n : Nat) (hn : n ≤ 62) (d : Nat) : ∀ (k i : Nat), n - i = d → i ≤ n → d < k → halterref01_Power.l0 k n (2 ^ i) i = some (2 ^ n) := by
  induction d with
  | zero =>
    intro k i hd hi hk
    obtain ⟨k, rfl⟩ : ∃ m, k = m + 1 := ⟨k - 1, by omega⟩
    obtain rfl : i = n := by omega
    simp only [halterref01_Power.l0]
    rw [if_neg (by omega)]
  | succ d ih =>
    intro k i hd hi hk
    obtain ⟨k, rfl⟩ : ∃ m, k = m + 1 := ⟨k - 1, by omega⟩
    simp only [halterref01_Power.l0]
    rw [if_pos (by omega)]
    have hp := pow_bd (i + 1) (by omega)
    have e : (2 : Int) * 2 ^ i = 2 ^ (i + 1) := by rw [Int.pow_succ, Int.mul_comm]
    rw [e, w64 (x := (2 : Int) ^ (i + 1)) (by omega) (by omega), w64 (x := (i : Int) + 1) (by omega) (by omega)]
    exact ih k (i + 1) (by omega) (by omega) (by omega)
theorem power_eq (k n : Nat) (hn : n ≤ 62) (hk : n < k) : halterref01_Power.f k n = some (2 ^ n) := by
  unfold halterref01_Power.f
  exact power_loop n hn n k 0 (by omega) (by omega) hk

def tabf (i : Int) : Int := bt (⟨#[0, 1, 2, 2, 3, 3, 3, 3, 4, 4, 4, 4, 4, 4, 4, 4, 5, 5, 5, 5, 5, 5, 5, 5, 5, 5, 5, 5, 5, 5, 5, 5, 6, 6, 6, 6, 6, 6, 6, 6, 6, 6, 6, 6, 6, 6, 6, 6, 6, 6, 6, 6, 6, 6, 6, 6, 6, 6, 6, 6, 6, 6, 6, 6, 7, 7, 7, 7, 7, 7, 7, 7, 7, 7, 7, 7, 7, 7, 7, 7, 7, 7, 7, 7, 7, 7, 7, 7, 7, 7, 7, 7, 7, 7, 7, 7, 7, 7, 7, 7, 7, 7, 7, 7, 7, 7, 7, 7, 7, 7, 7, 7, 7, 7, 7, 7, 7, 7, 7, 7, 7, 7, 7, 7, 7, 7, 7, 7, 8, 8, 8, 8, 8, 8, 8, 8, 8, 8, 8, 8, 8, 8, 8, 8, 8, 8, 8, 8, 8, 8, 8, 8, 8, 8, 8, 8, 8, 8, 8, 8, 8, 8, 8, 8, 8, 8, 8, 8, 8, 8, 8, 8, 8, 8, 8, 8, 8, 8, 8, 8, 8, 8, 8, 8, 8, 8, 8, 8, 8, 8, 8, 8, 8, 8, 8, 8, 8, 8, 8, 8, 8, 8, 8, 8, 8, 8, 8, 8, 8, 8, 8, 8, 8, 8, 8, 8, 8, 8, 8, 8, 8, 8, 8, 8, 8, 8, 8, 8, 8, 8, 8, 8, 8, 8, 8, 8, 8, 8, 8, 8, 8, 8, 8, 8, 8, 8, 8, 8, 8, 8, 8, 8, 8, 8, 8, 8]⟩ : ByteArray) i
def LenF (g : Int → Int) (a0 : Int) : Option (Int) := if a0 ≥ 65536 then (if (a0 / 65536) ≥ 256 then (if 0 ≤ (((a0 / 65536) / 256) % 256) then (if (((a0 / 65536) / 256) % 256) < 256 then (some (wrap64 ((16 + 8) + (wrap64 (g (((a0 / 65536) / 256) % 256)))))) else (none)) else (none)) else (if 0 ≤ ((a0 / 65536) % 256) then (if ((a0 / 65536) % 256) < 256 then (some (wrap64 (16 + (wrap64 (g ((a0 / 65536) % 256)))))) else (none)) else (none))) else (if a0 ≥ 256 then (if 0 ≤ ((a0 / 256) % 256) then (if ((a0 / 256) % 256) < 256 then (some (wrap64 ((0 + 8) + (wrap64 (g ((a0 / 256) % 256)))))) else (none)) else (none)) else (if 0 ≤ ((a0) % 256) then (if ((a0) % 256) < 256 then (some (wrap64 (0 + (wrap64 (g ((a0) % 256)))))) else (none)) else (none)))
theorem len_form (a : Int) : bits_Len32.f a = LenF tabf a := rfl

theorem bind_go {α β : Type} (a : α) (f : α → Option β) : (some a).bind f = f a := (Option.bind_some a f).trans rfl
theorem w_succ (i : Nat) (h : i < 1000) : wrap64 ((i : Int) + 1) = ((i + 1 : Nat) : Int) := by rw [w64 (by omega) (by omega)]; simp
theorem tmod_cases (x m : Int) : Int.tmod x m = if 0 ≤ x then x % m else -((-x) % m) := by
  by_cases h0 : 0 ≤ x
  · rw [if_pos h0, tmod_pos h0]
  · rw [if_neg h0]
    have := Int.neg_tmod (-x) m
    rw [Int.neg_neg] at this
    rw [this, tmod_pos (by omega)]
theorem low_eq (x : Int) : ∃ n : Nat, halterref01_low.f x = some (n : Int) ∧ n < 32 ∧ (n : Int) = x % 32 := by
  refine ⟨(x % 32).toNat, ?_, by omega, by omega⟩
  unfold halterref01_low.f
  rw [tmod_cases x 32]
  by_cases h0 : 0 ≤ x
  · rw [if_pos h0, if_neg (show ¬ x % 32 < 0 by omega)]
    congr 1
    omega
  · rw [if_neg h0]
    by_cases h1 : -((-x) % 32) < 0
    · rw [if_pos h1, w64 (x := -((-x) % 32) + 32) (by omega) (by omega)]
      congr 1
      omega
    · rw [if_neg h1]
      congr 1
      omega
theorem u64mod (x : Int) (n : Nat) (hn : n < 32) (h : (n : Int) = x % 32) : Int.tmod (IntKind.u64.wrap x) 32 = (n : Int) := by
  rw [u64w, tmod_pos (by omega)]; omega
/-- One bit further. -/
theorem rot_succ (v i : Nat) (hv : v < 4294967296) (hi : i < 32) : rot v i < 4294967296 ∧ rot v (i + 1) = 2 * (rot v i % 2147483648) + rot v i / 2147483648 := by
  have hr := rot_lt v i hv (by omega)
  refine ⟨hr, ?_⟩
  have hM := Nat.two_pow_pos (31 - i)
  have e1 : 2 ^ (32 - i) = 2 ^ (31 - i) * 2 := by rw [← Nat.pow_succ]; congr 1; omega
  have e2 : 32 - (i + 1) = 31 - i := by omega
  have e3 : 2 ^ i * 2 ^ (31 - i) = 2147483648 := by rw [← Nat.pow_add, show i + (31 - i) = 31 by omega]
  have hw : v / 2 ^ (31 - i) < 2 * 2 ^ i := by
    rw [Nat.div_lt_iff_lt_mul hM, Nat.mul_assoc, e3]; exact hv
  have ht : v % 2 ^ (31 - i) + 1 ≤ 2 ^ (31 - i) := Nat.mod_lt _ hM
  have hy : 2 ^ i * (v % 2 ^ (31 - i)) + 2 ^ i ≤ 2147483648 := by
    have h := Nat.mul_le_mul_left (2 ^ i) ht
    rw [e3, Nat.mul_add, Nat.mul_one] at h
    exact h
  have r1 : rot v (i + 1) = 2 * (2 ^ i * (v % 2 ^ (31 - i))) + v / 2 ^ (31 - i) := by
    unfold rot
    rw [e2, Nat.pow_succ, Nat.mul_comm (2 ^ i) 2, Nat.mul_assoc]
  have r0 : rot v i = 2 ^ i * (v % 2 ^ (31 - i)) + 2147483648 * (v / 2 ^ (31 - i) % 2) + v / 2 ^ (31 - i) / 2 := by
    unfold rot
    rw [e1, Nat.mod_mul, ← Nat.div_div_eq_div_mul, Nat.mul_add, ← Nat.mul_assoc, e3]
  rw [r1, r0]
  clear r1 r0 e3 e1 hr ht
  generalize 2 ^ i * (v % 2 ^ (31 - i)) = y at *
  generalize v / 2 ^ (31 - i) = w at *
  generalize 2 ^ i = P at *
  omega
theorem turn_loop (v n : Nat) (hv : v < 4294967296) (hn : n < 32) (x : Int) (hx : halterref01_low.f x = some (n : Int)) (d : Nat) :
    ∀ (k i : Nat), n - i = d → i ≤ n → d < k → halterref01_Turn.l0 k ((rot v i : Nat) : Int) x i = some ((rot v n : Nat) : Int) := by
  induction d with
  | zero =>
    intro k i hd hi hk
    obtain ⟨k, rfl⟩ : ∃ m, k = m + 1 := ⟨k - 1, by omega⟩
    obtain rfl : i = n := by omega
    simp only [halterref01_Turn.l0]
    rw [hx, bind_go, if_neg (show ¬ ((i : Int) < (i : Int)) by omega)]
  | succ d ih =>
    intro k i hd hi hk
    obtain ⟨k, rfl⟩ : ∃ m, k = m + 1 := ⟨k - 1, by omega⟩
    obtain ⟨hr, hs⟩ := rot_succ v i hv (by omega)
    simp only [halterref01_Turn.l0]
    rw [hx, bind_go, if_pos (show (i : Int) < (n : Int) by omega)]
    have e : wrap64 (wrap64 (2 * Int.tmod (wrap64 ((rot v i : Nat) : Int)) 2147483648) + wrap64 (Int.tdiv (wrap64 ((rot v i : Nat) : Int)) 2147483648)) = ((rot v (i + 1) : Nat) : Int) := by
      rw [hs]
      clear hs ih hx
      generalize rot v i = r at *
      rw [w64 (x := (r : Int)) (by omega) (by omega), tmod_pos (by omega), tdiv_pos (by omega), w64 (x := 2 * ((r : Int) % 2147483648)) (by omega) (by omega), w64 (x := (r : Int) / 2147483648) (by omega) (by omega), w64 (by omega) (by omega)]
      omega
    have hl := rot_lt v (i + 1) hv (by omega)
    rw [e, of_eq, bind_go, w_succ i (by omega)]
    have e2 : ((rot v (i + 1) : Nat) : Int) % 4294967296 = ((rot v (i + 1) : Nat) : Int) := by clear e ih hx; generalize rot v (i + 1) = r at *; omega
    rw [e2]
    exact ih k (i + 1) (by omega) (by omega) (by omega)
theorem rot_zero (v : Nat) (hv : v < 4294967296) : rot v 0 = v := by
  have h1 : v % 4294967296 = v := Nat.mod_eq_of_lt hv
  have h2 : v / 4294967296 = 0 := Nat.div_eq_of_lt hv
  simp [rot, h1, h2]
theorem refturn_eq (v n : Nat) (hv : v < 4294967296) (hn : n < 32) (x : Int) (hx : halterref01_low.f x = some (n : Int)) (k : Nat) (hk : 40 ≤ k) : halterref01_Turn.f k v x = some ((rot v n : Nat) : Int) := by
  have h := turn_loop v n hv hn x hx n k 0 (by omega) (by omega) (by omega)
  rw [rot_zero v hv] at h
  exact h
def sgn (v : Nat) : Int := if 2147483648 ≤ v then (v : Int) - 4294967296 else v
theorem w32_sgn (v : Nat) (hv : v < 4294967296) : wrap32 (v : Int) = sgn v := by
  unfold sgn wrap32
  by_cases h : 2147483648 ≤ v
  · rw [if_pos h]; omega
  · rw [if_neg h]; omega
theorem sgn_bd (v : Nat) (hv : v < 4294967296) : -2147483648 ≤ sgn v ∧ sgn v ≤ 2147483647 ∧ sgn v % 4294967296 = v := by
  unfold sgn
  by_cases h : 2147483648 ≤ v
  · rw [if_pos h]; omega
  · rw [if_neg h]; omega
theorem half_step (y : Int) (h0 : -2147483648 ≤ y) (h1 : y ≤ 2147483647) :
    (wrap64 (wrap64 (Int.tdiv (wrap64 (y % 4294967296)) 2) + wrap64 (wrap64 (Int.tdiv (wrap64 (y % 4294967296)) 2147483648) * 2147483648))) % 4294967296 = (y / 2) % 4294967296 := by
  rw [w64 (x := y % 4294967296) (by omega) (by omega), tdiv_pos (by omega), tdiv_pos (by omega), w64 (x := y % 4294967296 / 2) (by omega) (by omega), w64 (x := y % 4294967296 / 2147483648) (by omega) (by omega), w64 (x := y % 4294967296 / 2147483648 * 2147483648) (by omega) (by omega), w64 (by omega) (by omega)]
  omega
theorem sar_bd (y : Int) (i : Nat) (h0 : -2147483648 ≤ y) (h1 : y ≤ 2147483647) : -2147483648 ≤ y / 2 ^ i ∧ y / 2 ^ i ≤ 2147483647 := by
  have hP : (0 : Int) < 2 ^ i := by have := Nat.two_pow_pos i; have c : ((2 ^ i : Nat) : Int) = 2 ^ i := by simp
                                    omega
  generalize (2 : Int) ^ i = P at *
  constructor
  · rw [Int.le_ediv_iff_mul_le hP]
    have : -2147483648 * P ≤ -2147483648 * 1 := Int.mul_le_mul_of_nonpos_left (by decide) hP
    omega
  · have : y / P < 2147483648 := by
      rw [Int.ediv_lt_iff_lt_mul hP]
      have : 2147483648 * 1 ≤ 2147483648 * P := Int.mul_le_mul_of_nonneg_left hP (by decide)
      omega
    omega
theorem sar_loop (v n : Nat) (hv : v < 4294967296) (hn : n < 32) (x : Int) (hx : halterref01_low.f x = some (n : Int)) (d : Nat) :
    ∀ (k i : Nat), n - i = d → i ≤ n → d < k → halterref01_Sar.l0 k (sgn v / 2 ^ i % 4294967296) x i = some (sgn v / 2 ^ n % 4294967296) := by
  induction d with
  | zero =>
    intro k i hd hi hk
    obtain ⟨k, rfl⟩ : ∃ m, k = m + 1 := ⟨k - 1, by omega⟩
    obtain rfl : i = n := by omega
    simp only [halterref01_Sar.l0]
    rw [hx, bind_go, if_neg (show ¬ ((i : Int) < (i : Int)) by omega)]
  | succ d ih =>
    intro k i hd hi hk
    obtain ⟨k, rfl⟩ : ∃ m, k = m + 1 := ⟨k - 1, by omega⟩
    obtain ⟨s0, s1, _⟩ := sgn_bd v hv
    obtain ⟨b0, b1⟩ := sar_bd (sgn v) i s0 s1
    have e : sgn v / 2 ^ (i + 1) = sgn v / 2 ^ i / 2 := by
      rw [Int.pow_succ]
      exact (Int.ediv_ediv_of_nonneg (Int.pow_nonneg (by decide))).symm
    have hI := ih k (i + 1) (by omega) (by omega) (by omega)
    rw [e] at hI
    simp only [halterref01_Sar.l0]
    rw [hx, bind_go, if_pos (show (i : Int) < (n : Int) by omega), half_step _ b0 b1, w_succ i (by omega)]
    exact hI
theorem refsar_eq (v n : Nat) (hv : v < 4294967296) (hn : n < 32) (x : Int) (hx : halterref01_low.f x = some (n : Int)) (k : Nat) (hk : 40 ≤ k) : halterref01_Sar.f k v x = some (sgn v / 2 ^ n % 4294967296) := by
  have h := sar_loop v n hv hn x hx n k 0 (by omega) (by omega) (by omega)
  have e : sgn v / 2 ^ 0 % 4294967296 = (v : Int) := by
    rw [Int.pow_zero, Int.ediv_one]
    exact (sgn_bd v hv).2.2
  rw [e] at h
  exact h
theorem sar_eq (v n : Nat) (hv : v < 4294967296) (hn : n < 32) (x : Int) (hx : (n : Int) = x % 32) : word_Sar.f v x = some (sgn v / 2 ^ n % 4294967296) := by
  unfold word_Sar.f
  rw [u64mod x n hn hx, if_pos (show (0 : Int) ≤ (n : Int) by omega), w32_sgn v hv, shr_eq .i32 _ n (show n ≤ 32 by omega)]
theorem shift_same (v : Nat) (x : Int) (hv : v < 4294967296) (h0 : -9223372036854775808 ≤ x) (h1 : x ≤ 9223372036854775807) (k : Nat) (hk : 100 ≤ k) : ∃ r, word_Shift.f v x = some r ∧ halterref01_Shift.f k v x = some r := by
  obtain ⟨n, hl, hn, hx⟩ := low_eq x
  by_cases hneg : x < 0
  · have hm : ∃ m : Nat, m < 32 ∧ m = (32 - n) % 32 := ⟨(32 - n) % 32, Nat.mod_lt _ (by decide), rfl⟩
    obtain ⟨m, hm, hmd⟩ := hm
    have hw : Int.tmod (IntKind.u64.wrap (wrap64 (-x))) 32 = (m : Int) := by
      rw [u64w, tmod_pos (by omega)]
      unfold wrap64
      omega
    have hw2 : Int.tmod (wrap64 (32 - (n : Int))) 32 = (m : Int) := by
      rw [w64 (by omega) (by omega), tmod_pos (by omega)]
      omega
    refine ⟨((v / 2 ^ m : Nat) : Int), ?_, ?_⟩
    · unfold word_Shift.f
      rw [if_pos hneg, hw, if_pos (show (0 : Int) ≤ (m : Int) by omega), down_eq v m (by omega)]
    · unfold halterref01_Shift.f
      rw [if_neg (show ¬ x ≥ 0 by omega), hl, bind_go, hw2, power_eq k m (by omega) (by omega), bind_go]
      have hP := Nat.two_pow_pos m
      have c : (2 : Int) ^ m = ((2 ^ m : Nat) : Int) := by simp
      have e1 : (v : Int) / ((2 ^ m : Nat) : Int) = ((v / 2 ^ m : Nat) : Int) := by simp
      have hle : v / 2 ^ m ≤ v := Nat.div_le_self _ _
      rw [c, if_neg (show ¬ (((2 ^ m : Nat) : Int) = 0) by clear hw hw2 e1 c; omega), w64 (x := (v : Int)) (by clear hw hw2 e1 c; omega) (by clear hw hw2 e1 c; omega), tdiv_pos (Int.natCast_nonneg v), e1]
      clear hw hw2 e1 c
      generalize v / 2 ^ m = q at *
      rw [w64 (by omega) (by omega)]
      congr 1
      omega
  · refine ⟨((2 ^ n * (v % 2 ^ (32 - n)) : Nat) : Int), ?_, ?_⟩
    · unfold word_Shift.f
      rw [if_neg hneg, u64mod x n hn hx, if_pos (show (0 : Int) ≤ (n : Int) by omega), up_eq v n (by omega)]
    · unfold halterref01_Shift.f
      have hp := rot_parts v n hv (by omega)
      have hr := rot_lt v n hv (by omega)
      have hP := Nat.two_pow_pos n
      have c : (2 : Int) ^ n = ((2 ^ n : Nat) : Int) := by simp
      rw [if_pos (show x ≥ 0 by omega), refturn_eq v n hv hn x hl k (by omega), bind_go, bind_go, hl, bind_go, power_eq k n (by omega) (by omega), bind_go, c, if_neg (show ¬ (((2 ^ n : Nat) : Int) = 0) by clear c; omega)]
      have e1 : Int.tmod (wrap64 ((rot v n : Nat) : Int)) ((2 ^ n : Nat) : Int) = ((v / 2 ^ (32 - n) : Nat) : Int) := by
        rw [w64 (by clear c; omega) (by clear c; omega), tmod_pos (Int.natCast_nonneg _)]
        have e2 : ((rot v n : Nat) : Int) % ((2 ^ n : Nat) : Int) = ((rot v n % 2 ^ n : Nat) : Int) := by simp
        rw [e2]
        unfold rot
        rw [Nat.mul_add_mod, Nat.mod_eq_of_lt hp.1]
      rw [e1]
      clear e1 c
      unfold rot at hr ⊢
      generalize v / 2 ^ (32 - n) = q at *
      generalize 2 ^ n * (v % 2 ^ (32 - n)) = y at *
      congr 1
      omega
theorem refsext_out (v : Nat) (x : Int) (h : x < 1 ∨ x > 31) (k : Nat) : halterref01_Sext.f (k + 1) v x = some (v : Int) := by
  unfold halterref01_Sext.f
  by_cases a : x < 1
  · rw [if_pos a]
    simp only [halterref01_Sext.j0]
    rw [if_pos trivial]
  · rw [if_neg a, show decide (x > 31) = true from decide_eq_true (by omega)]
    simp only [halterref01_Sext.j0]
    rw [if_pos trivial]
theorem refsext_eq (v n : Nat) (hv : v < 4294967296) (h1 : 1 ≤ n) (h2 : n ≤ 31) (k : Nat) (hk : 100 ≤ k) :
    halterref01_Sext.f (k + 1) v n = some (if 2 ^ (n - 1) ≤ v % 2 ^ n then ((v % 2 ^ n : Nat) : Int) - 2 ^ n + 4294967296 else ((v % 2 ^ n : Nat) : Int)) := by
  unfold halterref01_Sext.f
  rw [if_neg (show ¬ (n : Int) < 1 by omega), show decide ((n : Int) > 31) = false from decide_eq_false (by omega)]
  simp only [halterref01_Sext.j0]
  have e0 : wrap64 ((n : Int) - 1) = ((n - 1 : Nat) : Int) := by rw [w64 (by omega) (by omega)]; omega
  have c : (2 : Int) ^ n = ((2 ^ n : Nat) : Int) := by simp
  have c1 : (2 : Int) ^ (n - 1) = ((2 ^ (n - 1) : Nat) : Int) := by simp
  have hP := Nat.two_pow_pos n
  have hP2 : 2 ^ n ≤ 2 ^ 31 := Nat.pow_le_pow_right (by decide) h2
  have e1 : Int.tmod (wrap64 (v : Int)) ((2 ^ n : Nat) : Int) = ((v % 2 ^ n : Nat) : Int) := by
    rw [w64 (by clear e0 c c1; omega) (by clear e0 c c1; omega), tmod_pos (Int.natCast_nonneg v)]
    simp
  rw [if_neg (show ¬ (false = true) by decide), power_eq k n (by omega) (by clear e0; omega), bind_go, e0, power_eq k (n - 1) (by clear e0; omega) (by clear e0; omega), c, c1, if_neg (show ¬ (((2 ^ n : Nat) : Int) = 0) by clear e0 e1 c c1; omega), bind_go, e1]
  have hx : v % 2 ^ n < 2 ^ n := Nat.mod_lt _ hP
  clear e1 e0 c c1
  generalize v % 2 ^ n = m at *
  generalize 2 ^ (n - 1) = H at *
  generalize 2 ^ n = P at *
  by_cases hc : H ≤ m
  · rw [if_pos (show (m : Int) ≥ (H : Int) by omega), if_pos hc, bind_go, of_eq, bind_go, w64 (by omega) (by omega)]
    congr 1
    omega
  · rw [if_neg (show ¬ ((m : Int) ≥ (H : Int)) by omega), if_neg hc, of_eq, bind_go]
    congr 1
    omega
theorem sext_out (v : Nat) (x : Int) (h : x < 1 ∨ x > 31) : word_Sext.f v x = some (v : Int) := by
  unfold word_Sext.f
  by_cases a : x < 1
  · rw [if_pos a]
  · rw [if_neg a, if_pos (show x ≥ 32 by omega)]
theorem sext_same (v : Nat) (x : Int) (hv : v < 4294967296) : ∃ r, word_Sext.f v x = some r ∧ halterref01_Sext.f 150 v x = some r := by
  by_cases h : x < 1 ∨ x > 31
  · exact ⟨_, sext_out v x h, refsext_out v x h 149⟩
  · obtain ⟨n, rfl⟩ := Int.eq_ofNat_of_zero_le (show 0 ≤ x by omega)
    exact ⟨_, sext_eq v n hv (by omega) (by omega), refsext_eq v n hv (by omega) (by omega) 149 (by decide)⟩
/-- How many bits a number has. -/
def bl : Nat → Nat → Nat
  | 0, _ => 0
  | k + 1, x => if x = 0 then 0 else bl k (x / 2) + 1
theorem bl8 (k x : Nat) (h : 256 ≤ x) : bl (k + 8) x = bl k (x / 256) + 8 := by
  have e : x / 2 / 2 / 2 / 2 / 2 / 2 / 2 / 2 = x / 256 := by omega
  simp only [bl]
  rw [if_neg (by omega), if_neg (by omega), if_neg (by omega), if_neg (by omega), if_neg (by omega), if_neg (by omega), if_neg (by omega), if_neg (by omega), e]
theorem tab_all : ((List.range 256).all fun x => decide (tabf (x : Int) = (bl 8 x : Nat)) && decide (tabf (x : Int) = (bl 16 x : Nat)) && decide (tabf (x : Int) = (bl 24 x : Nat)) && decide (tabf (x : Int) = (bl 32 x : Nat)) && decide (bl 8 x ≤ 8)) = true := by decide +kernel
theorem tab_at (x : Nat) (h : x < 256) : tabf (x : Int) = (bl 8 x : Nat) ∧ tabf (x : Int) = (bl 16 x : Nat) ∧ tabf (x : Int) = (bl 24 x : Nat) ∧ tabf (x : Int) = (bl 32 x : Nat) ∧ bl 8 x ≤ 8 := by
  have h := List.all_eq_true.1 tab_all x (List.mem_range.2 h)
  simp only [Bool.and_eq_true, decide_eq_true_eq] at h
  exact ⟨h.1.1.1.1, h.1.1.1.2, h.1.1.2, h.1.2, h.2⟩
theorem LenF_eq (g : Int → Int) (hg : ∀ x : Nat, x < 256 → g (x : Int) = (bl 8 x : Nat) ∧ g (x : Int) = (bl 16 x : Nat) ∧ g (x : Int) = (bl 24 x : Nat) ∧ g (x : Int) = (bl 32 x : Nat) ∧ bl 8 x ≤ 8) (v : Nat) (hv : v < 4294967296) :
    LenF g v = some ((bl 32 v : Nat) : Int) ∧ bl 32 v ≤ 32 := by
  have fin : ∀ (c b : Nat) (y z : Int), c ≤ 24 → b ≤ 8 → y = z → g z = (b : Nat) → wrap64 ((c : Int) + wrap64 (g y)) = ((b + c : Nat) : Int) := by
    intro c b y z h1 h2 e h3
    subst e
    rw [h3, w64 (x := (b : Int)) (by omega) (by omega), w64 (by omega) (by omega)]
    omega
  unfold LenF
  by_cases c1 : 65536 ≤ v
  · rw [if_pos (show (v : Int) ≥ 65536 by omega)]
    have e1 : bl 32 v = bl 16 (v / 65536) + 16 := by
      rw [bl8 24 v (by omega), bl8 16 (v / 256) (by omega), Nat.div_div_eq_div_mul]
    by_cases c2 : 256 ≤ v / 65536
    · have e2 : bl 16 (v / 65536) = bl 8 (v / 65536 / 256) + 8 := bl8 8 _ c2
      have ht := hg (v / 65536 / 256) (by omega)
      rw [if_pos (show (v : Int) / 65536 ≥ 256 by omega), if_pos (show (0 : Int) ≤ (v : Int) / 65536 / 256 % 256 by omega), if_pos (show (v : Int) / 65536 / 256 % 256 < 256 by omega), e1, e2]
      have hf := fin 24 _ ((v : Int) / 65536 / 256 % 256) _ (by decide) ht.2.2.2.2 (by omega) ht.1
      refine ⟨?_, by omega⟩
      exact congrArg some hf
    · have ht := hg (v / 65536) (by omega)
      have e2 : bl 16 (v / 65536) = bl 8 (v / 65536) := by
        have := ht.1.symm.trans ht.2.1
        omega
      rw [if_neg (show ¬ ((v : Int) / 65536 ≥ 256) by omega), if_pos (show (0 : Int) ≤ (v : Int) / 65536 % 256 by omega), if_pos (show (v : Int) / 65536 % 256 < 256 by omega), e1, e2]
      have hf := fin 16 _ ((v : Int) / 65536 % 256) _ (by decide) ht.2.2.2.2 (by omega) ht.1
      exact ⟨congrArg some hf, by omega⟩
  · rw [if_neg (show ¬ ((v : Int) ≥ 65536) by omega)]
    by_cases c2 : 256 ≤ v
    · have ht := hg (v / 256) (by omega)
      have e1 : bl 32 v = bl 24 (v / 256) + 8 := bl8 24 _ c2
      have e2 : bl 24 (v / 256) = bl 8 (v / 256) := by
        have := ht.1.symm.trans ht.2.2.1
        omega
      rw [if_pos (show (v : Int) ≥ 256 by omega), if_pos (show (0 : Int) ≤ (v : Int) / 256 % 256 by omega), if_pos (show (v : Int) / 256 % 256 < 256 by omega), e1, e2]
      have hf := fin 8 _ ((v : Int) / 256 % 256) _ (by decide) ht.2.2.2.2 (by omega) ht.1
      exact ⟨congrArg some hf, by omega⟩
    · have ht := hg v (by omega)
      have e2 : bl 32 v = bl 8 v := by
        have := ht.1.symm.trans ht.2.2.2.1
        omega
      rw [if_neg (show ¬ ((v : Int) ≥ 256) by omega), if_pos (show (0 : Int) ≤ (v : Int) % 256 by omega), if_pos (show (v : Int) % 256 < 256 by omega), e2]
      have hf := fin 0 _ ((v : Int) % 256) _ (by decide) ht.2.2.2.2 (by omega) ht.1
      exact ⟨congrArg some hf, by omega⟩
theorem zeros_eq (v : Nat) (hv : v < 4294967296) : word_Zeros.f v = some (32 - ((bl 32 v : Nat) : Int)) ∧ bl 32 v ≤ 32 := by
  obtain ⟨h1, h2⟩ := LenF_eq tabf tab_at v hv
  refine ⟨?_, h2⟩
  unfold word_Zeros.f bits_LeadingZeros32.f
  rw [len_form, h1, bind_go, bind_go, w64 (by omega) (by omega)]
theorem refzeros_loop (j : Nat) : ∀ (k x r : Nat), x < 2 ^ j → j < k → j ≤ r → r ≤ 32 → halterref01_Zeros.l0 k x r = some ((r : Int) - (bl j x : Nat)) := by
  induction j with
  | zero =>
    intro k x r hx hk hr hr2
    obtain ⟨k, rfl⟩ : ∃ m, k = m + 1 := ⟨k - 1, by omega⟩
    obtain rfl : x = 0 := by simpa using hx
    simp only [halterref01_Zeros.l0, bl]
    rw [if_neg (by decide)]
    simp
  | succ j ih =>
    intro k x r hx hk hr hr2
    obtain ⟨k, rfl⟩ : ∃ m, k = m + 1 := ⟨k - 1, by omega⟩
    simp only [halterref01_Zeros.l0, bl]
    by_cases h0 : x = 0
    · rw [if_neg (show ¬ ((x : Int) > 0) by omega), if_pos h0]
      simp
    · have hj : 2 ^ (j + 1) ≤ 2 ^ 32 := Nat.pow_le_pow_right (by decide) (by omega)
      have h2 : x / 2 < 2 ^ j := by rw [Nat.pow_succ] at hx; omega
      have e1 : Int.tdiv (x : Int) 2 % 4294967296 = ((x / 2 : Nat) : Int) := by
        rw [tdiv_pos (Int.natCast_nonneg x)]
        have : x < 4294967296 := by have h : x < 2 ^ 32 := Nat.lt_of_lt_of_le hx hj
                                    exact h
        omega
      have e2 : wrap64 ((r : Int) - 1) = ((r - 1 : Nat) : Int) := by rw [w64 (by omega) (by omega)]; omega
      rw [if_pos (show (x : Int) > 0 by omega), if_neg h0, e1, e2, ih k (x / 2) (r - 1) h2 (by omega) (by omega) (by omega)]
      clear e2 e1
      congr 1
      omega
theorem WordShifts : halterlaw01_WordShifts.Pure := by
  intro a b c ha hb hc
  obtain ⟨ha0, ha1⟩ := u32_bd ha
  obtain ⟨hb0, hb1⟩ := i64_bd hb
  obtain ⟨v, rfl⟩ := Int.eq_ofNat_of_zero_le ha0
  have hs : halterlaw01_sure.f 150 = some true := by decide +kernel
  have hv : v < 4294967296 := by omega
  obtain ⟨n, hl, hn, hx⟩ := low_eq b
  obtain ⟨r, r1, r2⟩ := shift_same v b hv hb0 hb1 150 (by decide)
  obtain ⟨s, s1, s2⟩ := sext_same v c hv
  obtain ⟨z1, z2⟩ := zeros_eq v hv
  have z3 : halterref01_Zeros.f 150 v = some (32 - ((bl 32 v : Nat) : Int)) := refzeros_loop 32 150 v 32 hv (by decide) (by decide) (by decide)
  refine ⟨150, ?_⟩
  unfold halterlaw01_WordShifts.f
  rw [r1, bind_go, r2, bind_go, if_pos rfl, sar_eq v n hv hn b hx, bind_go, refsar_eq v n hv hn b hl 150 (by decide), bind_go, if_pos rfl, turn_eq v b n hv hn (u64mod b n hn hx), bind_go, refturn_eq v n hv hn b hl 150 (by decide), bind_go, if_pos rfl, s1, bind_go, s2, bind_go, if_pos rfl, z1, bind_go, z3, bind_go, if_pos rfl, hs, bind_go]

end Go.Proofs.Ytgomfkjdffcbhaa.Pure
