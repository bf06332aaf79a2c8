/- Floats by their bits: what they are in whole numbers, and soft's functions' contracts, proved by hand. -/
import Derived.LaidEql
import Derived.Stop.Asserts
import Derived.Test.YtllannmegnklmaaProg
import Derived.WalkKit
import Derived.RowKitTokens
import Derived.WideLaws
import Derived.Below
import Derived.Laws.FloatArith
import Derived.KernelRfl
set_option linter.unusedVariables false
set_option linter.unusedSimpArgs false
set_option linter.unnecessarySimpa false
namespace Go.Proofs.YtllannmegnklmaaF
open Go Go.RowKit Go.Extern
/-! Floats of 64 bits by whole numbers: units of 2^-1074. -/
abbrev D : Ieee.Format := Ieee.double
theorem D_eq : FloatKind.f64.format = D := rfl
theorem D_binade : D.binade = 4503599627370496 := by decide
theorem D_inf : D.infRung = 9218868437227405312 := by decide
theorem D_sign : D.signWeight = 9223372036854775808 := by decide
theorem D_least : D.leastPlace = -1074 := by decide
theorem D_frac : D.fractionBits = 52 := rfl
/-- To the nearest, ties to even: n / 2^d. -/
def rne (n d : Nat) : Nat := n / 2 ^ d + (decide (2 ^ d < 2 * (n % 2 ^ d)) || (decide (2 ^ d = 2 * (n % 2 ^ d)) && n / 2 ^ d % 2 == 1)).toNat
theorem shl_mul (n k : Nat) : n <<< k = n * 2 ^ k := Nat.shiftLeft_eq n k
theorem cut_rne (neg : Bool) (n d : Nat) : Ieee.Toward.even.cut neg n d = rne n d := by
  unfold Ieee.Toward.cut rne
  dsimp only
  rw [Nat.shiftLeft_eq, Nat.one_mul]
  by_cases h : d ≤ n.log2 + 2
  · rw [Nat.min_eq_left h]
    rfl
  · rw [Nat.min_eq_right (by omega)]
    have h1 : n < 2 ^ (n.log2 + 1) := Nat.lt_log2_self
    have h2 : 2 ^ (n.log2 + 2) = 2 * 2 ^ (n.log2 + 1) := by rw [Nat.pow_succ]; omega
    have h3 : 2 ^ (n.log2 + 2) ≤ 2 ^ d := Nat.pow_le_pow_right (by omega) (by omega)
    have e1 : n / 2 ^ (n.log2 + 2) = 0 := Nat.div_eq_of_lt (by omega)
    have e2 : n % 2 ^ (n.log2 + 2) = n := Nat.mod_eq_of_lt (by omega)
    have e3 : n / 2 ^ d = 0 := Nat.div_eq_of_lt (by omega)
    have e4 : n % 2 ^ d = n := Nat.mod_eq_of_lt (by omega)
    rw [e1, e2, e3, e4]
    have f1 : decide (2 ^ (n.log2 + 2) < 2 * n) = false := decide_eq_false (by omega)
    have f2 : decide (2 ^ d < 2 * n) = false := decide_eq_false (by omega)
    simp [f1, f2]
theorem rne_zero (n : Nat) : rne n 0 = n := by
  unfold rne
  rw [Nat.pow_zero, Nat.div_one, Nat.mod_one]
  simp
theorem rne_scale (n d j : Nat) : rne (n * 2 ^ j) (d + j) = rne n d := by
  have hp := Nat.two_pow_pos j
  have hd := Nat.two_pow_pos d
  have e1 : n * 2 ^ j / 2 ^ (d + j) = n / 2 ^ d := by rw [Nat.pow_add, Nat.mul_div_mul_right _ _ hp]
  have e2 : n * 2 ^ j % 2 ^ (d + j) = n % 2 ^ d * 2 ^ j := by rw [Nat.pow_add, Nat.mul_mod_mul_right]
  have e3 : (2 ^ (d + j) < 2 * (n % 2 ^ d * 2 ^ j)) = (2 ^ d < 2 * (n % 2 ^ d)) := by
    rw [Nat.pow_add, ← Nat.mul_assoc, eq_iff_iff]
    exact Nat.mul_lt_mul_right hp
  have e4 : (2 ^ (d + j) = 2 * (n % 2 ^ d * 2 ^ j)) = (2 ^ d = 2 * (n % 2 ^ d)) := by
    rw [Nat.pow_add, ← Nat.mul_assoc, eq_iff_iff]
    exact Nat.mul_left_inj (by omega)
  unfold rne
  simp only [e1, e2, e3, e4]
theorem rne_exact (n d : Nat) : rne (n * 2 ^ d) d = n := by
  have := rne_scale n 0 d
  rw [Nat.zero_add, rne_zero] at this
  exact this
theorem log2_shift (m k : Nat) (h : m ≠ 0) : (m * 2 ^ k).log2 = m.log2 + k := by
  have hp := Nat.two_pow_pos k
  have hne : m * 2 ^ k ≠ 0 := by
    intro e
    rcases Nat.mul_eq_zero.1 e with e | e
    · exact h e
    · omega
  rw [Nat.log2_eq_iff hne]
  have h1 := Nat.log2_self_le h
  have h2 : m < 2 ^ (m.log2 + 1) := Nat.lt_log2_self
  constructor
  · rw [Nat.pow_add]; exact Nat.mul_le_mul_right _ h1
  · rw [show m.log2 + k + 1 = m.log2 + 1 + k by omega, Nat.pow_add]
    exact (Nat.mul_lt_mul_right hp).2 h2
/-- The rung that is nearest to so many units. -/
def rnd (N : Nat) : Nat := if N = 0 then 0 else min ((N.log2 - 52) * 4503599627370496 + rne N (N.log2 - 52)) 9218868437227405312
def wordN (neg : Bool) (r : Nat) : Nat := if neg then 9223372036854775808 + r else r
theorem word_eq (neg : Bool) (r : Nat) : D.word neg r = wordN neg r := by unfold Ieee.Format.word wordN; rw [D_sign]
theorem nearest_eq (neg : Bool) (m : Nat) (p : Int) : D.nearest neg m p = if m = 0 then wordN neg 0 else wordN neg (min ((max (p + m.log2 - 52) (-1074) + 1074).toNat * 4503599627370496 + rne (m * 2 ^ (p - max (p + m.log2 - 52) (-1074)).toNat) (max (p + m.log2 - 52) (-1074) - p).toNat) 9218868437227405312) := by
  unfold Ieee.Format.nearest
  by_cases h : m = 0
  · rw [if_pos h, if_pos h, word_eq]
  · rw [if_neg h, if_neg h]
    dsimp only
    rw [word_eq, cut_rne, Nat.shiftLeft_eq, D_binade, D_inf, D_least, D_frac]
    rfl
/-- The same number told otherwise. -/
theorem nearest_scale (neg : Bool) (m k : Nat) (p : Int) : D.nearest neg (m * 2 ^ k) (p - k) = D.nearest neg m p := by
  rw [nearest_eq, nearest_eq]
  have hp := Nat.two_pow_pos k
  by_cases h : m = 0
  · subst h; rw [if_pos (by simp), if_pos rfl]
  · have hne : ¬ m * 2 ^ k = 0 := by
      intro e
      rcases Nat.mul_eq_zero.1 e with e | e
      · exact h e
      · omega
    rw [if_neg hne, if_neg h, log2_shift m k h]
    have e1 : p - (k : Int) + ((m.log2 + k : Nat) : Int) - 52 = p + (m.log2 : Int) - 52 := by omega
    rw [e1]
    generalize max (p + (m.log2 : Int) - 52) (-1074) = L
    congr 3
    by_cases h1 : L ≤ p - k
    · have a1 : (L - (p - k)).toNat = 0 := by omega
      have a2 : (L - p).toNat = 0 := by omega
      have a3 : (p - L).toNat = k + (p - k - L).toNat := by omega
      rw [a1, a2, rne_zero, rne_zero, a3, Nat.pow_add, Nat.mul_assoc]
    · by_cases h2 : L ≤ p
      · have a1 : (p - k - L).toNat = 0 := by omega
        have a2 : (L - p).toNat = 0 := by omega
        have a3 : k = (p - L).toNat + (L - (p - k)).toNat := by omega
        rw [a1, a2, rne_zero, Nat.pow_zero, Nat.mul_one]
        conv => lhs; rw [a3]
        rw [Nat.pow_add, ← Nat.mul_assoc, show (L - (p - ↑((p - L).toNat + (L - (p - ↑k)).toNat))).toNat = (L - (p - k)).toNat by omega, rne_exact]
      · have a1 : (p - k - L).toNat = 0 := by omega
        have a2 : (p - L).toNat = 0 := by omega
        have a3 : (L - (p - k)).toNat = (L - p).toNat + k := by omega
        rw [a1, a2, a3, Nat.pow_zero, Nat.mul_one, Nat.mul_one, rne_scale]
/-- At a place that is not below the least one: by units. -/
theorem nearest_units (neg : Bool) (m j : Nat) : D.nearest neg m ((j : Int) - 1074) = wordN neg (rnd (m * 2 ^ j)) := by
  have h := nearest_scale neg m j ((j : Int) - 1074)
  rw [show (j : Int) - 1074 - j = -1074 by omega] at h
  rw [← h, nearest_eq]
  unfold rnd
  by_cases h0 : m * 2 ^ j = 0
  · rw [if_pos h0, if_pos h0]
  · rw [if_neg h0, if_neg h0]
    generalize m * 2 ^ j = N
    have a1 : (max (-1074 + (N.log2 : Int) - 52) (-1074) + 1074).toNat = N.log2 - 52 := by omega
    have a2 : (-1074 - max (-1074 + (N.log2 : Int) - 52) (-1074)).toNat = 0 := by omega
    have a3 : (max (-1074 + (N.log2 : Int) - 52) (-1074) - -1074).toNat = N.log2 - 52 := by omega
    rw [a1, a2, a3, Nat.pow_zero, Nat.mul_one]
/-! Words, by sign and rung. -/
def sg (x : Nat) : Bool := x / 9223372036854775808 % 2 == 1
def rg (x : Nat) : Nat := x % 9223372036854775808
/-- A rung's units. -/
def mag (r : Nat) : Nat := if r < 4503599627370496 then r else (4503599627370496 + r % 4503599627370496) * 2 ^ (r / 4503599627370496 - 1)
def val (x : Nat) : Int := if sg x then -(mag (rg x) : Int) else (mag (rg x) : Int)
abbrev fin (x : Nat) : Prop := rg x < 9218868437227405312
theorem word_self (x : Nat) (h : x < 18446744073709551616) : wordN (sg x) (rg x) = x := by
  unfold wordN sg rg
  by_cases h1 : x / 9223372036854775808 % 2 = 1
  · rw [if_pos (by rw [beq_iff_eq]; exact h1)]; omega
  · rw [if_neg (by rw [beq_iff_eq]; exact h1)]; omega
theorem read_fin (x : Nat) (h : fin x) : ∃ m j : Nat, D.read x = .number (sg x) m ((j : Int) - 1074) ∧ m * 2 ^ j = mag (rg x) := by
  unfold Ieee.Format.read
  rw [D_sign, D_binade, D_inf, D_least]
  dsimp only
  show ∃ m j : Nat, (if rg x < 4503599627370496 then Ieee.Datum.number (sg x) (rg x) (-1074) else if rg x < 9218868437227405312 then .number (sg x) (4503599627370496 + rg x % 4503599627370496) (-1074 + ((rg x / 4503599627370496 - 1 : Nat) : Int)) else if rg x = 9218868437227405312 then .infinity (sg x) else .nan (sg x) (rg x - 9218868437227405312)) = _ ∧ _
  unfold mag
  by_cases h1 : rg x < 4503599627370496
  · rw [if_pos h1, if_pos h1]
    exact ⟨rg x, 0, rfl, by rw [Nat.pow_zero, Nat.mul_one]⟩
  · rw [if_neg h1, if_pos h, if_neg h1]
    exact ⟨_, rg x / 4503599627370496 - 1, by rw [show (-1074 : Int) + ((rg x / 4503599627370496 - 1 : Nat) : Int) = ((rg x / 4503599627370496 - 1 : Nat) : Int) - 1074 by omega], rfl⟩
theorem read_inf (x : Nat) (h : rg x = 9218868437227405312) : D.read x = .infinity (sg x) := by
  unfold Ieee.Format.read
  rw [D_sign, D_binade, D_inf, D_least]
  dsimp only
  show (if rg x < 4503599627370496 then Ieee.Datum.number (sg x) (rg x) (-1074) else if rg x < 9218868437227405312 then .number (sg x) (4503599627370496 + rg x % 4503599627370496) (-1074 + ((rg x / 4503599627370496 - 1 : Nat) : Int)) else if rg x = 9218868437227405312 then .infinity (sg x) else .nan (sg x) (rg x - 9218868437227405312)) = _
  rw [if_neg (by omega), if_neg (by omega), if_pos h]
theorem read_nan (x : Nat) (h : 9218868437227405312 < rg x) : D.read x = .nan (sg x) (rg x - 9218868437227405312) := by
  unfold Ieee.Format.read
  rw [D_sign, D_binade, D_inf, D_least]
  dsimp only
  show (if rg x < 4503599627370496 then Ieee.Datum.number (sg x) (rg x) (-1074) else if rg x < 9218868437227405312 then .number (sg x) (4503599627370496 + rg x % 4503599627370496) (-1074 + ((rg x / 4503599627370496 - 1 : Nat) : Int)) else if rg x = 9218868437227405312 then .infinity (sg x) else .nan (sg x) (rg x - 9218868437227405312)) = _
  rw [if_neg (by omega), if_neg (by omega), if_neg (by omega)]
theorem log2_of {n k : Nat} (h1 : 2 ^ k ≤ n) (h2 : n < 2 ^ (k + 1)) : n.log2 = k := by
  have hp := Nat.two_pow_pos k
  exact (Nat.log2_eq_iff (by omega)).2 ⟨h1, h2⟩
theorem rnd_mag (r : Nat) (h : r < 9218868437227405312) : rnd (mag r) = r := by
  unfold mag
  by_cases h1 : r < 4503599627370496
  · rw [if_pos h1]
    unfold rnd
    by_cases h0 : r = 0
    · rw [if_pos h0, h0]
    · have hl : r.log2 < 52 := (Nat.log2_lt h0).2 (by omega)
      rw [if_neg h0, show r.log2 - 52 = 0 by omega, rne_zero]
      omega
  · rw [if_neg h1]
    have hq : 4503599627370496 + r % 4503599627370496 ≠ 0 := by omega
    have hl : (4503599627370496 + r % 4503599627370496).log2 = 52 := log2_of (by omega) (by omega)
    have hp := Nat.two_pow_pos (r / 4503599627370496 - 1)
    unfold rnd
    rw [if_neg (fun e => by rcases Nat.mul_eq_zero.1 e with e | e <;> omega), log2_shift _ _ hq, hl, show 52 + (r / 4503599627370496 - 1) - 52 = r / 4503599627370496 - 1 by omega, rne_exact]
    omega
theorem mag_rnd (q k : Nat) (hq : 4503599627370496 ≤ q) (hq2 : q < 9007199254740992) (hk : k < 2046) : rnd (q * 2 ^ k) < 9218868437227405312 ∧ mag (rnd (q * 2 ^ k)) = q * 2 ^ k := by
  have hl : q.log2 = 52 := log2_of (by omega) (by omega)
  have hp := Nat.two_pow_pos k
  have e : rnd (q * 2 ^ k) = k * 4503599627370496 + q := by
    unfold rnd
    rw [if_neg (fun e => by rcases Nat.mul_eq_zero.1 e with e | e <;> omega), log2_shift _ _ (by omega), hl, show 52 + k - 52 = k by omega, rne_exact]
    omega
  rw [e]
  refine ⟨by omega, ?_⟩
  unfold mag
  rw [if_neg (by omega), show (k * 4503599627370496 + q) / 4503599627370496 - 1 = k by omega, show 4503599627370496 + (k * 4503599627370496 + q) % 4503599627370496 = q by omega]
theorem mag_small (q : Nat) (hq : q < 4503599627370496) : rnd q < 9218868437227405312 ∧ mag (rnd q) = q := by
  have : rnd q = q := by
    have := rnd_mag q (by omega)
    unfold mag at this
    rw [if_pos hq] at this
    exact this
  rw [this]
  refine ⟨by omega, ?_⟩
  unfold mag; rw [if_pos hq]
/-- Any number of 53 bits at most at any place from the least one on, is one of the format's. -/
theorem mag_exact (m j : Nat) (hm : m < 9007199254740992) (hj : j < 1994) : rnd (m * 2 ^ j) < 9218868437227405312 ∧ mag (rnd (m * 2 ^ j)) = m * 2 ^ j := by
  by_cases h0 : m = 0
  · subst h0; rw [Nat.zero_mul]; exact mag_small 0 (by omega)
  · have hl : m.log2 < 53 := (Nat.log2_lt h0).2 (by omega)
    have h1 := Nat.log2_self_le h0
    have h2 : m < 2 ^ (m.log2 + 1) := Nat.lt_log2_self
    by_cases hs : m.log2 + j < 52
    · refine mag_small _ ?_
      have : m * 2 ^ j < 2 ^ (m.log2 + 1) * 2 ^ j := (Nat.mul_lt_mul_right (Nat.two_pow_pos j)).2 h2
      have h3 : 2 ^ (m.log2 + 1) * 2 ^ j ≤ 2 ^ 52 := by rw [← Nat.pow_add]; exact Nat.pow_le_pow_right (by omega) (by omega)
      omega
    · obtain ⟨k, hk⟩ : ∃ k, m.log2 + j = 52 + k := ⟨m.log2 + j - 52, by omega⟩
      have e : m * 2 ^ j = m * 2 ^ (52 - m.log2) * 2 ^ k := by rw [Nat.mul_assoc, ← Nat.pow_add, show 52 - m.log2 + k = j by omega]
      have b1 : 2 ^ m.log2 * 2 ^ (52 - m.log2) ≤ m * 2 ^ (52 - m.log2) := Nat.mul_le_mul_right _ h1
      have b2 : m * 2 ^ (52 - m.log2) < 2 ^ (m.log2 + 1) * 2 ^ (52 - m.log2) := (Nat.mul_lt_mul_right (Nat.two_pow_pos _)).2 h2
      rw [← Nat.pow_add, show m.log2 + (52 - m.log2) = 52 by omega] at b1
      rw [← Nat.pow_add, show m.log2 + 1 + (52 - m.log2) = 53 by omega] at b2
      rw [e]
      exact mag_rnd _ k (by omega) (by omega) (by omega)
/-! The operations at finite words. -/
theorem signed_eq (s : Bool) (m k : Nat) : Ieee.signed s m k = if s then -((m * 2 ^ k : Nat) : Int) else ((m * 2 ^ k : Nat) : Int) := by
  unfold Ieee.signed; rw [Nat.shiftLeft_eq]
theorem val_of {x m j : Nat} (h : m * 2 ^ j = mag (rg x)) : val x = if sg x then -((m * 2 ^ j : Nat) : Int) else ((m * 2 ^ j : Nat) : Int) := by
  unfold val; rw [h]
theorem signed_units {x m j b : Nat} (h : m * 2 ^ j = mag (rg x)) (hb : b ≤ j) : Ieee.signed (sg x) m (j - b) * ((2 ^ b : Nat) : Int) = val x := by
  rw [signed_eq, val_of h]
  have e : ((m * 2 ^ (j - b) : Nat) : Int) * ((2 ^ b : Nat) : Int) = ((m * 2 ^ j : Nat) : Int) := by
    rw [← Int.natCast_mul, Nat.mul_assoc, ← Nat.pow_add, show j - b + b = j by omega]
  cases sg x
  · rw [if_neg (by simp), if_neg (by simp), e]
  · rw [if_pos rfl, if_pos rfl, Int.neg_mul, e]
theorem cmp_int (u v : Int) : compare u v = if u < v then .lt else if u = v then .eq else .gt := rfl
theorem cmp_scale (u v : Int) (c : Nat) (hc : 0 < c) : compare (u * (c : Int)) (v * (c : Int)) = compare u v := by
  rw [cmp_int, cmp_int]
  have h1 : (u * (c : Int) < v * (c : Int)) = (u < v) := by
    rw [eq_iff_iff]; exact Int.mul_lt_mul_right (by omega)
  have h2 : (u * (c : Int) = v * (c : Int)) = (u = v) := by
    rw [eq_iff_iff]
    constructor
    · intro h; exact Int.eq_of_mul_eq_mul_right (by omega) h
    · intro h; rw [h]
  simp only [h1, h2]
theorem base_eq (i j : Nat) : min ((i : Int) - 1074) ((j : Int) - 1074) = ((min i j : Nat) : Int) - 1074 := by omega
theorem order_fin (x y : Nat) (hx : fin x) (hy : fin y) : D.order x y = some (compare (val x) (val y)) := by
  obtain ⟨m, i, rx, ex⟩ := read_fin x hx
  obtain ⟨n, j, ry, ey⟩ := read_fin y hy
  unfold Ieee.Format.order
  rw [rx, ry]
  show some (compare (Ieee.signed (sg x) m ((i : Int) - 1074 - min ((i : Int) - 1074) ((j : Int) - 1074)).toNat) (Ieee.signed (sg y) n ((j : Int) - 1074 - min ((i : Int) - 1074) ((j : Int) - 1074)).toNat)) = _
  rw [base_eq, show ((i : Int) - 1074 - (((min i j : Nat) : Int) - 1074)).toNat = i - min i j by omega, show ((j : Int) - 1074 - (((min i j : Nat) : Int) - 1074)).toNat = j - min i j by omega]
  rw [← cmp_scale _ _ (2 ^ min i j) (Nat.two_pow_pos _), signed_units ex (by omega), signed_units ey (by omega)]
theorem natAbs_scale (u : Int) (c : Nat) : u.natAbs * c = (u * (c : Int)).natAbs := by rw [Int.natAbs_mul]; rfl
theorem sum_any (s t : Bool) (x y : Nat) (hx : fin x) (hy : fin y) (Y : Ieee.Datum) (n j : Nat) (w : Int) (hY : Y = .number t n ((j : Int) - 1074)) (hw : w = if t then -((n * 2 ^ j : Nat) : Int) else ((n * 2 ^ j : Nat) : Int)) :
    ((D.read x).sum Y).map D.write = some (wordN (if val x + w = 0 then sg x && t else decide (val x + w < 0)) (rnd (val x + w).natAbs)) := by
  obtain ⟨m, i, rx, ex⟩ := read_fin x hx
  rw [rx, hY]
  show some (D.write (.number (if Ieee.signed (sg x) m ((i : Int) - 1074 - min ((i : Int) - 1074) ((j : Int) - 1074)).toNat + Ieee.signed t n ((j : Int) - 1074 - min ((i : Int) - 1074) ((j : Int) - 1074)).toNat = 0 then sg x && t else decide (Ieee.signed (sg x) m ((i : Int) - 1074 - min ((i : Int) - 1074) ((j : Int) - 1074)).toNat + Ieee.signed t n ((j : Int) - 1074 - min ((i : Int) - 1074) ((j : Int) - 1074)).toNat < 0)) (Ieee.signed (sg x) m ((i : Int) - 1074 - min ((i : Int) - 1074) ((j : Int) - 1074)).toNat + Ieee.signed t n ((j : Int) - 1074 - min ((i : Int) - 1074) ((j : Int) - 1074)).toNat).natAbs (min ((i : Int) - 1074) ((j : Int) - 1074)))) = _
  rw [base_eq, show ((i : Int) - 1074 - (((min i j : Nat) : Int) - 1074)).toNat = i - min i j by omega, show ((j : Int) - 1074 - (((min i j : Nat) : Int) - 1074)).toNat = j - min i j by omega]
  have e1 := signed_units ex (b := min i j) (by omega)
  have e2 : Ieee.signed t n (j - min i j) * ((2 ^ min i j : Nat) : Int) = w := by
    rw [signed_eq, hw]
    have e : ((n * 2 ^ (j - min i j) : Nat) : Int) * ((2 ^ min i j : Nat) : Int) = ((n * 2 ^ j : Nat) : Int) := by
      rw [← Int.natCast_mul, Nat.mul_assoc, ← Nat.pow_add, show j - min i j + min i j = j by omega]
    cases t
    · rw [if_neg (by simp), if_neg (by simp), e]
    · rw [if_pos rfl, if_pos rfl, Int.neg_mul, e]
  generalize Ieee.signed (sg x) m (i - min i j) = U at *
  generalize Ieee.signed t n (j - min i j) = V at *
  have hp := Nat.two_pow_pos (min i j)
  have e3 : val x + w = (U + V) * ((2 ^ min i j : Nat) : Int) := by rw [Int.add_mul, e1, e2]
  have z : (U + V = 0) = (val x + w = 0) := by
    rw [e3, eq_iff_iff]
    constructor
    · intro h; rw [h, Int.zero_mul]
    · intro h
      rcases Int.mul_eq_zero.1 h with h | h
      · exact h
      · omega
  have l : (U + V < 0) = (val x + w < 0) := by
    rw [e3, eq_iff_iff]
    constructor
    · intro h; exact Int.mul_neg_of_neg_of_pos h (by omega)
    · intro h
      apply Classical.byContradiction
      intro h2
      have := Int.mul_nonneg (show 0 ≤ U + V by omega) (show (0 : Int) ≤ ((2 ^ min i j : Nat) : Int) by omega)
      omega
  show some (D.nearest _ _ _) = _
  rw [nearest_units, natAbs_scale, ← e3]
  simp only [z, l]
theorem add_fin (x y : Nat) (hx : fin x) (hy : fin y) : D.add x y = some (wordN (if val x + val y = 0 then sg x && sg y else decide (val x + val y < 0)) (rnd (val x + val y).natAbs)) := by
  obtain ⟨n, j, ry, ey⟩ := read_fin y hy
  exact sum_any (sg x) (sg y) x y hx hy _ n j _ ry (val_of ey)
theorem sub_fin (x y : Nat) (hx : fin x) (hy : fin y) : D.sub x y = some (wordN (if val x - val y = 0 then sg x && !sg y else decide (val x - val y < 0)) (rnd (val x - val y).natAbs)) := by
  obtain ⟨n, j, ry, ey⟩ := read_fin y hy
  have := sum_any (sg x) (!sg y) x y hx hy (D.read y).opposite n j (-val y) (by rw [ry]; rfl) (by
    rw [val_of ey]
    cases sg y
    · rfl
    · simp)
  rw [← Int.sub_eq_add_neg] at this
  exact this
theorem write_read (x : Nat) (hx : fin x) (h : x < 18446744073709551616) (m j : Nat) (e : m * 2 ^ j = mag (rg x)) : D.nearest (sg x) m ((j : Int) - 1074) = x := by
  rw [nearest_units, e, rnd_mag _ hx, word_self x h]

/-- Bits handed on: what is no number is Empty. -/
def ofB (r : Option Nat) : Int := match r with | some b => if FloatKind.f64.format.order b b = some .eq then (b : Int) else 9221120237041090560 | none => 9221120237041090560
theorem ofB_none : ofB none = 9221120237041090560 := rfl
theorem nan_order (n : Nat) (h : 9218868437227405312 < rg n) : FloatKind.f64.format.order n n = none := by
  show D.order n n = none
  unfold Ieee.Format.order
  rw [read_nan n h]
  rfl
theorem nan_rg (q : Nat) : 9218868437227405312 < rg ((q % 2) * 2 ^ 63 + 0x7ff0000000000000 + 1 + (q / 2) % (2 ^ 52 - 1)) := by
  have hX : (q / 2) % (2 ^ 52 - 1) < 2 ^ 52 - 1 := Nat.mod_lt _ (by decide)
  have hs : q % 2 = 0 ∨ q % 2 = 1 := by omega
  generalize (q / 2) % (2 ^ 52 - 1) = X at *
  unfold rg
  rcases hs with h | h <;> rw [h] <;> omega
theorem run_nan {P : Program} (w : World) (op : BinOp) (hop : op = .add ∨ op = .sub ∨ op = .mul ∨ op = .quo) (x y : Nat) (h : floatBits op .f64 x y = none) : ∃ n : Nat, FloatKind.f64.format.order n n = none ∧ ∀ t, (binOp op t (.float .f64 x) (.float .f64 y)).run P w = .ok (.float .f64 n) { w with drawn := w.drawn + 1 } := by
  refine ⟨Question.cut (.nanBits .f64 x y) (w.tape w.drawn (.nanBits .f64 x y)), nan_order _ ?_, fun t => ?_⟩
  · exact nan_rg (w.tape w.drawn (.nanBits .f64 x y))
  · unfold floatBits at h
    rcases hop with rfl | rfl | rfl | rfl <;> simp only at h <;> simp [binOp, Op.floatArith, h, Question.forced]
section
open Go.Extern.MathFloatBits
set_option maxHeartbeats 4000000 in
theorem value_calls (a : Int) (w : World) : Calls Try.prog 46 #[.int .u64 a] w fun e w' => e = .returned (.float .f64 a.toNat) ∧ w' = w := by
  have h := @run_callFunc_extern Try.prog 60 _ float64frombits Try.func60 (by kernel_rfl) (by kernel_rfl) (by kernel_rfl) (by kernel_rfl)
  have h2 : ∀ (n : Int) (w : World), (float64frombits #[.int .u64 n]).run Try.prog w = .ok (.float .f64 n.toNat) w := fun n w => rfl
  go_enter Try.func46, Try.ntmps46
  go_wp2
  go_ret
  exact ⟨rfl, rfl⟩
set_option maxHeartbeats 4000000 in
theorem of_calls (b : Nat) (w : World) : Calls Try.prog 47 #[.float .f64 b] w fun e w' => e = .returned (.int .u64 (ofB (some b))) ∧ w' = w := by
  have h := @run_callFunc_extern Try.prog 61 _ float64bits Try.func61 (by kernel_rfl) (by kernel_rfl) (by kernel_rfl) (by kernel_rfl)
  have h2 : ∀ (n : Nat) (w : World), (float64bits #[.float .f64 n]).run Try.prog w = .ok (.int .u64 n) w := fun n w => rfl
  unfold ofB
  dsimp only
  by_cases ho : FloatKind.f64.format.order b b = some .eq
  · rw [if_pos ho]
    go_enter Try.func47, Try.ntmps47
    go_wp2
    all_goals first | (go_ret; exact ⟨rfl, rfl⟩) | (exfalso; simp_all)
  · rw [if_neg ho]
    go_enter Try.func47, Try.ntmps47
    go_wp2
    all_goals first | (go_ret; exact ⟨rfl, rfl⟩) | (exfalso; simp_all)
theorem of_nan (n : Nat) (h : FloatKind.f64.format.order n n = none) : ofB (some n) = ofB none := by
  unfold ofB
  dsimp only
  rw [h, if_neg (by simp)]
end
/-- By how two stand to each other. -/
def pick (o : Ordering) (x y z : Nat) : Nat := match o with | .lt => x | .gt => y | .eq => z
theorem Below.drew {n : Nat} {w w' : World} (h : Below n w w') (k : Nat) : Below n w { w' with drawn := k } := ⟨h.os, h.tape, h.output, h.size, h.block⟩

def soft_Add.f (a0 a1 : Int) : Option Int := some (ofB (floatBits .add .f64 a0.toNat a1.toNat))
set_option maxHeartbeats 4000000 in
theorem soft_Add.calls (a0 a1 r : Int) (w : World) (h : soft_Add.f a0 a1 = some r) : Calls Try.prog 49 #[.int .u64 a0, .int .u64 a1] w fun e w' => e = .returned (.int .u64 r) ∧ Below w.heap.size w w' := by
  obtain rfl := Option.some.inj h
  clear h
  cases hb : floatBits .add .f64 a0.toNat a1.toNat with
  | none =>
    obtain ⟨n, hn, hr⟩ := run_nan (P := Try.prog) w .add (by decide) a0.toNat a1.toNat hb
    rw [← of_nan n hn]
    go_enter Try.func49, Try.ntmps49
    go_wp2_with (first | (go_at_call 46; refine (value_calls _ _).mono ?_; rintro e w' ⟨rfl, rfl⟩) | (go_at_call 47; refine (of_calls _ _).mono ?_; rintro e w' ⟨rfl, rfl⟩))
    all_goals (go_ret; exact ⟨rfl, Below.drew (Below.refl _ _) _⟩)
  | some b =>
    have hr := fun t => run_float_arith (P := Try.prog) w .add t .f64 a0.toNat a1.toNat b hb
    go_enter Try.func49, Try.ntmps49
    go_wp2_with (first | (go_at_call 46; refine (value_calls _ _).mono ?_; rintro e w' ⟨rfl, rfl⟩) | (go_at_call 47; refine (of_calls _ _).mono ?_; rintro e w' ⟨rfl, rfl⟩))
    all_goals (go_ret; exact ⟨rfl, Below.refl _ _⟩)

def soft_Sub.f (a0 a1 : Int) : Option Int := some (ofB (floatBits .sub .f64 a0.toNat a1.toNat))
set_option maxHeartbeats 4000000 in
theorem soft_Sub.calls (a0 a1 r : Int) (w : World) (h : soft_Sub.f a0 a1 = some r) : Calls Try.prog 50 #[.int .u64 a0, .int .u64 a1] w fun e w' => e = .returned (.int .u64 r) ∧ Below w.heap.size w w' := by
  obtain rfl := Option.some.inj h
  clear h
  cases hb : floatBits .sub .f64 a0.toNat a1.toNat with
  | none =>
    obtain ⟨n, hn, hr⟩ := run_nan (P := Try.prog) w .sub (by decide) a0.toNat a1.toNat hb
    rw [← of_nan n hn]
    go_enter Try.func50, Try.ntmps50
    go_wp2_with (first | (go_at_call 46; refine (value_calls _ _).mono ?_; rintro e w' ⟨rfl, rfl⟩) | (go_at_call 47; refine (of_calls _ _).mono ?_; rintro e w' ⟨rfl, rfl⟩))
    all_goals (go_ret; exact ⟨rfl, Below.drew (Below.refl _ _) _⟩)
  | some b =>
    have hr := fun t => run_float_arith (P := Try.prog) w .sub t .f64 a0.toNat a1.toNat b hb
    go_enter Try.func50, Try.ntmps50
    go_wp2_with (first | (go_at_call 46; refine (value_calls _ _).mono ?_; rintro e w' ⟨rfl, rfl⟩) | (go_at_call 47; refine (of_calls _ _).mono ?_; rintro e w' ⟨rfl, rfl⟩))
    all_goals (go_ret; exact ⟨rfl, Below.refl _ _⟩)

def soft_Mul.f (a0 a1 : Int) : Option Int := some (ofB (floatBits .mul .f64 a0.toNat a1.toNat))
set_option maxHeartbeats 4000000 in
theorem soft_Mul.calls (a0 a1 r : Int) (w : World) (h : soft_Mul.f a0 a1 = some r) : Calls Try.prog 51 #[.int .u64 a0, .int .u64 a1] w fun e w' => e = .returned (.int .u64 r) ∧ Below w.heap.size w w' := by
  obtain rfl := Option.some.inj h
  clear h
  cases hb : floatBits .mul .f64 a0.toNat a1.toNat with
  | none =>
    obtain ⟨n, hn, hr⟩ := run_nan (P := Try.prog) w .mul (by decide) a0.toNat a1.toNat hb
    rw [← of_nan n hn]
    go_enter Try.func51, Try.ntmps51
    go_wp2_with (first | (go_at_call 46; refine (value_calls _ _).mono ?_; rintro e w' ⟨rfl, rfl⟩) | (go_at_call 47; refine (of_calls _ _).mono ?_; rintro e w' ⟨rfl, rfl⟩))
    all_goals (go_ret; exact ⟨rfl, Below.drew (Below.refl _ _) _⟩)
  | some b =>
    have hr := fun t => run_float_arith (P := Try.prog) w .mul t .f64 a0.toNat a1.toNat b hb
    go_enter Try.func51, Try.ntmps51
    go_wp2_with (first | (go_at_call 46; refine (value_calls _ _).mono ?_; rintro e w' ⟨rfl, rfl⟩) | (go_at_call 47; refine (of_calls _ _).mono ?_; rintro e w' ⟨rfl, rfl⟩))
    all_goals (go_ret; exact ⟨rfl, Below.refl _ _⟩)

def soft_Div.f (a0 a1 : Int) : Option Int := some (ofB (floatBits .quo .f64 a0.toNat a1.toNat))
set_option maxHeartbeats 4000000 in
theorem soft_Div.calls (a0 a1 r : Int) (w : World) (h : soft_Div.f a0 a1 = some r) : Calls Try.prog 52 #[.int .u64 a0, .int .u64 a1] w fun e w' => e = .returned (.int .u64 r) ∧ Below w.heap.size w w' := by
  obtain rfl := Option.some.inj h
  clear h
  cases hb : floatBits .quo .f64 a0.toNat a1.toNat with
  | none =>
    obtain ⟨n, hn, hr⟩ := run_nan (P := Try.prog) w .quo (by decide) a0.toNat a1.toNat hb
    rw [← of_nan n hn]
    go_enter Try.func52, Try.ntmps52
    go_wp2_with (first | (go_at_call 46; refine (value_calls _ _).mono ?_; rintro e w' ⟨rfl, rfl⟩) | (go_at_call 47; refine (of_calls _ _).mono ?_; rintro e w' ⟨rfl, rfl⟩))
    all_goals (go_ret; exact ⟨rfl, Below.drew (Below.refl _ _) _⟩)
  | some b =>
    have hr := fun t => run_float_arith (P := Try.prog) w .quo t .f64 a0.toNat a1.toNat b hb
    go_enter Try.func52, Try.ntmps52
    go_wp2_with (first | (go_at_call 46; refine (value_calls _ _).mono ?_; rintro e w' ⟨rfl, rfl⟩) | (go_at_call 47; refine (of_calls _ _).mono ?_; rintro e w' ⟨rfl, rfl⟩))
    all_goals (go_ret; exact ⟨rfl, Below.refl _ _⟩)

def soft_Cmp.f (a0 a1 : Int) : Option Int := some (match FloatKind.f64.format.order a0.toNat a1.toNat with | some .lt => -1 | some .gt => 1 | some .eq => 0 | none => 2)
set_option maxHeartbeats 4000000 in
theorem soft_Cmp.calls (a0 a1 r : Int) (w : World) (h : soft_Cmp.f a0 a1 = some r) : Calls Try.prog 48 #[.int .u64 a0, .int .u64 a1] w fun e w' => e = .returned (.int .i64 r) ∧ Below w.heap.size w w' := by
  unfold soft_Cmp.f at h
  obtain rfl := Option.some.inj h
  clear h
  cases ho : FloatKind.f64.format.order a0.toNat a1.toNat with
  | none =>
    go_enter Try.func48, Try.ntmps48
    go_wp2_with (go_at_call 46; refine (value_calls _ _).mono ?_; rintro e w' ⟨rfl, rfl⟩)
    all_goals (go_ret; exact ⟨rfl, Below.refl _ _⟩)
  | some o =>
    cases o <;> (
      go_enter Try.func48, Try.ntmps48
      go_wp2_with (go_at_call 46; refine (value_calls _ _).mono ?_; rintro e w' ⟨rfl, rfl⟩)
      all_goals (go_ret; exact ⟨rfl, Below.refl _ _⟩))

set_option maxHeartbeats 4000000 in
theorem sqrt_calls (x : Nat) (w : World) : Calls Try.prog 62 #[.float .f64 x] w fun e w' => ∃ n : Nat, e = .returned (.float .f64 n) ∧ ofB (some n) = ofB (FloatKind.f64.format.sqrt x) ∧ Below w.heap.size w w' := by
  have h := @run_callFunc_extern Try.prog 67 _ MathSqrt.sqrt Try.func67 (by kernel_rfl) (by kernel_rfl) (by kernel_rfl) (by kernel_rfl)
  have hq : MathSqrt.sqrt #[.float .f64 x] = (match FloatKind.f64.format.sqrt x with | some r => pure (.float .f64 r) | none => do pure (.float .f64 (← choose (.nanBits .f64 x x)))) := rfl
  cases hs : FloatKind.f64.format.sqrt x with
  | some b =>
    have h2 : ∀ w : World, (MathSqrt.sqrt #[.float .f64 x]).run Try.prog w = .ok (.float .f64 b) w := fun w => by rw [hq, hs]; rfl
    go_enter Try.func62, Try.ntmps62
    go_wp2
    go_ret
    exact ⟨b, rfl, rfl, Below.refl _ _⟩
  | none =>
    have hn : FloatKind.f64.format.order (Question.cut (.nanBits .f64 x x) (w.tape w.drawn (.nanBits .f64 x x))) (Question.cut (.nanBits .f64 x x) (w.tape w.drawn (.nanBits .f64 x x))) = none := by
      exact nan_order _ (nan_rg (w.tape w.drawn (.nanBits .f64 x x)))
    have h2 : (MathSqrt.sqrt #[.float .f64 x]).run Try.prog w = .ok (.float .f64 (Question.cut (.nanBits .f64 x x) (w.tape w.drawn (.nanBits .f64 x x)))) { w with drawn := w.drawn + 1 } := by rw [hq, hs]; simp [Question.forced]
    go_enter Try.func62, Try.ntmps62
    go_wp2
    go_ret
    exact ⟨_, rfl, of_nan _ hn, Below.drew (Below.refl _ _) _⟩
def soft_Sqrt.f (a0 : Int) : Option Int := some (ofB (FloatKind.f64.format.sqrt a0.toNat))
set_option maxHeartbeats 4000000 in
theorem soft_Sqrt.calls (a0 r : Int) (w : World) (h : soft_Sqrt.f a0 = some r) : Calls Try.prog 53 #[.int .u64 a0] w fun e w' => e = .returned (.int .u64 r) ∧ Below w.heap.size w w' := by
  obtain rfl := Option.some.inj h
  clear h
  go_enter Try.func53, Try.ntmps53
  go_wp2_with (first | (go_at_call 46; refine (value_calls _ _).mono ?_; rintro e w' ⟨rfl, rfl⟩) | (go_at_call 62; refine (sqrt_calls _ _).mono ?_; rintro e w' ⟨n, rfl, hn, hw⟩) | (go_at_call 47; refine (of_calls _ _).mono ?_; rintro e w' ⟨rfl, rfl⟩))
  all_goals (go_ret; rw [← hn]; exact ⟨rfl, hw⟩)

def soft_FromInt.f (a0 : Int) : Option Int := some (ofB (some (floatOfInt .f64 (wrap32 a0))))
set_option maxHeartbeats 4000000 in
theorem soft_FromInt.calls (a0 r : Int) (w : World) (h : soft_FromInt.f a0 = some r) : Calls Try.prog 39 #[.int .u32 a0] w fun e w' => e = .returned (.int .u64 r) ∧ Below w.heap.size w w' := by
  unfold soft_FromInt.f at h
  obtain rfl := Option.some.inj h
  clear h
  go_enter Try.func39, Try.ntmps39
  go_wp2_with (first | (go_at_call 47; refine (of_calls _ _).mono ?_; rintro e w' ⟨rfl, rfl⟩))
  all_goals (go_ret; exact ⟨rfl, Below.refl _ _⟩)

def geB (o : Option Ordering) : Bool := o == some .gt || o == some .eq
def leB (o : Option Ordering) : Bool := o == some .lt || o == some .eq
def soft_ToInt.f (a0 : Int) : Option Int :=
  if FloatKind.f64.format.order a0.toNat a0.toNat = some .eq then
    if geB (FloatKind.f64.format.order a0.toNat 4746794007244308480) = true then some 2147483647
    else if leB (FloatKind.f64.format.order a0.toNat 13970166044103278592) = true then some 2147483648
    else (floatToIntVal .f64 a0.toNat .i32).bind fun n => some (n % 4294967296)
  else some 0
set_option maxHeartbeats 4000000 in
set_option maxRecDepth 100000 in
theorem soft_ToInt.calls (a0 r : Int) (w : World) (h : soft_ToInt.f a0 = some r) : Calls Try.prog 38 #[.int .u64 a0] w fun e w' => e = .returned (.int .u32 r) ∧ Below w.heap.size w w' := by
  unfold soft_ToInt.f at h
  have q1 : ∀ o : Option Ordering, (o == some .gt || o == some .eq) = geB o := fun _ => rfl
  have q2 : ∀ o : Option Ordering, (o == some .lt || o == some .eq) = leB o := fun _ => rfl
  by_cases ho : FloatKind.f64.format.order a0.toNat a0.toNat = some .eq
  · rw [if_pos ho] at h
    have b0 : (FloatKind.f64.format.order a0.toNat a0.toNat != some .eq) = false := by rw [ho]; rfl
    by_cases h1 : geB (FloatKind.f64.format.order a0.toNat 4746794007244308480) = true
    · rw [if_pos h1] at h
      obtain rfl := Option.some.inj h
      clear h
      go_enter Try.func38, Try.ntmps38
      go_wp2_with (go_at_call 46; refine (value_calls _ _).mono ?_; rintro e w' ⟨rfl, rfl⟩)
      all_goals first | (go_ret; exact ⟨rfl, Below.refl _ _⟩) | (exfalso; simp_all)
    · rw [if_neg h1] at h
      by_cases h2 : leB (FloatKind.f64.format.order a0.toNat 13970166044103278592) = true
      · rw [if_pos h2] at h
        obtain rfl := Option.some.inj h
        clear h
        go_enter Try.func38, Try.ntmps38
        go_wp2_with (go_at_call 46; refine (value_calls _ _).mono ?_; rintro e w' ⟨rfl, rfl⟩)
        all_goals first | (go_ret; exact ⟨rfl, Below.refl _ _⟩) | (exfalso; simp_all)
      · rw [if_neg h2] at h
        cases hn : floatToIntVal .f64 a0.toNat .i32 with
        | none => rw [hn] at h; cases h
        | some n =>
          rw [hn] at h
          obtain rfl := Option.some.inj h
          clear h
          have hc : ∀ w : World, (convert 110 21 (.float .f64 a0.toNat)).run Try.prog w = .ok (.int .i32 n) w := fun w => run_convert_float_int w 110 21 .f64 .i32 a0.toNat n (by kernel_rfl) Try.underlying21 hn
          go_enter Try.func38, Try.ntmps38
          go_wp2_with (go_at_call 46; refine (value_calls _ _).mono ?_; rintro e w' ⟨rfl, rfl⟩)
          all_goals first | (go_ret; exact ⟨rfl, Below.refl _ _⟩) | (exfalso; simp_all)
  · rw [if_neg ho] at h
    obtain rfl := Option.some.inj h
    clear h
    go_enter Try.func38, Try.ntmps38
    go_wp2_with (go_at_call 46; refine (value_calls _ _).mono ?_; rintro e w' ⟨rfl, rfl⟩)
    all_goals first | (go_ret; exact ⟨rfl, Below.refl _ _⟩) | (exfalso; simp_all)
section
open Go Go.RowKit
section
open Go.Extern.Stop Go.Stop Go.Extern
theorem is_typeOf (v : Value) (w : World) : (ReflectliteType.typeOf #[.iface 66 v]).run Try.prog w = .ok (.iface 94 (.agg #[.pointer (some ⟨1, 66, none⟩)])) w := by kernel_rfl
theorem is_method (h : Value) (w : World) : (Go.method 257 94 (.agg #[h]) "Comparable").run Try.prog w = .ok (90, .agg #[h]) w := by kernel_rfl
theorem is_comparable (w : World) : (ReflectliteType.method (fun t => do Rtype.noPackHeld "Comparable" t; (fun a : TypeInfo => Value.bool a.comparable) <$> typeInfo t) #[.agg #[.pointer (some ⟨1, 66, none⟩)]]).run Try.prog w = .ok (.bool true) w := by kernel_rfl
set_option maxRecDepth 100000 in
theorem is_same (x : Int) (w : World) : (binOp .eql 57 (.iface 66 (.int .i64 x)) (.iface 66 (.int .i64 x))).run Try.prog w = .ok (.bool true) w := by
  obtain ⟨i, hi, hc⟩ : ∃ i, Try.prog.info? 66 = some i ∧ i.comparable = true := by
    have hm : (Try.prog.info? 66).map (·.comparable) = some true := by kernel_rfl
    cases h : Try.prog.info? 66 with
    | none => rw [h] at hm; cases hm
    | some i => rw [h] at hm; exact ⟨i, rfl, by simpa using hm⟩
  have h : ∀ n, (Op.equalIn (n + 2) 57 (.iface 66 (.int .i64 x)) (.iface 66 (.int .i64 x))).run Try.prog w = .ok true w := fun n => by
    simp [Op.equalIn, run_underlying Try.underlying57, run_underlying Try.underlying66, typeInfo, hi, hc]
  simp only [binOp]
  simp [Op.equal, Op.maxDepth, h 9998]
end
def errors_Is.f (a0 a1 : Option Int) : Option Bool := match a0, a1 with
  | some x, some y => if x = y then some true else none
  | _, _ => none
def errV12 : Option Int → Value
  | none => .nilIface
  | some k => .iface 66 (.int .i64 k)
set_option maxHeartbeats 4000000 in
set_option maxRecDepth 100000 in
theorem is_hit (x : Int) (w : World) : Calls Try.prog 30 #[.iface 66 (.int .i64 x), .iface 66 (.int .i64 x), .bool true] w fun e w' => e = .returned (.bool true) ∧ w' = w := by
  have hs := is_same x w
  go_enter Try.func30, Try.ntmps30
  go_wp2
  refine wp_loop_rounds 1 ?_
  rw [rounds_succ]
  go_wp2
  go_ret
  exact ⟨rfl, rfl⟩
section
open Go.Extern.Stop Go.Stop Go.Extern
set_option maxHeartbeats 4000000 in
set_option maxRecDepth 100000 in
theorem errors_Is.calls (a0 a1 : Option Int) (r : Bool) (w : World) (h : errors_Is.f a0 a1 = some r) : Calls Try.prog 23 #[errV12 a0, errV12 a1] w fun e w' => e = .returned (.bool r) ∧ Below w.heap.size w w' := by
  rcases a0 with _ | x
  · cases h
  rcases a1 with _ | y
  · cases h
  rw [show errors_Is.f (some x) (some y) = if x = y then some true else none from rfl] at h
  by_cases hxy : x = y
  · rw [if_pos hxy] at h
    · subst hxy
      obtain rfl := Option.some.inj h
      clear h
      simp only [errV12]
      have h10 := @run_callFunc_extern Try.prog 29 _ ReflectliteType.typeOf Try.func29 (by kernel_rfl) (by kernel_rfl) (by kernel_rfl) (by kernel_rfl)
      have hC := @run_callFunc_extern Try.prog 90 _ (ReflectliteType.method (fun t => do Rtype.noPackHeld "Comparable" t; pure (.bool (← typeInfo t).comparable))) Try.func90 (by kernel_rfl) (by kernel_rfl) (by kernel_rfl) (by kernel_rfl)
      have tO := is_typeOf
      have mC := is_method
      have cC := is_comparable
      have hx := is_hit x w
      go_enter Try.func23, Try.ntmps23
      go_wp2_with (go_at_call 30; refine hx.mono ?_; rintro e w' ⟨rfl, rfl⟩)
      go_ret
      exact ⟨rfl, Below.refl _ _⟩
  · rw [if_neg hxy] at h
    cases h
end
end
end Go.Proofs.YtllannmegnklmaaF
