import Derived.Test.YtbnlochgbhcfnaaGreatDoorGProcSteps
import Derived.Test.YtbnlochgbhcfnaaGreatDoorE16
import Derived.Laws.BitsAllLaws
set_option linter.unusedVariables false
set_option linter.unusedSimpArgs false
set_option linter.unnecessarySimpa false
namespace Go.Proofs.YtbnlochgbhcfnaaGreatDoor.Pure
open Go Go.Proofs.YtbnlochgbhcfnaaGreatDoorE Go.Proofs.YtbnlochgbhcfnaaGreatDoorGProcSteps
theorem dt {p : Prop} [Decidable p] (h : p) : decide p = true := decide_eq_true h
theorem df {p : Prop} [Decidable p] (h : ¬ p) : decide p = false := decide_eq_false h
theorem wu32 (x : Int) : IntKind.wrap .u32 x = x % 4294967296 := by simp [IntKind.wrap, IntKind.bits, IntKind.signed]
theorem wi64 {x : Int} (h : -9223372036854775808 ≤ x) (h' : x ≤ 9223372036854775807) : IntKind.wrap .i64 x = x := by
  simp [IntKind.wrap, IntKind.bits, IntKind.signed]
  omega
theorem wu32_id {x : Int} (h : 0 ≤ x ∧ x < 4294967296) : IntKind.wrap .u32 x = x := by rw [wu32]; omega
theorem wsucc {i : Nat} (h : i < 9223372036854775807) : IntKind.wrap .i64 ((i : Int) + 1) = ((i + 1 : Nat) : Int) := by rw [wi64 (by omega) (by omega)]; omega
theorem u32_bd {a : Int} (h : (Lit.int .u32 a).wf = true) : 0 ≤ a ∧ a < 4294967296 := by
  simpa [Lit.wf, IntKind.min, IntKind.max, IntKind.signed, IntKind.bits, ← Int.lt_add_one_iff] using h
theorem fg {n : Nat} (h : n < 18446744073709551616) : n < FUEL := h
theorem bg {α β : Type} (a : α) (f : α → Option β) : (some a).bind f = f a := by rw [Option.bind_some]
theorem dg {α : Type} (l : List α) (i : Nat) (d : α) (h : i < l.length) : l.drop i = l.getD i d :: l.drop (i + 1) := by
  rw [List.drop_eq_getElem_cons h, List.getD_eq_getElem?_getD, List.getElem?_eq_getElem h, Option.getD_some]
theorem getD_mem {α : Type} (l : List α) (i : Nat) (d : α) (h : i < l.length) : l.getD i d ∈ l := by
  rw [List.getD_eq_getElem?_getD, List.getElem?_eq_getElem h, Option.getD_some]; exact List.getElem_mem _
theorem tn (i : Nat) : Int.toNat (i : Int) = i := rfl
theorem fz {d n : Nat} (h : d < n) : ∃ m, n = m + 1 := ⟨n - 1, by omega⟩
def first (v : Int) : List Int → Option Nat
  | [] => none
  | x :: xs => if x = v then some 0 else (first v xs).map (· + 1)
theorem ofInt_i64 (a : Nat) (ha : a < 18446744073709551616) : (BitVec.ofInt 64 (a : Int)).toNat = a := by
  rw [BitVec.ofInt_natCast, BitVec.toNat_ofNat]; exact Nat.mod_eq_of_lt (by omega)
theorem i64_and (a b : Nat) (ha : a < 9223372036854775808) (hb : b < 9223372036854775808) : bits .and .i64 (a : Int) (b : Int) = ((a &&& b : Nat) : Int) := by
  have hx : a &&& b < 2 ^ 63 := Nat.and_lt_two_pow _ (by omega)
  show IntKind.i64.wrap ((BitVec.ofInt 64 (a : Int) &&& BitVec.ofInt 64 (b : Int)).toNat : Int) = _
  rw [BitVec.toNat_and, ofInt_i64 a (by omega), ofInt_i64 b (by omega), wi64 (by omega) (by omega)]
theorem i64_or (a b : Nat) (ha : a < 9223372036854775808) (hb : b < 9223372036854775808) : bits .or .i64 (a : Int) (b : Int) = ((a ||| b : Nat) : Int) := by
  have hx : a ||| b < 2 ^ 63 := Nat.or_lt_two_pow (by omega) (by omega)
  show IntKind.i64.wrap ((BitVec.ofInt 64 (a : Int) ||| BitVec.ofInt 64 (b : Int)).toNat : Int) = _
  rw [BitVec.toNat_or, ofInt_i64 a (by omega), ofInt_i64 b (by omega), wi64 (by omega) (by omega)]
theorem i64_andNot (a b : Nat) (ha : a < 9223372036854775808) (hb : b < 9223372036854775808) : bits .andNot .i64 (a : Int) (b : Int) = ((a &&& (18446744073709551615 - b) : Nat) : Int) := by
  have hx : a &&& (18446744073709551615 - b) < 2 ^ 63 := Nat.lt_of_le_of_lt Nat.and_le_left (by omega)
  show IntKind.i64.wrap ((BitVec.ofInt 64 (a : Int) &&& ~~~BitVec.ofInt 64 (b : Int)).toNat : Int) = _
  rw [BitVec.toNat_and, BitVec.toNat_not, ofInt_i64 a (by omega), ofInt_i64 b (by omega)]
  have e : 2 ^ 64 - 1 - b = 18446744073709551615 - b := by omega
  rw [e, wi64 (by omega) (by omega)]
theorem nat_unbit (i x w : Nat) (hi : i < w) (hx : x < 2 ^ w) : x &&& (2 ^ w - 1 - 2 ^ i) = x - x / 2 ^ i % 2 * 2 ^ i := by
  have hp : (2 : Nat) ^ (i + 1) = 2 * 2 ^ i := by rw [Nat.pow_succ]; omega
  have e : x - x / 2 ^ i % 2 * 2 ^ i = 2 ^ (i + 1) * (x / 2 ^ (i + 1)) + x % 2 ^ i := by
    have h1 := Nat.div_add_mod x (2 ^ i)
    have h2 := Nat.div_add_mod (x / 2 ^ i) 2
    have h3 : x / 2 ^ (i + 1) = x / 2 ^ i / 2 := by rw [Nat.pow_succ, Nat.div_div_eq_div_mul]
    rw [h3, hp]
    generalize x / 2 ^ i = q at *
    generalize x % 2 ^ i = r at *
    generalize 2 ^ i = P at *
    have h4 : 2 * P * (q / 2) = P * (2 * (q / 2)) := by rw [Nat.mul_comm 2 P, Nat.mul_assoc]
    have h5 : P * q = P * (2 * (q / 2)) + P * (q % 2) := by rw [← Nat.mul_add, h2]
    rw [h4, Nat.mul_comm (q % 2) P]; omega
  have hr : x % 2 ^ i < 2 ^ (i + 1) := by
    have := Nat.mod_lt x (Nat.two_pow_pos i)
    omega
  rw [e]
  apply Nat.eq_of_testBit_eq
  intro j; rw [Nat.sub_sub, Nat.add_comm 1 (2 ^ i), Nat.testBit_and, Nat.testBit_two_pow_sub_succ (Nat.pow_lt_pow_right (by omega) hi), Nat.testBit_two_pow, Nat.testBit_two_pow_mul_add _ hr]
  by_cases hj : j < i + 1
  · rw [if_pos hj, Nat.testBit_mod_two_pow]
    by_cases h2 : j = i
    · subst h2; simp
    · have h3 : j < i := by omega
      have h4 : j < w := by omega
      simp [h3, h4, Ne.symm h2]
  · rw [if_neg hj, Nat.testBit_div_two_pow, show j - (i + 1) + (i + 1) = j by omega]
    have h2 : ¬ i = j := by omega
    by_cases hw : j < w
    · simp [hw, h2]
    · have : x.testBit j = false := Nat.testBit_lt_two_pow (Nat.lt_of_lt_of_le hx (Nat.pow_le_pow_right (by omega) (by omega)))
      simp [this]

def enc (k n : Int) : Option Int :=
  if k = 0 ∧ 0 ≤ n ∧ n < 256 then some (256 * n) else if 1 ≤ n ∧ n ≤ 31 then (if k = 1 then some n else if k = 2 then some (256 * n + 127) else if k = 3 then some (256 * (n + 128) + 127) else none) else none
theorem st_signal_eq (n : Int) : status_signal.f n = some (decide (1 ≤ n ∧ n ≤ 31)) := by
  unfold status_signal.f
  by_cases h : n ≥ 1
  · rw [if_pos h]; congr 1; exact decide_eq_decide.2 ⟨fun h2 => ⟨h, h2⟩, fun h2 => h2.2⟩
  · rw [if_neg h]; congr 1; simp; omega
theorem shl8 {n : Int} (h : 0 ≤ n ∧ n < 256) : shl .u32 (IntKind.wrap .u32 n) 8 = 256 * n := by
  simp only [shl, wu32, IntKind.bits]
  have : min (Int.toNat 8) 32 = 8 := by decide
  rw [this]; simp
  omega
theorem or127 {n : Int} (h : 0 ≤ n ∧ n < 256) : bits .or .u32 (256 * n) 127 = 256 * n + 127 := by
  obtain ⟨a, rfl⟩ := Int.eq_ofNat_of_zero_le h.1
  rw [show (256 * (a : Int)) = ((256 * a : Nat) : Int) by omega, show (127 : Int) = ((127 : Nat) : Int) from rfl, u32_or_nat _ _ (by omega) (by omega), nat_join 8 (256 * a) 127 (by omega) (by omega)]
  omega
theorem or128 {n : Int} (h : 0 ≤ n ∧ n < 128) : bits .or .i64 n 128 = n + 128 := by
  obtain ⟨a, rfl⟩ := Int.eq_ofNat_of_zero_le h.1
  rw [show (128 : Int) = ((128 : Nat) : Int) from rfl, i64_or _ _ (by omega) (by omega), Nat.or_comm, nat_join 7 128 a (by omega) (by omega)]
  omega
theorem and128 {n : Int} (h : 0 ≤ n ∧ n < 16777216) : bits .and .i64 n 128 = n / 128 % 2 * 128 := by
  obtain ⟨a, rfl⟩ := Int.eq_ofNat_of_zero_le h.1
  rw [show bits .and .i64 (a : Int) 128 = bits .and .i64 (a : Int) ((128 : Nat) : Int) from rfl, i64_and _ _ (by omega) (by omega), show (128 : Nat) = 2 ^ 7 from rfl, nat_bit 7 a]
  omega
theorem andNot128 {n : Int} (h : 0 ≤ n ∧ n < 16777216) : bits .andNot .i64 n 128 = n - n / 128 % 2 * 128 := by
  obtain ⟨a, rfl⟩ := Int.eq_ofNat_of_zero_le h.1
  rw [show bits .andNot .i64 (a : Int) 128 = bits .andNot .i64 (a : Int) ((128 : Nat) : Int) from rfl, i64_andNot _ _ (by omega) (by omega)]
  have := nat_unbit 7 a 64 (by omega) (by omega)
  rw [show (18446744073709551615 - 128 : Nat) = 2 ^ 64 - 1 - 2 ^ 7 from rfl, this]
  have : (2 : Nat) ^ 7 = 128 := rfl
  rw [this]; omega
theorem st_Of_eq (k n : Int) : status_Of.f k n = some (match enc k n with | some v => (v, none) | none => (0, some 22)) := by
  unfold status_Of.f enc; simp only [st_signal_eq, bg, decide_eq_true_eq]
  by_cases hs : 1 ≤ n ∧ n ≤ 31
  · have e1 : shl .u32 (IntKind.wrap .u32 n) 8 = 256 * n := shl8 ⟨by omega, by omega⟩
    have e2 : bits .or .u32 (256 * n) 127 = 256 * n + 127 := or127 ⟨by omega, by omega⟩
    have e3 : bits .or .i64 n 128 = n + 128 := or128 ⟨by omega, by omega⟩
    have e4 : shl .u32 (IntKind.wrap .u32 (n + 128)) 8 = 256 * (n + 128) := shl8 ⟨by omega, by omega⟩
    have e5 : bits .or .u32 (256 * (n + 128)) 127 = 256 * (n + 128) + 127 := or127 ⟨by omega, by omega⟩
    have e6 : IntKind.wrap .u32 n = n := wu32_id ⟨by omega, by omega⟩
    have g1 : n ≥ 0 := by omega
    have g2 : n < 256 := by omega
    rw [e1, e2, e3, e4, e5, e6]; simp only [hs, g1, g2, if_true, and_self, and_true]
    clear e1 e2 e3 e4 e5 e6
    by_cases k0 : k = 0
    · rw [if_pos k0, if_pos k0]
    rw [if_neg k0, if_neg k0]
    by_cases k1 : k = 1
    · rw [if_pos k1, if_pos k1]
    rw [if_neg k1, if_neg k1]
    by_cases k2 : k = 2
    · rw [if_pos k2, if_pos k2]
    rw [if_neg k2, if_neg k2]
    by_cases k3 : k = 3
    · rw [if_pos k3, if_pos k3]
    rw [if_neg k3, if_neg k3]
  · simp only [hs, if_false]
    by_cases h2 : k = 0 ∧ 0 ≤ n ∧ n < 256
    · rw [if_pos h2, if_pos h2.1, if_pos (by omega), if_pos (by omega), shl8 ⟨by omega, by omega⟩]
    · rw [if_neg h2]; dsimp only
      by_cases k0 : k = 0
      · rw [if_pos k0]
        by_cases h3 : n ≥ 0
        · rw [if_pos h3, if_neg (by omega)]
          repeat' split
          all_goals rfl
        · rw [if_neg h3]
          repeat' split
          all_goals rfl
      · rw [if_neg k0]
        repeat' split
        all_goals rfl
def dec (v : Int) : Option (Int × Int) :=
  if v % 256 = 0 then (if v / 256 < 256 then some (0, v / 256) else none)
  else if 1 ≤ v ∧ v ≤ 31 then some (1, v)
  else if v % 256 = 127 ∧ 1 ≤ v / 256 ∧ v / 256 ≤ 31 then some (2, v / 256)
  else if v % 256 = 127 ∧ 129 ≤ v / 256 ∧ v / 256 ≤ 159 then some (3, v / 256 - 128) else none
theorem enc_iff (k n v : Int) (hv : 0 ≤ v ∧ v < 4294967296) : enc k n = some v ↔ dec v = some (k, n) := by
  unfold enc dec
  constructor
  · intro h
    split at h
    · rename_i h1
      obtain ⟨rfl, h2, h3⟩ := h1
      cases h
      rw [if_pos (by omega), if_pos (by omega)]; congr 2; omega
    · split at h
      · rename_i h2
        split at h
        · rename_i h3; subst h3; cases h
          rw [if_neg (by omega), if_pos (by omega)]
        · split at h
          · rename_i h3; subst h3; cases h
            rw [if_neg (by omega), if_neg (by omega), if_pos (by omega)]; congr 2; omega
          · split at h
            · rename_i h3; subst h3; cases h
              rw [if_neg (by omega), if_neg (by omega), if_neg (by omega), if_pos (by omega)]; congr 2; omega
            · cases h
      · cases h
  · intro h
    split at h
    · rename_i h1
      split at h
      · cases h
        rw [if_pos ⟨rfl, by omega, by omega⟩]; congr 1; omega
      · cases h
    · rename_i h0
      split at h
      · cases h
        rw [if_neg (by omega), if_pos (by omega), if_pos rfl]
      · split at h
        · cases h
          rw [if_neg (by omega), if_pos (by omega), if_neg (by omega), if_pos rfl]; congr 1; omega
        · split at h
          · cases h
            rw [if_neg (by omega), if_pos (by omega), if_neg (by omega), if_neg (by omega), if_pos rfl]; congr 1; omega
          · cases h
def what (v : Int) : Int × Int × Option Int := match dec v with | some p => (p.1, p.2, none) | none => (0, 0, some 22)
theorem st_What_eq {v : Int} (hv : 0 ≤ v ∧ v < 4294967296) : status_What.f v = some (what v) := by
  have e1 : Int.tmod v 256 = v % 256 := Int.tmod_eq_emod_of_nonneg hv.1
  have e2 : shr .u32 v 8 = v / 256 := by simp [shr, IntKind.bits]
  have e3 : IntKind.wrap .i64 (v / 256) = v / 256 := wi64 (by omega) (by omega)
  have e4 : IntKind.wrap .i64 v = v := wi64 (by omega) (by omega)
  have e5 := and128 (n := v / 256) ⟨by omega, by omega⟩
  have e6 := andNot128 (n := v / 256) ⟨by omega, by omega⟩
  have key : ∀ k n, status_kind.f v = some (k, n) → (∀ k' n', dec v = some (k', n') → k' = k ∧ n' = n) → status_What.f v = some (what v) := by
    intro k n hk hd; unfold status_What.f; rw [hk, bg, st_Of_eq, bg]
    cases he : enc k n with
    | none =>
      dsimp only; rw [if_pos (by simp)]; unfold what
      cases hdv : dec v with
      | none => rfl
      | some p =>
        obtain ⟨k', n'⟩ := p
        obtain ⟨rfl, rfl⟩ := hd k' n' hdv
        rw [(enc_iff k' n' v hv).2 hdv] at he
        cases he
    | some w =>
      dsimp only; rw [if_neg (by simp)]
      by_cases hw : w = v
      · rw [if_neg (by simpa using hw)]; subst hw
        have := (enc_iff k n w hv).1 he
        unfold what; rw [this]
      · rw [if_pos hw]; unfold what
        cases hdv : dec v with
        | none => rfl
        | some p =>
          obtain ⟨k', n'⟩ := p
          obtain ⟨rfl, rfl⟩ := hd k' n' hdv
          rw [(enc_iff k' n' v hv).2 hdv] at he
          cases he
          exact absurd rfl hw
  by_cases h0 : v % 256 = 0
  · refine key 0 (v / 256) (by unfold status_kind.f; rw [e1, if_pos h0, e2, e3]) fun k' n' h => ?_
    unfold dec at h; rw [if_pos h0] at h
    split at h <;> cases h
    exact ⟨rfl, rfl⟩
  by_cases h1 : v % 256 = 127
  · by_cases h2 : v / 256 / 128 % 2 = 1
    · refine key 3 (v / 256 - 128) (by unfold status_kind.f; rw [e1, if_neg h0, if_neg (by simpa using h1), e2, e3, e5, if_pos (by omega), e6, h2]; rfl) fun k' n' h => ?_
      unfold dec at h; rw [if_neg h0, if_neg (by omega), if_neg (by omega)] at h
      split at h <;> cases h
      exact ⟨rfl, rfl⟩
    · refine key 2 (v / 256) (by unfold status_kind.f; rw [e1, if_neg h0, if_neg (by simpa using h1), e2, e3, e5, if_neg (by omega)]) fun k' n' h => ?_
      unfold dec at h; rw [if_neg h0, if_neg (by omega)] at h
      split at h
      · cases h; exact ⟨rfl, rfl⟩
      · split at h
        · omega
        · cases h
  · refine key 1 v (by unfold status_kind.f; rw [e1, if_neg h0, if_pos h1, e4]) fun k' n' h => ?_
    unfold dec at h; rw [if_neg h0] at h
    split at h
    · cases h; exact ⟨rfl, rfl⟩
    · rw [if_neg (by omega), if_neg (by omega)] at h
      cases h

theorem ofInt_u32 (a : Nat) (ha : a < 4294967296) : (BitVec.ofInt 32 (a : Int)).toNat = a := by
  rw [BitVec.ofInt_natCast, BitVec.toNat_ofNat]; exact Nat.mod_eq_of_lt (by omega)
theorem w32 (a : Nat) (ha : a < 4294967296) : IntKind.wrap .u32 (a : Int) = (a : Int) := by rw [wu32]; omega
theorem b_and (a b : Nat) (ha : a < 4294967296) (hb : b < 4294967296) : bits .and .u32 (a : Int) (b : Int) = ((a &&& b : Nat) : Int) := by
  have hx : a &&& b < 2 ^ 32 := Nat.and_lt_two_pow _ (by omega)
  show IntKind.u32.wrap ((BitVec.ofInt 32 (a : Int) &&& BitVec.ofInt 32 (b : Int)).toNat : Int) = _
  rw [BitVec.toNat_and, ofInt_u32 a ha, ofInt_u32 b hb, w32 _ (by omega)]
theorem b_or (a b : Nat) (ha : a < 4294967296) (hb : b < 4294967296) : bits .or .u32 (a : Int) (b : Int) = ((a ||| b : Nat) : Int) := by
  have hx : a ||| b < 2 ^ 32 := Nat.or_lt_two_pow (by omega) (by omega)
  show IntKind.u32.wrap ((BitVec.ofInt 32 (a : Int) ||| BitVec.ofInt 32 (b : Int)).toNat : Int) = _
  rw [BitVec.toNat_or, ofInt_u32 a ha, ofInt_u32 b hb, w32 _ (by omega)]
def less (a b : Nat) : Nat := a &&& (4294967295 - b)
theorem b_andNot (a b : Nat) (ha : a < 4294967296) (hb : b < 4294967296) : bits .andNot .u32 (a : Int) (b : Int) = ((less a b : Nat) : Int) := by
  have hx : a &&& (4294967295 - b) < 2 ^ 32 := Nat.and_lt_two_pow _ (by omega)
  show IntKind.u32.wrap ((BitVec.ofInt 32 (a : Int) &&& ~~~BitVec.ofInt 32 (b : Int)).toNat : Int) = _
  rw [BitVec.toNat_and, BitVec.toNat_not, ofInt_u32 a ha, ofInt_u32 b hb]
  have e : 2 ^ 32 - 1 - b = 4294967295 - b := by omega
  rw [e, w32 _ (by omega)]; rfl
theorem bit_hi {x j w : Nat} (hx : x < 2 ^ w) (hj : w ≤ j) : x.testBit j = false :=
  Nat.testBit_lt_two_pow (Nat.lt_of_lt_of_le hx (Nat.pow_le_pow_right (by omega) hj))
theorem less_bit {a b : Nat} (ha : a < 4294967296) (hb : b < 4294967296) (j : Nat) : (less a b).testBit j = (a.testBit j && !b.testBit j) := by
  unfold less; rw [show 4294967295 - b = 2 ^ 32 - (b + 1) by omega, Nat.testBit_and, Nat.testBit_two_pow_sub_succ (by omega)]
  by_cases hj : j < 32
  · simp [hj]
  · rw [bit_hi (show a < 2 ^ 32 by omega) (by omega)]; simp
theorem less_le (a b : Nat) : less a b ≤ a := Nat.and_le_left
theorem cut_eq {a : Nat} (ha : a < 2147483648) : a &&& 2147483647 = a := by
  have := Nat.and_two_pow_sub_one_eq_mod a 31
  rw [show (2147483647 : Nat) = 2 ^ 31 - 1 from rfl, this]
  omega
theorem cut_bit (a j : Nat) : (a &&& 2147483647).testBit j = (decide (j < 31) && a.testBit j) := by
  rw [show (2147483647 : Nat) = 2 ^ 31 - 1 from rfl, Nat.and_two_pow_sub_one_eq_mod, Nat.testBit_mod_two_pow]
theorem cut_lt (a : Nat) : a &&& 2147483647 < 2147483648 := by
  have : a &&& 2147483647 ≤ 2147483647 := Nat.and_le_right
  omega
theorem bits_zero {a : Nat} (h : ∀ j, a.testBit j = false) : a = 0 := by
  apply Nat.eq_of_testBit_eq
  intro j; rw [h j, Nat.zero_testBit]

def fineB (c : Int) : Bool := decide (97 ≤ c ∧ c ≤ 122 ∨ 48 ≤ c ∧ c ≤ 57 ∨ c = 46 ∨ c = 95 ∨ c = 45)
abbrev FT : ByteArray := ⟨#[97, 98, 99, 100, 101, 102, 103, 104, 105, 106, 107, 108, 109, 110, 111, 112, 113, 114, 115, 116, 117, 118, 119, 120, 121, 122, 48, 49, 50, 51, 52, 53, 54, 55, 56, 57, 46, 95, 45]⟩
theorem bt_bd (s : ByteArray) (i : Int) : 0 ≤ bt s i ∧ bt s i < 256 := by
  unfold bt
  have := (s.data.toList.getD i.toNat 0).toNat_lt
  omega
theorem fine_set2 : ∃ S, strings_makeASCIISet.f FT = some (S, true) ∧ ∀ c : Nat, c < 256 → S.getD c false = fineB c := by
  have h : (strings_makeASCIISet.f FT).map (fun p => p.2 && (List.range 256).all fun c => p.1.getD c false == fineB (c : Int)) = some true := by kernel_rfl
  cases he : strings_makeASCIISet.f FT with
  | none => rw [he] at h; cases h
  | some p =>
    rw [he] at h
    obtain ⟨S, b⟩ := p
    have h : (b && (List.range 256).all fun c => S.getD c false == fineB (c : Int)) = true := by simpa using h
    rw [Bool.and_eq_true, List.all_eq_true] at h
    obtain ⟨rfl, h2⟩ := h
    exact ⟨S, rfl, fun c hc => by simpa using h2 c (List.mem_range.2 hc)⟩
theorem ex_size (s : ByteArray) (k : Nat) (h : k ≤ s.size) : (s.extract k s.size).size = s.size - k := by
  rw [ByteArray.size_extract]; omega
theorem ex_ex (s : ByteArray) (k : Nat) (h : k + 1 ≤ s.size) : (s.extract k s.size).extract 1 (s.extract k s.size).size = s.extract (k + 1) s.size := by
  rw [ex_size s k (by omega)]
  apply ByteArray.ext
  rw [ByteArray.data_extract, ByteArray.data_extract, ByteArray.data_extract, Array.extract_extract]; congr 1
  omega
theorem ex_bt (s : ByteArray) (k : Nat) (h : k < s.size) : bt (s.extract k s.size) 0 = bt s (k : Int) := by
  unfold bt
  have h0 : Int.toNat (0 : Int) = 0 := rfl
  have hk : Int.toNat (k : Int) = k := rfl
  have hs : s.data.toList.length = s.size := by rw [Array.length_toList]; rfl
  rw [h0, hk, ByteArray.data_extract, Array.toList_extract, List.getD_eq_getElem?_getD, List.getD_eq_getElem?_getD]; congr 3
  simp only [List.extract_eq_take_drop]; rw [List.getElem?_take_of_lt (by omega), List.getElem?_drop]; rfl
theorem ex_empty (s : ByteArray) (k : Nat) (h : k = s.size) : s.extract k s.size = ByteArray.empty := by
  have := ex_size s k (by omega)
  apply ByteArray.ext
  have h2 : (s.extract k s.size).data.size = 0 := by show (s.extract k s.size).size = 0; omega
  exact Array.eq_empty_of_size_eq_zero h2
theorem trim_fine (S : List Bool) (hS : ∀ c : Nat, c < 256 → S.getD c false = fineB c) (s : ByteArray) : ∀ (d n k : Nat), s.size - k = d → d < n → k ≤ s.size → ∃ y, strings_trimLeftASCII.l0 S n (s.extract k s.size) = some y ∧ (y = ByteArray.empty ↔ ∀ j, k ≤ j → j < s.size → fineB (bt s (j : Int)) = true) := by
  intro d
  induction d with
  | zero =>
    intro n k hk hd hle
    obtain ⟨n, rfl⟩ := fz hd
    unfold strings_trimLeftASCII.l0
    have hz := ex_size s k hle
    rw [if_neg (by omega)]; exact ⟨_, rfl, fun _ j h1 h2 => by omega, fun _ => ex_empty s k (by omega)⟩
  | succ d ih =>
    intro n k hk hd hle
    obtain ⟨n, rfl⟩ := fz hd
    unfold strings_trimLeftASCII.l0
    have hz := ex_size s k hle
    have hb := bt_bd s k
    have hc : strings_asciiSet_contains.f (bt s (k : Int)) S = some (fineB (bt s (k : Int))) := by
      unfold strings_asciiSet_contains.f; rw [if_pos (by omega), if_pos (by omega), hS _ (by omega)]; congr 2
    rw [if_pos (by omega), if_pos (by omega), ex_bt s k (by omega), hc, bg]
    cases hf : fineB (bt s (k : Int)) with
    | true =>
      obtain ⟨y, h1, h2⟩ := ih n (k + 1) (by omega) (by omega) (by omega)
      rw [if_neg (by simp), if_pos ⟨trivial, by omega, by omega⟩, ex_ex s k (by omega)]; refine ⟨y, h1, h2.trans ⟨fun h j g1 g2 => ?_, fun h j g1 g2 => h j (by omega) g2⟩⟩
      by_cases e : j = k
      · subst e; exact hf
      · exact h j (by omega) g2
    | false =>
      rw [if_pos (by simp)]; refine ⟨_, rfl, fun h => ?_, fun h => ?_⟩
      · rw [h] at hz
        have : (0 : Nat) = s.size - k := hz
        omega
      · have := h k (Nat.le_refl _) (by omega)
        rw [hf] at this
        cases this
theorem rpath_loop (s : ByteArray) (hs : s.size ≤ 16) : ∀ (d n k : Nat), s.size - k = d → d < n → k ≤ s.size → ∃ r, halterref16_Check.l0 s n (k : Int) = some r ∧ ((r = .inl () ↔ ∀ j, k ≤ j → j < s.size → fineB (bt s (j : Int)) = true)) := by
  intro d
  induction d with
  | zero =>
    intro n k hk hd hle
    obtain ⟨n, rfl⟩ := fz hd
    unfold halterref16_Check.l0; rw [if_neg (by omega)]; exact ⟨_, rfl, fun _ j h1 h2 => by omega, fun _ => rfl⟩
  | succ d ih =>
    intro n k hk hd hle
    obtain ⟨n, rfl⟩ := fz hd
    obtain ⟨r, h1, h2⟩ := ih n (k + 1) (by omega) (by omega) (by omega)
    have hst : halterref16_Check.l0 s (n + 1) (k : Int) = if fineB (bt s (k : Int)) = true then some r else some (.inr ()) := by
      unfold halterref16_Check.l0; rw [if_pos (by omega), if_pos (by omega), wsucc (by omega), h1]; unfold fineB; simp only [decide_eq_true_eq]
      generalize bt s (k : Int) = c
      repeat' split
      all_goals first
        | rfl
        | (exfalso; omega)
    rw [hst]
    cases hf : fineB (bt s (k : Int)) with
    | true =>
      rw [if_pos rfl]; refine ⟨r, rfl, h2.trans ⟨fun h j g1 g2 => ?_, fun h j g1 g2 => h j (by omega) g2⟩⟩
      by_cases e : j = k
      · subst e; exact hf
      · exact h j (by omega) g2
    | false =>
      rw [if_neg (by simp)]; refine ⟨_, rfl, fun h => (by cases h), fun h => ?_⟩
      have := h k (Nat.le_refl _) (by omega)
      rw [hf] at this
      cases this
theorem path_both (s : ByteArray) : ∃ (e : Option Int) (r : Int), path_Check.f s = some e ∧ halterref16_Check.f s = some r ∧ (e = none ↔ r = 0) := by
  unfold path_Check.f halterref16_Check.f
  by_cases h0 : s = ByteArray.empty
  · rw [if_pos h0, if_pos h0]; exact ⟨_, _, rfl, rfl, by simp⟩
  rw [if_neg h0, if_neg h0]
  by_cases h1 : ((s.size : Nat) : Int) > 16
  · rw [if_pos h1, if_pos h1]; exact ⟨_, _, rfl, rfl, by simp⟩
  rw [if_neg h1, if_neg h1]
  obtain ⟨S, hS, hF⟩ := fine_set2
  have e0 : s.extract 0 s.size = s := by
    apply ByteArray.ext
    rw [ByteArray.data_extract]; exact Array.extract_size
  obtain ⟨y, hy, y2⟩ := trim_fine S hF s _ FUEL 0 rfl (fg (by omega)) (by omega)
  rw [e0] at hy
  obtain ⟨r, hr, r2⟩ := rpath_loop s (by omega) _ FUEL 0 rfl (fg (by omega)) (by omega)
  have hr : halterref16_Check.l0 s FUEL (0 : Int) = some r := hr
  have ht : strings_TrimLeft.f s FT = some y := by
    unfold strings_TrimLeft.f strings_trimLeftASCII.f; rw [if_neg h0, if_neg (by decide +kernel), if_neg (by decide +kernel), hS, bg]; dsimp only; rw [if_pos rfl, hy, bg, bg]
  have ht : strings_TrimLeft.f s (⟨#[97, 98, 99, 100, 101, 102, 103, 104, 105, 106, 107, 108, 109, 110, 111, 112, 113, 114, 115, 116, 117, 118, 119, 120, 121, 122, 48, 49, 50, 51, 52, 53, 54, 55, 56, 57, 46, 95, 45]⟩ : ByteArray) = some y := ht
  rw [ht, bg, hr, bg]
  cases r with
  | inl u =>
    have hy2 := y2.2 (r2.1 rfl)
    rw [if_neg (by simpa using hy2)]; exact ⟨_, _, rfl, rfl, by simp⟩
  | inr u =>
    have hy2 : ¬ y = ByteArray.empty := fun h => by have := r2.2 (y2.1 h); cases this
    rw [if_pos hy2]; exact ⟨_, _, rfl, rfl, by simp⟩

theorem One_eq (k : Nat) (h : k < 31) : sigset_One.f ((k + 1 : Nat) : Int) = some ((2 ^ k : Nat) : Int) := by
  have : ∀ q : Fin 31, sigset_One.f ((q.val + 1 : Nat) : Int) = some ((2 ^ q.val : Nat) : Int) := by decide +kernel
  exact this ⟨k, h⟩
theorem pw_lt {k : Nat} (h : k < 31) : (2 : Nat) ^ k < 2147483648 := by
  have : (2 : Nat) ^ k < 2 ^ 31 := Nat.pow_lt_pow_right (by omega) h
  omega
theorem and_pw (p k : Nat) : (((p &&& 2 ^ k : Nat) : Int) != 0) = p.testBit k := by
  cases h : p.testBit k with
  | true =>
    have : p &&& 2 ^ k ≠ 0 := by
      intro h2
      have h3 := congrArg (Nat.testBit · k) h2
      simp [h] at h3
    rw [bne_iff_ne]; omega
  | false =>
    have : p &&& 2 ^ k = 0 := by
      apply bits_zero
      intro j; rw [Nat.testBit_and, Nat.testBit_two_pow]
      by_cases hj : k = j
      · subst hj; simp [h]
      · simp [hj]
    rw [this]; rfl
theorem Has_eq {p : Nat} (hp : p < 4294967296) {k : Nat} (h : k < 31) : sigset_Has.f (p : Int) ((k + 1 : Nat) : Int) = some (p.testBit k) := by
  have := pw_lt h
  unfold sigset_Has.f; rw [One_eq k h, bg, b_and p (2 ^ k) hp (by omega)]; rw [and_pw]
theorem Add_eq {p : Nat} (hp : p < 4294967296) {k : Nat} (h : k < 31) : sigset_Add.f (p : Int) ((k + 1 : Nat) : Int) = some (((p &&& 2147483647) ||| 2 ^ k : Nat) : Int) := by
  have := pw_lt h; have := cut_lt p
  unfold sigset_Add.f; rw [One_eq k h, bg, show bits .and .u32 (p : Int) 2147483647 = ((p &&& 2147483647 : Nat) : Int) from b_and p 2147483647 hp (by omega), b_or _ _ (by omega) (by omega)]
theorem signal_eq (n : Int) : sig_signal.f n = some (decide (1 ≤ n ∧ n ≤ 31)) := by
  unfold sig_signal.f
  by_cases h : n ≥ 1
  · rw [if_pos h]; congr 1; exact decide_eq_decide.2 ⟨fun h2 => ⟨h, h2⟩, fun h2 => h2.2⟩
  · rw [if_neg h]; congr 1; simp; omega
theorem mask_bit (j : Nat) : (262400 : Nat).testBit j = decide (j = 8 ∨ j = 18) := by
  rw [show (262400 : Nat) = 2 ^ 8 ||| 2 ^ 18 from rfl, Nat.testBit_or, Nat.testBit_two_pow, Nat.testBit_two_pow]
  simp [eq_comm]
theorem mask_zero {b : Nat} : b &&& 262400 = 0 ↔ b.testBit 8 = false ∧ b.testBit 18 = false := by
  constructor
  · intro h
    have h1 := congrArg (Nat.testBit · 8) h
    have h2 := congrArg (Nat.testBit · 18) h
    simp only [Nat.testBit_and, mask_bit, Nat.zero_testBit] at h1 h2; exact ⟨by simpa using h1, by simpa using h2⟩
  · rintro ⟨h1, h2⟩
    apply bits_zero
    intro j; rw [Nat.testBit_and, mask_bit]
    by_cases h3 : j = 8
    · subst h3; simp [h1]
    · by_cases h4 : j = 18
      · subst h4; simp [h2]
      · simp [h3, h4]
def may (p b : Nat) (acts : List Int) : Prop := b.testBit 8 = false ∧ b.testBit 18 = false ∧ acts.getD 0 0 = 0 ∧ acts.getD 9 0 = 0 ∧ acts.getD 19 0 = 0 ∧ p < 2147483648 ∧ b < 2147483648
instance (p b : Nat) (acts : List Int) : Decidable (may p b acts) := by unfold may; exact inferInstance
theorem Check_eq {p b : Nat} (hb : b < 4294967296) (acts : List Int) : sig_Check.f (p : Int) (b : Int) acts = some (if may p b acts then none else some 22) := by
  have h := mask_zero (b := b)
  unfold sig_Check.f; rw [show bits .and .u32 (b : Int) 262400 = ((b &&& 262400 : Nat) : Int) from b_and b 262400 (by omega) (by omega)]
  by_cases hm : may p b acts
  · obtain ⟨h1, h2, h3, h4, h5, h6, h7⟩ := hm
    rw [if_pos (show may p b acts from ⟨h1, h2, h3, h4, h5, h6, h7⟩)]; rw [if_neg (by rw [h.2 ⟨h1, h2⟩]; simp), if_neg (by simpa using h3), if_neg (by simpa using h4), if_neg (by simpa using h5), if_neg (by omega), if_neg (by omega)]
  · rw [if_neg hm]
    by_cases h1 : b &&& 262400 = 0
    · rw [if_neg (by rw [h1]; simp)]
      by_cases h3 : acts.getD 0 0 = 0
      · rw [if_neg (by simpa using h3)]
        by_cases h4 : acts.getD 9 0 = 0
        · rw [if_neg (by simpa using h4)]
          by_cases h5 : acts.getD 19 0 = 0
          · rw [if_neg (by simpa using h5)]
            by_cases h6 : (p : Int) > 2147483647
            · rw [if_pos h6]
            · rw [if_neg h6]
              by_cases h7 : (b : Int) > 2147483647
              · rw [if_pos h7]
              · exact absurd ⟨(h.1 h1).1, (h.1 h1).2, h3, h4, h5, by omega, by omega⟩ hm
          · rw [if_pos h5]
        · rw [if_pos h4]
      · rw [if_pos h3]
    · rw [if_pos (by omega)]


def plainS (n : Int) : Int := if n = 17 then 0 else if n = 18 then 3 else if n = 19 then 2 else if n = 20 then 2 else 1
theorem plain_eq (n : Int) : sig_plain.f n = some (plainS n) := by
  unfold sig_plain.f plainS
  repeat' split
  all_goals rfl
def whatS (acts : List Int) (n : Int) : Int :=
  if 1 ≤ n ∧ n ≤ 31 then (if n = 9 then 1 else if n = 19 then 2 else if acts.getD n.toNat 0 = 0 then plainS n else if acts.getD n.toNat 0 > 1 then 4 else if n = 18 then 3 else 0) else 0
theorem What_eq (p b : Int) (acts : List Int) (n : Int) : sig_What.f p b acts n = some (whatS acts n) := by
  unfold sig_What.f whatS; rw [signal_eq, bg]
  by_cases h : 1 ≤ n ∧ n ≤ 31
  · rw [if_neg (by simpa using h), if_pos h]
    have h1 : 0 ≤ n ∧ n < ((32 : Nat) : Int) := by omega
    have h2 : n.toNat < 32 := by omega
    simp only [plain_eq, bg, if_pos h1, if_pos h2]
    by_cases h9 : n = 9
    · subst h9; rfl
    rw [if_neg h9, if_neg h9]
    by_cases h19 : n = 19
    · subst h19; rfl
    rw [if_neg h19, if_neg h19]
    repeat' split
    all_goals rfl
  · rw [if_pos (by simpa using h), if_neg h]
def agN (n : Int) : Nat := if n = 18 then 786432 else if n = 19 then 131072 else if n = 20 then 131072 else 0
theorem ag_eq (n : Int) : sig_against.f n = some ((agN n : Nat) : Int) := by
  unfold sig_against.f agN
  by_cases h1 : n = 18
  · rw [if_pos h1, if_pos h1]; decide +kernel
  rw [if_neg h1, if_neg h1]
  by_cases h2 : n = 19
  · rw [if_pos h2, if_pos h2]; decide +kernel
  rw [if_neg h2, if_neg h2]
  by_cases h3 : n = 20
  · rw [if_pos h3, if_pos h3]; decide +kernel
  rw [if_neg h3, if_neg h3]; rfl
theorem ag_lt (n : Int) : agN n < 2147483648 := by
  unfold agN
  repeat' split
  all_goals omega
def postS (p b : Nat) (acts : List Int) (k : Nat) : Nat :=
  if b.testBit k = true ∨ whatS acts ((k + 1 : Nat) : Int) ≠ 0 then less p (agN ((k + 1 : Nat) : Int)) ||| 2 ^ k else less p (agN ((k + 1 : Nat) : Int))
theorem Post_eq {p b : Nat} (hb : b < 4294967296) (acts : List Int) {k : Nat} (hk : k < 31) : sig_Post.f (p : Int) (b : Int) acts ((k + 1 : Nat) : Int) = some (if may p b acts then ((postS p b acts k : Int), (b : Int), acts, none) else (0, 0, List.replicate 32 0, some 22)) := by
  unfold sig_Post.f; rw [Check_eq hb, bg, signal_eq]
  by_cases hm : may p b acts
  · rw [if_pos hm, if_pos hm, if_neg (by simp), bg, if_neg (by simp; omega), ag_eq, bg, Has_eq hb hk, bg]
    obtain ⟨h1, h2, h3, h4, h5, h6, h7⟩ := hm
    have hl := less_le p (agN ((k + 1 : Nat) : Int))
    have hg := ag_lt ((k + 1 : Nat) : Int)
    rw [b_andNot _ _ (by omega) (by omega), Add_eq (by omega) hk, What_eq, bg, bg, cut_eq (by omega)]; unfold postS
    cases hbt : b.testBit k with
    | true => rw [if_pos rfl, if_pos (.inl rfl)]
    | false =>
      rw [if_neg (by simp)]
      by_cases hw : whatS acts ((k + 1 : Nat) : Int) = 0
      · rw [if_neg (by simpa using hw), if_neg (by simpa using hw)]
      · rw [if_pos hw, if_pos (.inr hw)]
  · rw [if_neg hm, if_neg hm, if_pos (by simp)]

def els (f : Nat → Bool) : Nat → Nat → List Int
  | 0, _ => []
  | d + 1, i => (if f i = true then [((i + 1 : Nat) : Int)] else []) ++ els f d (i + 1)
theorem els_len (f : Nat → Bool) : ∀ d i, (els f d i).length ≤ d
  | 0, _ => by simp [els]
  | d + 1, i => by
    have := els_len f d (i + 1)
    unfold els
    split <;> simp <;> omega
theorem els_mem (f : Nat → Bool) (z : Int) : ∀ d i, z ∈ els f d i ↔ ∃ k, i ≤ k ∧ k < i + d ∧ f k = true ∧ z = ((k + 1 : Nat) : Int)
  | 0, i => by simp [els]; intro k h1 h2; omega
  | d + 1, i => by
    unfold els; rw [List.mem_append, els_mem f z d (i + 1)]
    constructor
    · rintro (h | ⟨k, h1, h2, h3, h4⟩)
      · split at h
        · rename_i hf
          exact ⟨i, by omega, by omega, hf, by simpa using h⟩
        · cases h
      · exact ⟨k, by omega, by omega, h3, h4⟩
    · rintro ⟨k, h1, h2, h3, h4⟩
      by_cases hk : k = i
      · subst hk; left; rw [if_pos h3]; simpa using h4
      · right; exact ⟨k, by omega, by omega, h3, h4⟩
theorem els_mem31 (f : Nat → Bool) (k : Nat) (hk : k < 31) : ((k + 1 : Nat) : Int) ∈ els f 31 0 ↔ f k = true := by
  rw [els_mem]
  constructor
  · rintro ⟨j, h1, h2, h3, h4⟩
    have : j = k := by omega
    rw [← this]; exact h3
  · intro h; exact ⟨k, by omega, by omega, h, rfl⟩
theorem ListL (p : Nat) (hp : p < 4294967296) : ∀ (d i n : Nat) (x : List Int), i + d = 31 → d < n → x.length ≤ i → halterref03_List.l0 n x ((p / 2 ^ i : Nat) : Int) ((i + 1 : Nat) : Int) = some (x ++ els p.testBit d i)
  | d, i, 0, x, h, hn, hx => by omega
  | 0, i, n + 1, x, h, hn, hx => by
    rw [halterref03_List.l0, if_neg (by omega)]; simp [els]
  | d + 1, i, n + 1, x, h, hn, hx => by
    have hq : p / 2 ^ i ≤ p := Nat.div_le_self ..
    have hq0 : (0 : Int) ≤ ((p / 2 ^ i : Nat) : Int) := Int.natCast_nonneg _
    have e1 : IntKind.wrap .u32 (Int.tdiv ((p / 2 ^ i : Nat) : Int) 2) = ((p / 2 ^ (i + 1) : Nat) : Int) := by
      rw [Nat.pow_succ, ← Nat.div_div_eq_div_mul, Int.tdiv_eq_ediv_of_nonneg hq0, wu32]
      generalize p / 2 ^ i = q at *
      omega
    have e2 : Int.tmod ((p / 2 ^ i : Nat) : Int) 2 = 1 ↔ p.testBit i = true := by
      rw [Int.tmod_eq_emod_of_nonneg hq0, Nat.testBit_eq_decide_div_mod_eq, decide_eq_true_eq]
      generalize p / 2 ^ i = q
      omega
    have e3 : IntKind.wrap .i64 (((i + 1 : Nat) : Int) + 1) = ((i + 1 + 1 : Nat) : Int) := wsucc (by omega)
    rw [halterref03_List.l0, if_pos (by omega), e1, e3]
    have ih := fun y hy => ListL p hp d (i + 1) n y (by omega) (by omega) hy
    clear e1 e3
    unfold els
    by_cases hb : p.testBit i = true
    · rw [if_pos (e2.2 hb), if_pos (⟨⟨rfl, rfl⟩, rfl, rfl, by omega, by omega⟩), ih _ (by simp; omega), if_pos hb, List.append_assoc]
    · rw [if_neg (fun h => hb (e2.1 h)), ih _ (by omega), if_neg hb, List.nil_append]
theorem List_eq {p : Nat} (hp : p < 4294967296) : halterref03_List.f (p : Int) = some (els p.testBit 31 0) := by
  have := ListL p hp 31 0 FUEL [] (by omega) (fg (by omega)) (by simp)
  unfold halterref03_List.f; rw [show (p / 2 ^ 0 : Nat) = p by simp] at this
  rw [show halterref03_List.l0 FUEL [] (p : Int) 1 = _ from this, bg, List.nil_append]
theorem HasL (l : List Int) (z : Int) (hl : l.length < 1000) : ∀ (d i n : Nat), l.length - i = d → i ≤ l.length → d < n → halterref03_Has.l0 l z n (i : Int) = some (if z ∈ l.drop i then .inr () else .inl ())
  | d, i, 0, hd, hi, hn => by omega
  | 0, i, n + 1, hd, hi, hn => by
    rw [halterref03_Has.l0, if_neg (by omega), List.drop_eq_nil_of_le (by omega), if_neg (by simp)]
  | d + 1, i, n + 1, hd, hi, hn => by
    rw [halterref03_Has.l0, if_pos (by omega), if_pos (by omega), tn, Nat.zero_add, if_pos (by omega), wsucc (by omega), HasL l z hl d (i + 1) n (by omega) (by omega) (by omega), dg l i 0 (by omega)]
    by_cases h : l.getD i 0 = z
    · rw [if_pos h, if_pos (by rw [h]; exact List.mem_cons_self)]
    · rw [if_neg h]; congr 1
      by_cases h2 : z ∈ l.drop (i + 1)
      · rw [if_pos h2, if_pos (List.mem_cons_of_mem _ h2)]
      · rw [if_neg h2, if_neg (by rw [List.mem_cons]; rintro (h3 | h3); exact h h3.symm; exact h2 h3)]
theorem RHas_eq {p : Nat} (hp : p < 4294967296) {k : Nat} (hk : k < 31) : halterref03_Has.f (p : Int) ((k + 1 : Nat) : Int) = some (p.testBit k) := by
  have hl := els_len p.testBit 31 0
  unfold halterref03_Has.f; rw [List_eq hp, bg, show halterref03_Has.l0 (els p.testBit 31 0) ((k + 1 : Nat) : Int) FUEL 0 = _ from HasL _ _ (by omega) _ 0 FUEL rfl (by omega) (fg (by omega)), bg, List.drop_zero]
  cases h : p.testBit k with
  | true => rw [if_pos ((els_mem31 _ k hk).2 h)]
  | false => rw [if_neg (fun h2 => by rw [els_mem31 _ k hk, h] at h2; cases h2)]
theorem OfL1 (v : Int) (l : List Int) (hl : l.length < 1000) (s : Nat) (hs : s < 4294967295) : ∀ (d i n : Nat), l.length - i = d → i ≤ l.length → d < n → halterref03_Of.l1 v l n (s : Int) (i : Int) = some (((s + if v ∈ l.drop i then 1 else 0 : Nat)) : Int)
  | d, i, 0, hd, hi, hn => by omega
  | 0, i, n + 1, hd, hi, hn => by
    rw [halterref03_Of.l1, if_neg (by omega), List.drop_eq_nil_of_le (by omega), if_neg (by simp), Nat.add_zero]
  | d + 1, i, n + 1, hd, hi, hn => by
    rw [halterref03_Of.l1, if_pos (by omega), if_pos (by omega), tn, wsucc (by omega), OfL1 v l hl s hs d (i + 1) n (by omega) (by omega) (by omega), dg l i 0 (by omega)]
    by_cases h : l.getD i 0 = v
    · rw [if_pos h, if_pos (by rw [h]; exact List.mem_cons_self), wu32]
      congr 1; omega
    · rw [if_neg h]
      by_cases h2 : v ∈ l.drop (i + 1)
      · rw [if_pos h2, if_pos (List.mem_cons_of_mem _ h2)]
      · rw [if_neg h2, if_neg (by rw [List.mem_cons]; rintro (h3 | h3); exact h h3.symm; exact h2 h3)]
theorem OfL0 (l : List Int) (hl : l.length < 1000) : ∀ (m n s : Nat), m ≤ 31 → m < n → s < 2 ^ (31 - m) → (∀ k, k < 31 - m → s.testBit k = decide (((m + k + 1 : Nat) : Int) ∈ l)) → ∃ r : Nat, r < 2147483648 ∧ (∀ k, k < 31 → r.testBit k = decide (((k + 1 : Nat) : Int) ∈ l)) ∧ halterref03_Of.l0 l n (s : Int) (m : Int) = some (r : Int)
  | m, 0, s, hm, hn, hs, hb => by omega
  | 0, n + 1, s, hm, hn, hs, hb => by
    refine ⟨s, hs, fun k hk => ?_, ?_⟩
    · rw [hb k hk, Nat.zero_add]
    · rw [halterref03_Of.l0, if_neg (by omega)]
  | m + 1, n + 1, s, hm, hn, hs, hb => by
    have hs2 : (2 : Nat) ^ (31 - (m + 1)) ≤ 2 ^ 30 := Nat.pow_le_pow_right (by omega) (by omega)
    have e1 : IntKind.wrap .u32 ((2 : Int) * (s : Int)) = ((2 * s : Nat) : Int) := by rw [wu32]; omega
    have e2 : IntKind.wrap .i64 (((m + 1 : Nat) : Int) - 1) = (m : Int) := by rw [wi64 (by omega) (by omega)]; omega
    have hp : (2 : Nat) ^ (31 - m) = 2 * 2 ^ (31 - (m + 1)) := by
      rw [show 31 - m = 31 - (m + 1) + 1 by omega, Nat.pow_succ]; omega
    obtain ⟨r, h1, h2, h3⟩ := OfL0 l hl m n (2 * s + if ((m + 1 : Nat) : Int) ∈ l then 1 else 0) (by omega) (by omega) (by split <;> omega) (fun k hk => by
      cases k with
      | zero =>
        rw [Nat.testBit_zero]
        by_cases h : ((m + 1 : Nat) : Int) ∈ l
        · rw [if_pos h, show m + 0 + 1 = m + 1 from rfl, dt h, dt (by omega)]
        · rw [if_neg h, show m + 0 + 1 = m + 1 from rfl, df h, df (by omega)]
      | succ k =>
        rw [Nat.testBit_succ, show (2 * s + if ((m + 1 : Nat) : Int) ∈ l then 1 else 0) / 2 = s by split <;> omega, hb k (by omega), show m + 1 + k + 1 = m + (k + 1) + 1 by omega])
    refine ⟨r, h1, h2, ?_⟩
    rw [halterref03_Of.l0, if_pos (by omega), e1, e2, show halterref03_Of.l1 ((m + 1 : Nat) : Int) l FUEL ((2 * s : Nat) : Int) 0 = _ from OfL1 _ l hl (2 * s) (by omega) _ 0 FUEL rfl (by omega) (fg (by omega)), bg, List.drop_zero]
    exact h3
theorem Of_eq (l : List Int) (hl : l.length < 1000) : ∃ r : Nat, r < 2147483648 ∧ (∀ k, k < 31 → r.testBit k = decide (((k + 1 : Nat) : Int) ∈ l)) ∧ halterref03_Of.f l = some (r : Int) := by
  obtain ⟨r, h1, h2, h3⟩ := OfL0 l hl 31 FUEL 0 (by omega) (fg (by omega)) (by decide) (fun k hk => by omega)
  refine ⟨r, h1, h2, ?_⟩
  unfold halterref03_Of.f; rw [show halterref03_Of.l0 l FUEL 0 31 = _ from h3, bg]
theorem ext31 {a b : Nat} (ha : a < 2147483648) (hb : b < 2147483648) (h : ∀ k, k < 31 → a.testBit k = b.testBit k) : a = b := by
  apply Nat.eq_of_testBit_eq
  intro j
  by_cases hj : j < 31
  · exact h j hj
  · rw [bit_hi (show a < 2 ^ 31 from ha) (by omega), bit_hi (show b < 2 ^ 31 from hb) (by omega)]
theorem DelL (l : List Int) (z : Int) (hl : l.length < 1000) : ∀ (d i n : Nat) (x : List Int), l.length - i = d → i ≤ l.length → d < n → x.length ≤ i → halterref03_Del.l0 l z n x (i : Int) = some (x ++ (l.drop i).filter (fun y => decide (y ≠ z)))
  | d, i, 0, x, hd, hi, hn, hx => by omega
  | 0, i, n + 1, x, hd, hi, hn, hx => by
    rw [halterref03_Del.l0, if_neg (by omega), List.drop_eq_nil_of_le (by omega)]; simp
  | d + 1, i, n + 1, x, hd, hi, hn, hx => by
    have ih := fun y hy => DelL l z hl d (i + 1) n y (by omega) (by omega) (by omega) hy
    rw [halterref03_Del.l0, if_pos (by omega), if_pos (by omega), tn, Nat.zero_add, if_pos (by omega), wsucc (by omega), dg l i 0 (by omega), List.filter_cons]
    by_cases h : l.getD i 0 = z
    · rw [if_neg (fun h2 => h2 h), ih _ (by omega), if_neg (by simpa using h)]
    · rw [if_pos h, if_pos (by omega), if_pos (by omega), if_pos (⟨⟨rfl, rfl⟩, rfl, rfl, by omega, by omega⟩), ih _ (by simp; omega), if_pos (by simpa using h), List.append_assoc]
      rfl
theorem RDel (p : Nat) (hp : p < 4294967296) (z : Int) : ∃ r : Nat, r < 2147483648 ∧ (∀ k, k < 31 → r.testBit k = (p.testBit k && decide (((k + 1 : Nat) : Int) ≠ z))) ∧ halterref03_Del.f (p : Int) z = some (r : Int) := by
  have hl := els_len p.testBit 31 0
  obtain ⟨r, h1, h2, h3⟩ := Of_eq ((els p.testBit 31 0).filter (fun y => decide (y ≠ z))) (Nat.lt_of_le_of_lt (List.length_filter_le _ _) (by omega))
  refine ⟨r, h1, fun k hk => ?_, ?_⟩
  · rw [h2 k hk, Bool.eq_iff_iff]; simp only [decide_eq_true_eq, List.mem_filter, Bool.and_eq_true]; rw [els_mem31 _ k hk]
  · unfold halterref03_Del.f; rw [List_eq hp, bg, show halterref03_Del.l0 (els p.testBit 31 0) z FUEL [] 0 = _ from DelL _ z (by omega) _ 0 FUEL [] rfl (by omega) (fg (by omega)) (by simp), bg, List.drop_zero, List.nil_append, h3, bg]
theorem RAdd (p : Nat) (hp : p < 4294967296) (z : Int) : ∃ r : Nat, r < 2147483648 ∧ (∀ k, k < 31 → r.testBit k = (p.testBit k || decide (((k + 1 : Nat) : Int) = z))) ∧ halterref03_Add.f (p : Int) z = some (r : Int) := by
  have hl := els_len p.testBit 31 0
  obtain ⟨r, h1, h2, h3⟩ := Of_eq (els p.testBit 31 0 ++ [z]) (by simp; omega)
  refine ⟨r, h1, fun k hk => ?_, ?_⟩
  · rw [h2 k hk, Bool.eq_iff_iff]; simp only [decide_eq_true_eq, List.mem_append, List.mem_singleton, Bool.or_eq_true]; rw [els_mem31 _ k hk]
  · unfold halterref03_Add.f; rw [List_eq hp, bg, if_pos (⟨⟨rfl, rfl⟩, rfl, rfl, by omega, by omega⟩), h3, bg]
theorem RDel_eq {p : Nat} (hp : p < 4294967296) {k : Nat} (hk : k < 31) : halterref03_Del.f (p : Int) ((k + 1 : Nat) : Int) = some ((less (p &&& 2147483647) (2 ^ k) : Nat) : Int) := by
  obtain ⟨r, h1, h2, h3⟩ := RDel p hp ((k + 1 : Nat) : Int)
  have hc := cut_lt p; have hpw := pw_lt hk
  have hle := less_le (p &&& 2147483647) (2 ^ k)
  rw [h3]; congr 2
  refine ext31 h1 (by omega) fun j hj => ?_
  rw [h2 j hj, less_bit (by omega) (by omega), cut_bit, Nat.testBit_two_pow]
  by_cases e : j = k
  · subst e; simp
  · have : ¬ ((j + 1 : Nat) : Int) = ((k + 1 : Nat) : Int) := by omega
    simp only [ne_eq, this, not_false_eq_true, decide_true, Bool.and_true, hj, Bool.true_and]
    have : ¬ k = j := fun h => e h.symm
    simp [this]
theorem RAdd_eq {p : Nat} (hp : p < 4294967296) {k : Nat} (hk : k < 31) : halterref03_Add.f (p : Int) ((k + 1 : Nat) : Int) = some (((p &&& 2147483647) ||| 2 ^ k : Nat) : Int) := by
  obtain ⟨r, h1, h2, h3⟩ := RAdd p hp ((k + 1 : Nat) : Int)
  have hc := cut_lt p; have hpw := pw_lt hk
  rw [h3]; congr 2
  refine ext31 h1 (Nat.or_lt_two_pow (n := 31) (by omega) (by omega)) fun j hj => ?_
  rw [h2 j hj, Nat.testBit_or, cut_bit, Nat.testBit_two_pow]
  by_cases e : j = k
  · subst e; simp
  · have : ¬ ((j + 1 : Nat) : Int) = ((k + 1 : Nat) : Int) := by omega
    simp only [this, decide_false, Bool.or_false, hj, decide_true, Bool.true_and]
    have : ¬ k = j := fun h => e h.symm
    simp [this]

theorem RMay_eq {p b : Nat} (hb : b < 4294967296) (acts : List Int) : halterref25_May.f (p : Int) (b : Int) acts = some (decide (may p b acts)) := by
  unfold halterref25_May.f; rw [show halterref03_Has.f (b : Int) 9 = _ from RHas_eq hb (k := 8) (by omega), bg, show halterref03_Has.f (b : Int) 19 = _ from RHas_eq hb (k := 18) (by omega), bg]
  have bad : ¬ may p b acts → some false = some (decide (may p b acts)) := fun h => by rw [df h]
  cases h8 : b.testBit 8 with
  | true => rw [if_neg (by simp)]; exact bad (fun h => by have := h.1; rw [h8] at this; cases this)
  | false =>
    rw [if_pos (by simp)]
    cases h18 : b.testBit 18 with
    | true => rw [if_neg (by simp)]; exact bad (fun h => by have := h.2.1; rw [h18] at this; cases this)
    | false =>
      rw [if_pos (by simp)]
      by_cases h0 : acts.getD 0 0 = 0
      · rw [if_pos h0]
        by_cases h9 : acts.getD 9 0 = 0
        · rw [if_pos h9]
          by_cases h19 : acts.getD 19 0 = 0
          · rw [if_pos h19]
            by_cases hp : (p : Int) < 2147483648
            · rw [if_pos hp]
              by_cases hb2 : (b : Int) < 2147483648
              · rw [dt hb2, dt (show may p b acts from ⟨h8, h18, h0, h9, h19, by omega, by omega⟩)]
              · rw [df hb2]; exact bad (fun h => by have := h.2.2.2.2.2.2; omega)
            · rw [if_neg hp]; exact bad (fun h => by have := h.2.2.2.2.2.1; omega)
          · rw [if_neg h19]; exact bad (fun h => h19 h.2.2.2.2.1)
        · rw [if_neg h9]; exact bad (fun h => h9 h.2.2.2.1)
      · rw [if_neg h0]; exact bad (fun h => h0 h.2.2.1)
theorem whatS_nn (acts : List Int) (n : Int) : 0 ≤ whatS acts n := by
  unfold whatS plainS
  repeat' split
  all_goals omega
theorem RWhat_eq (p b : Int) (acts : List Int) (n : Int) (hnn : ∀ j, 0 ≤ acts.getD j 0) : halterref25_What.f p b acts n = some (whatS acts n) := by
  unfold halterref25_What.f whatS
  have hx := hnn n.toNat
  generalize acts.getD n.toNat 0 = x at *
  by_cases h1 : n < 1
  · rw [if_pos h1, if_neg (by omega)]
  rw [if_neg h1]
  by_cases h2 : n > 31
  · rw [if_pos h2, if_neg (by omega)]
  rw [if_neg h2, if_pos (by omega), if_pos (by omega), if_pos (show 1 ≤ n ∧ n ≤ 31 by omega)]; unfold plainS
  by_cases h9 : n = 9
  · subst h9; rfl
  rw [if_neg h9, if_neg h9]
  by_cases h19 : n = 19
  · subst h19; rfl
  rw [if_neg h19, if_neg h19]
  by_cases hx1 : x > 1
  · rw [if_pos hx1, if_neg (by omega), if_pos hx1]
  rw [if_neg hx1, if_neg hx1]
  by_cases h18 : n = 18
  · rw [if_pos h18, if_pos h18, if_pos h18, if_neg (show ¬ n = 17 by omega)]
    split <;> rfl
  rw [if_neg h18, if_neg h18, if_neg h18]
  by_cases hx0 : x = 0
  · rw [if_neg (by omega), if_pos hx0]
    by_cases h17 : n = 17
    · rw [if_pos h17, if_pos h17]
    · rw [if_neg h17, if_neg h17, if_neg h19]
      split <;> rfl
  · rw [if_pos (by omega), if_neg hx0]
theorem against_18 {p : Nat} (hp : p < 2147483648) : less (less p (2 ^ 18)) (2 ^ 19) = less p 786432 := by
  have h1 := less_le p (2 ^ 18)
  have h2 := less_le (less p (2 ^ 18)) (2 ^ 19)
  have h3 := less_le p 786432
  refine ext31 (by omega) (by omega) fun j hj => ?_
  rw [less_bit (by omega) (by omega), less_bit (by omega) (by omega), less_bit (by omega) (by omega), show (786432 : Nat) = 2 ^ 18 ||| 2 ^ 19 from rfl, Nat.testBit_or]
  cases p.testBit j <;> cases (2 ^ 18 : Nat).testBit j <;> cases (2 ^ 19 : Nat).testBit j <;> rfl
theorem less_none {p : Nat} (hp : p < 2147483648) : less p 0 = p := by
  have h1 := less_le p 0
  refine ext31 (by omega) hp fun j hj => ?_
  rw [less_bit (by omega) (by omega)]; simp
theorem RPost_eq {p b : Nat} (hb : b < 4294967296) (acts : List Int) (hnn : ∀ j, 0 ≤ acts.getD j 0) {k : Nat} (hk : k < 31) : halterref25_Post.f (p : Int) (b : Int) acts ((k + 1 : Nat) : Int) = some (if may p b acts then ((postS p b acts k : Int), (b : Int), acts, 0) else (0, 0, List.replicate 32 0, 22)) := by
  unfold halterref25_Post.f; rw [RMay_eq hb, bg]
  by_cases hm : may p b acts
  · have hp := hm.2.2.2.2.2.1
    rw [if_pos hm, if_neg (by simpa using hm), if_neg (by omega), if_neg (by omega)]
    have hag : ∀ q : Nat, q < 2147483648 → q = less p (agN ((k + 1 : Nat) : Int)) → ((halterref03_Has.f (b : Int) ((k + 1 : Nat) : Int)).bind fun t10 => if t10 = true then (halterref03_Add.f (q : Int) ((k + 1 : Nat) : Int)).bind fun t12 => some (t12, (b : Int), acts, (0 : Int)) else (halterref25_What.f (q : Int) (b : Int) acts ((k + 1 : Nat) : Int)).bind fun t13 => if t13 > (0 : Int) then (halterref03_Add.f (q : Int) ((k + 1 : Nat) : Int)).bind fun t15 => some (t15, (b : Int), acts, (0 : Int)) else some ((q : Int), (b : Int), acts, (0 : Int))) = some ((postS p b acts k : Int), (b : Int), acts, 0) := by
      intro q hq e
      have hw := whatS_nn acts ((k + 1 : Nat) : Int)
      rw [RHas_eq hb hk, bg, RAdd_eq (by omega) hk, RWhat_eq _ _ _ _ hnn, bg, bg, cut_eq hq]; unfold postS; rw [← e]
      cases hbt : b.testBit k with
      | true => rw [if_pos rfl, if_pos (.inl rfl)]
      | false =>
        rw [if_neg (by simp)]
        by_cases hz : whatS acts ((k + 1 : Nat) : Int) = 0
        · rw [if_neg (by omega), if_neg (by simpa using hz)]
        · rw [if_pos (by omega), if_pos (.inr hz)]
    have d1 : ∀ q : Nat, q < 2147483648 → ∀ j, j < 31 → halterref03_Del.f (q : Int) ((j + 1 : Nat) : Int) = some ((less q (2 ^ j) : Nat) : Int) := fun q hq j hj => by rw [RDel_eq (by omega) hj, cut_eq hq]
    have l1 := less_le p (2 ^ 18)
    have l2 := less_le (less p (2 ^ 18)) (2 ^ 19)
    have l3 := less_le p (2 ^ 17)
    by_cases h18 : ((k + 1 : Nat) : Int) = 18
    · have := hag (less (less p (2 ^ 18)) (2 ^ 19)) (by omega) (by rw [against_18 hp]; unfold agN; rw [if_pos h18])
      rw [if_pos h18, show halterref03_Del.f (p : Int) 19 = _ from d1 p hp 18 (by omega), bg, show halterref03_Del.f ((less p (2 ^ 18) : Nat) : Int) 20 = _ from d1 _ (by omega) 19 (by omega), bg, if_neg (by omega), if_neg (by omega)]
      exact this
    rw [if_neg h18]
    by_cases h19 : ((k + 1 : Nat) : Int) = 19
    · have := hag (less p (2 ^ 17)) (by omega) (by unfold agN; rw [if_neg h18, if_pos h19])
      rw [if_pos h19, show halterref03_Del.f (p : Int) 18 = _ from d1 p hp 17 (by omega), bg]
      exact this
    rw [if_neg h19]
    by_cases h20 : ((k + 1 : Nat) : Int) = 20
    · have := hag (less p (2 ^ 17)) (by omega) (by unfold agN; rw [if_neg h18, if_neg h19, if_pos h20])
      rw [if_pos h20, show halterref03_Del.f (p : Int) 18 = _ from d1 p hp 17 (by omega), bg]
      exact this
    rw [if_neg h20]; exact hag p hp (by unfold agN; rw [if_neg h18, if_neg h19, if_neg h20, less_none hp])
  · rw [if_neg hm, if_pos (by simpa using hm)]
theorem outN {n : Int} (h : ¬ (1 ≤ n ∧ n ≤ 31)) (p b : Nat) (hb : b < 4294967296) (acts : List Int) : sig_Post.f (p : Int) (b : Int) acts n = some (0, 0, List.replicate 32 0, some 22) ∧ halterref25_Post.f (p : Int) (b : Int) acts n = some (0, 0, List.replicate 32 0, 22) := by
  unfold sig_Post.f halterref25_Post.f; rw [Check_eq hb, RMay_eq hb, bg, bg, signal_eq, bg]
  constructor
  · by_cases hm : may p b acts
    · rw [if_pos hm, if_neg (by simp), if_pos (by simpa using h)]
    · rw [if_neg hm, if_pos (by simp)]
  · by_cases hm : may p b acts
    · rw [if_neg (by simpa using hm)]
      by_cases h1 : n < 1
      · rw [if_pos h1]
      · rw [if_neg h1, if_pos (by omega)]
    · rw [if_pos (by simpa using hm)]
theorem Post_both {p b : Nat} (hb : b < 4294967296) (acts : List Int) (hnn : ∀ j, 0 ≤ acts.getD j 0) (n : Int) : ∃ x y z, ∃ e : Option Int, sig_Post.f (p : Int) (b : Int) acts n = some (x, y, z, e) ∧ halterref25_Post.f (p : Int) (b : Int) acts n = some (x, y, z, e.getD 0) := by
  by_cases h : 1 ≤ n ∧ n ≤ 31
  · obtain ⟨k, rfl⟩ : ∃ k : Nat, n = ((k + 1 : Nat) : Int) := ⟨(n - 1).toNat, by omega⟩
    rw [Post_eq hb acts (by omega), RPost_eq hb acts hnn (by omega)]
    by_cases hm : may p b acts
    · rw [if_pos hm, if_pos hm]; exact ⟨_, _, _, _, rfl, rfl⟩
    · rw [if_neg hm, if_neg hm]; exact ⟨_, _, _, _, rfl, rfl⟩
  · obtain ⟨h1, h2⟩ := outN h p b hb acts
    rw [h1, h2]; exact ⟨_, _, _, _, rfl, rfl⟩
theorem getD_set {l : List Int} {i j : Nat} (h : j ≠ i) (v : Int) : (l.set i v).getD j 0 = l.getD j 0 := by
  rw [List.getD_eq_getElem?_getD, List.getElem?_set_ne (fun e => h e.symm), ← List.getD_eq_getElem?_getD]
theorem Exec_loops (p b : Int) (acts : List Int) : ∀ (d i n : Nat) (x : List Int), i + d = 32 → d < n → x.length = 32 → (∀ j, i ≤ j → x.getD j 0 = acts.getD j 0) → ∃ y, sig_Exec.l0 p b acts n x (i : Int) = some y ∧ halterref25_Exec.l0 p b n x (i : Int) = some y
  | d, i, 0, x, h, hn, hl, hx => by omega
  | 0, i, n + 1, x, h, hn, hl, hx => by
    refine ⟨x, ?_, ?_⟩
    · rw [sig_Exec.l0, if_neg (by omega)]
    · rw [halterref25_Exec.l0, if_neg (by omega)]
  | d + 1, i, n + 1, x, h, hn, hl, hx => by
    have h1 : (i : Int) < 32 := by omega
    have h2 : 0 ≤ (i : Int) ∧ (i : Int) < ((32 : Nat) : Int) := by omega
    have h3 : i < 32 := by omega
    rw [sig_Exec.l0, halterref25_Exec.l0, if_pos h1, if_pos h1, tn, hx i (by omega), wsucc (by omega), if_pos h2, if_pos h2, if_pos h2, if_pos h2, if_pos h3, if_pos h3, if_pos h3]
    by_cases hv : acts.getD i 0 > 1
    · rw [if_pos hv, if_pos hv]; exact Exec_loops p b acts d (i + 1) n _ (by omega) (by omega) (by simpa using hl) (fun j hj => by rw [getD_set (by omega), hx j (by omega)])
    · rw [if_neg hv, if_neg hv]; exact Exec_loops p b acts d (i + 1) n _ (by omega) (by omega) hl (fun j hj => hx j (by omega))
theorem Exec_both (p b : Int) (acts : List Int) (hl : acts.length = 32) : ∃ y, sig_Exec.f p b acts = some (p, b, y) ∧ halterref25_Exec.f p b acts = some (p, b, y) := by
  obtain ⟨y, h1, h2⟩ := Exec_loops p b acts 32 0 FUEL acts (by omega) (fg (by omega)) hl (fun _ _ => rfl)
  refine ⟨y, ?_, ?_⟩
  · unfold sig_Exec.f; rw [show sig_Exec.l0 p b acts FUEL acts 0 = _ from h1, bg]
  · unfold halterref25_Exec.f; rw [show halterref25_Exec.l0 p b FUEL acts 0 = _ from h2, bg]
theorem nn_of {l : List Int} (h : ∀ z ∈ l, (Lit.int .u32 z).wf = true) (j : Nat) : 0 ≤ l.getD j 0 := by
  by_cases hj : j < l.length
  · exact (u32_bd (h _ (getD_mem l j 0 hj))).1
  · rw [List.getD_eq_getElem?_getD, List.getElem?_eq_none (by omega)]; exact Int.le_refl 0

theorem rOf_eq {k n : Int} (hn : 0 ≤ n ∧ n < 256 ∨ (Lit.int .i64 n).wf = true) : halterref26_Of.f k n = some (match enc k n with | some v => (v, 0) | none => (0, 22)) := by
  unfold halterref26_Of.f enc
  by_cases hs : 1 ≤ n ∧ n ≤ 31
  · have e1 : IntKind.wrap .i64 (256 * n) = 256 * n := wi64 (by omega) (by omega)
    have e2 : IntKind.wrap .u32 (256 * n) = 256 * n := wu32_id ⟨by omega, by omega⟩
    have e3 : IntKind.wrap .i64 (256 * n + 127) = 256 * n + 127 := wi64 (by omega) (by omega)
    have e4 : IntKind.wrap .u32 (256 * n + 127) = 256 * n + 127 := wu32_id ⟨by omega, by omega⟩
    have e5 : IntKind.wrap .i64 (n + 128) = n + 128 := wi64 (by omega) (by omega)
    have e6 : IntKind.wrap .i64 (256 * (n + 128)) = 256 * (n + 128) := wi64 (by omega) (by omega)
    have e7 : IntKind.wrap .i64 (256 * (n + 128) + 127) = 256 * (n + 128) + 127 := wi64 (by omega) (by omega)
    have e8 : IntKind.wrap .u32 (256 * (n + 128) + 127) = 256 * (n + 128) + 127 := wu32_id ⟨by omega, by omega⟩
    have e9 : IntKind.wrap .u32 n = n := wu32_id ⟨by omega, by omega⟩
    rw [e1, e2, e3, e4, e5, e6, e7, e8, e9]
    clear e1 e2 e3 e4 e5 e6 e7 e8 e9
    rw [if_pos (show n ≥ 0 by omega), if_pos (show n ≤ 255 by omega), if_neg (show ¬ n < 1 by omega), if_neg (show ¬ n > 31 by omega), if_pos hs]
    by_cases k0 : k = 0
    · rw [if_pos k0, if_pos ⟨k0, by omega, by omega⟩]
    by_cases k1 : k = 1
    · subst k1; simp
    by_cases k2 : k = 2
    · subst k2; simp
    by_cases k3 : k = 3
    · subst k3; simp
    by_cases h : k < 1
    · simp [k0, k1, k2, k3, h]
    · have h3 : k > 3 := by omega
      simp [k0, k1, k2, k3, h, h3]
  · rw [if_neg hs]
    by_cases h2 : k = 0 ∧ 0 ≤ n ∧ n < 256
    · rw [if_pos h2, if_pos h2.1, if_pos (by omega), if_pos (by omega)]
      have e1 : IntKind.wrap .i64 (256 * n) = 256 * n := wi64 (by omega) (by omega)
      have e2 : IntKind.wrap .u32 (256 * n) = 256 * n := wu32_id ⟨by omega, by omega⟩
      rw [e1, e2]
    · rw [if_neg h2]; dsimp only
      have e : n < 1 ∨ n > 31 := by omega
      by_cases k0 : k = 0
      · rw [if_pos k0]
        by_cases h3 : n ≥ 0
        · rw [if_pos h3, if_neg (by omega), if_pos (by omega)]
        · rw [if_neg h3, if_pos (by omega)]
      · rw [if_neg k0]
        by_cases h3 : k < 1
        · rw [if_pos h3]
        · rw [if_neg h3]
          by_cases h4 : k > 3
          · rw [if_pos h4]
          · rw [if_neg h4]
            by_cases h5 : n < 1
            · rw [if_pos h5]
            · rw [if_neg h5, if_pos (by omega)]
theorem rWhat_l1 {v : Int} (hv : 0 ≤ v ∧ v < 4294967296) (k : Int) : ∀ (d i n : Nat), 256 - i = d → i ≤ 256 → d < n →
    halterref26_What.l1 k v n i = some (match dec v with | some p => if p.1 = k ∧ (i : Int) ≤ p.2 then .inr p.2 else .inl () | none => .inl ()) := by
  intro d
  induction d with
  | zero =>
    intro i n hd hi hn
    obtain ⟨n, rfl⟩ := fz hn
    rw [halterref26_What.l1, if_neg (by omega)]
    cases hdv : dec v with
    | none => rfl
    | some p =>
      have h := (enc_iff p.1 p.2 v hv).2 hdv
      have : p.2 < 256 := by
        unfold enc at h
        split at h
        · omega
        · split at h
          · omega
          · cases h
      dsimp only; rw [if_neg (by omega)]
  | succ d ih =>
    intro i n hd hi hn
    obtain ⟨n, rfl⟩ := fz hn
    rw [halterref26_What.l1, if_pos (by omega), rOf_eq (.inl ⟨by omega, by omega⟩), bg, wsucc (by omega), ih (i + 1) n (by omega) (by omega) (by omega)]
    have no : enc k i ≠ some v → (match dec v with | some p => if p.1 = k ∧ ((i + 1 : Nat) : Int) ≤ p.2 then Sum.inr p.2 else Sum.inl () | none => Sum.inl ()) = (match dec v with | some p => if p.1 = k ∧ (i : Int) ≤ p.2 then Sum.inr p.2 else Sum.inl () | none => (Sum.inl () : Unit ⊕ Int)) := by
      intro hne
      cases hdv : dec v with
      | none => rfl
      | some p =>
        obtain ⟨k', n'⟩ := p
        dsimp only
        by_cases hc : k' = k ∧ ((i + 1 : Nat) : Int) ≤ n'
        · rw [if_pos hc, if_pos ⟨hc.1, by omega⟩]
        · rw [if_neg hc, if_neg]
          rintro ⟨rfl, h2⟩
          have : n' = (i : Int) := by
            have : ¬ ((i + 1 : Nat) : Int) ≤ n' := fun h => hc ⟨rfl, h⟩
            omega
          subst this; exact hne ((enc_iff _ _ v hv).2 hdv)
    cases he : enc k i with
    | none =>
      dsimp only; rw [if_neg (by omega), no (by rw [he]; simp)]
    | some w =>
      dsimp only; rw [if_pos rfl]
      by_cases hw : w = v
      · subst hw; rw [if_pos rfl, (enc_iff _ _ w hv).1 he]; dsimp only; rw [if_pos ⟨rfl, Int.le_refl _⟩]
      · rw [if_neg hw, no (by rw [he]; simpa using hw)]
theorem dec_kind {v k n : Int} (h : dec v = some (k, n)) : (k = 0 ∨ k = 1 ∨ k = 2 ∨ k = 3) ∧ (0 ≤ v → 0 ≤ n) := by
  unfold dec at h
  split at h
  · split at h <;> cases h
    exact ⟨.inl rfl, fun _ => by omega⟩
  · split at h
    · cases h; exact ⟨.inr (.inl rfl), fun _ => by omega⟩
    · split at h
      · cases h; exact ⟨.inr (.inr (.inl rfl)), fun _ => by omega⟩
      · split at h <;> cases h
        exact ⟨.inr (.inr (.inr rfl)), fun _ => by omega⟩
theorem rWhat_l0 {v : Int} (hv : 0 ≤ v ∧ v < 4294967296) : ∀ (d i n : Nat), 4 - i = d → i ≤ 4 → d < n →
    halterref26_What.l0 v n i = some (match dec v with | some p => if (i : Int) ≤ p.1 then .inr p else .inl () | none => .inl ()) := by
  intro d
  induction d with
  | zero =>
    intro i n hd hi hn
    obtain ⟨n, rfl⟩ := fz hn
    rw [halterref26_What.l0, if_neg (by omega)]
    cases hdv : dec v with
    | none => rfl
    | some p =>
      obtain ⟨k, m⟩ := p
      have := (dec_kind hdv).1
      dsimp only; rw [if_neg (by omega)]
  | succ d ih =>
    intro i n hd hi hn
    obtain ⟨n, rfl⟩ := fz hn
    have h1 := rWhat_l1 hv i 256 0 FUEL rfl (by omega) (fg (by omega))
    rw [show ((0 : Nat) : Int) = 0 from rfl] at h1
    rw [halterref26_What.l0, if_pos (by omega), h1, bg, wsucc (by omega), ih (i + 1) n (by omega) (by omega) (by omega)]
    cases hdv : dec v with
    | none => rfl
    | some p =>
      obtain ⟨k, m⟩ := p
      have h2 := dec_kind hdv
      dsimp only
      by_cases hk : k = (i : Int)
      · subst hk; rw [if_pos ⟨rfl, h2.2 hv.1⟩]; dsimp only; rw [if_pos (Int.le_refl _)]
      · rw [if_neg (fun h => hk h.1)]; dsimp only
        by_cases hc : ((i + 1 : Nat) : Int) ≤ k
        · rw [if_pos hc, if_pos (by omega)]
        · rw [if_neg hc, if_neg (by omega)]
theorem rWhat_eq {v : Int} (hv : 0 ≤ v ∧ v < 4294967296) : halterref26_What.f v = some ((what v).1, (what v).2.1, (what v).2.2.getD 0) := by
  unfold halterref26_What.f
  have := rWhat_l0 hv 4 0 FUEL rfl (by omega) (fg (by omega))
  rw [show ((0 : Nat) : Int) = 0 from rfl] at this
  rw [this, bg]; unfold what
  cases hdv : dec v with
  | none => rfl
  | some p =>
    obtain ⟨k, m⟩ := p
    have := (dec_kind hdv).1
    dsimp only; rw [if_pos (by omega)]; rfl

namespace F27
theorem What_eq {v : Int} (hv : 0 ≤ v ∧ v < 4294967296) : status_What.f v = some (what v) := st_What_eq hv
def rep (v : Int) : Bool := decide ((what v).2.2 = none ∧ ((what v).1 = 2 ∨ (what v).1 = 3))
theorem report_eq {v : Int} (hv : 0 ≤ v ∧ v < 4294967296) : trace_report.f v = some (rep v) := by
  unfold trace_report.f rep; rw [What_eq hv, bg]
  generalize what v = p
  obtain ⟨k, n, e⟩ := p
  dsimp only
  cases e with
  | some c => rw [if_neg (by simp)]; simp
  | none =>
    rw [if_pos rfl]
    by_cases h2 : k = 2
    · rw [if_pos h2]; simp [h2]
    · rw [if_neg h2]; congr 1; simp [h2]; exact Bool.eq_iff_iff.2 (by simp)
theorem pids_eq (n : Int) : pids_Check.f n = some (if 1 ≤ n ∧ n ≤ 99 then none else some 22) := by
  unfold pids_Check.f
  by_cases h : n < 1
  · rw [if_pos h, if_neg (by omega)]
  · rw [if_neg h]
    by_cases h2 : n > 99
    · rw [if_pos h2, if_neg (by omega)]
    · rw [if_neg h2, if_pos (by omega)]
theorem mode_eq (n : Int) : trace_mode.f n = some (decide (0 ≤ n ∧ n ≤ 2)) := by
  unfold trace_mode.f
  by_cases h : n ≥ 0
  · rw [if_pos h]; congr 1; exact decide_eq_decide.2 ⟨fun h2 => ⟨h, h2⟩, fun h2 => h2.2⟩
  · rw [if_neg h]; congr 1; simp; omega
theorem tsignal_eq (n : Int) : trace_signal.f n = some (decide (0 ≤ n ∧ n ≤ 31)) := by
  unfold trace_signal.f
  by_cases h : n ≥ 0
  · rw [if_pos h]; congr 1; exact decide_eq_decide.2 ⟨fun h2 => ⟨h, h2⟩, fun h2 => h2.2⟩
  · rw [if_neg h]; congr 1; simp; omega
def May (t : Int) (st : Bool) (r m i : Int) (en : Bool) : Prop :=
  if t = 0 then st = false ∧ r = 0 ∧ m = 0 ∧ i = 0 ∧ en = false
  else 1 ≤ t ∧ t ≤ 99 ∧ 0 ≤ m ∧ m ≤ 2 ∧ 0 ≤ i ∧ i ≤ 31 ∧ (r = 0 ∨ st = true ∧ rep r = true) ∧ (en = true → m = 2)
instance (t : Int) (st : Bool) (r m i : Int) (en : Bool) : Decidable (May t st r m i en) := by unfold May; infer_instance
theorem Check_eq {t : Int} {st : Bool} {r m i : Int} {en : Bool} (hr : 0 ≤ r ∧ r < 4294967296) : trace_Check.f t st r m i en = some (if May t st r m i en then none else some 22) := by
  unfold trace_Check.f; rw [pids_eq, mode_eq, tsignal_eq, report_eq hr]; simp only [bg]
  by_cases h0 : t = 0
  · rw [if_pos h0]
    by_cases h1 : st = false ∧ r = 0 ∧ m = 0 ∧ i = 0 ∧ en = false
    · rw [if_neg (by simp [h0, h1]), if_pos (by unfold May; rw [if_pos h0]; exact h1)]
    · rw [if_pos (fun h => h1 h.2), if_neg (by unfold May; rw [if_pos h0]; exact h1)]
  · rw [if_neg h0]
    by_cases hp : 1 ≤ t ∧ t ≤ 99
    · rw [if_pos hp, if_pos rfl]
      by_cases hm : 0 ≤ m ∧ m ≤ 2
      · rw [if_pos (by simpa using hm)]
        by_cases hi : 0 ≤ i ∧ i ≤ 31
        · rw [if_neg (by simpa using hi)]
          have hM : May t st r m i en ↔ (r = 0 ∨ st = true ∧ rep r = true) ∧ (en = true → m = 2) := by
            unfold May; rw [if_neg h0]; exact ⟨fun h => h.2.2.2.2.2.2, fun h => ⟨hp.1, hp.2, hm.1, hm.2, hi.1, hi.2, h⟩⟩
          by_cases hr0 : r = 0
          · rw [if_neg (by simpa using hr0)]
            cases en with
            | false => rw [if_neg (by simp), if_pos (hM.2 ⟨.inl hr0, by simp⟩)]
            | true =>
              by_cases h2 : m = 2
              · rw [if_pos rfl, if_neg (by simpa using h2), if_pos (hM.2 ⟨.inl hr0, fun _ => h2⟩)]
              · rw [if_pos rfl, if_pos h2, if_neg (fun h => h2 ((hM.1 h).2 rfl))]
          · rw [if_pos hr0]
            cases st with
            | false => rw [if_pos (by simp), if_neg (fun h => by have := (hM.1 h).1; simp [hr0] at this)]
            | true =>
              rw [if_neg (by simp)]
              cases hre : rep r with
              | false => rw [if_pos (by simp), if_neg (fun h => by have := (hM.1 h).1; simp [hr0, hre] at this)]
              | true =>
                rw [if_neg (by simp)]
                cases en with
                | false => rw [if_neg (by simp), if_pos (hM.2 ⟨.inr ⟨rfl, hre⟩, by simp⟩)]
                | true =>
                  by_cases h2 : m = 2
                  · rw [if_pos rfl, if_neg (by simpa using h2), if_pos (hM.2 ⟨.inr ⟨rfl, hre⟩, fun _ => h2⟩)]
                  · rw [if_pos rfl, if_pos h2, if_neg (fun h => h2 ((hM.1 h).2 rfl))]
        · rw [if_pos (by simp; omega), if_neg (fun h => by unfold May at h; rw [if_neg h0] at h; omega)]
      · rw [if_neg (by simp; omega), if_neg (fun h => by unfold May at h; rw [if_neg h0] at h; omega)]
    · rw [if_neg hp, if_neg (by simp), if_neg (fun h => by unfold May at h; rw [if_neg h0] at h; omega)]
theorem rReports_eq {v : Int} (hv : 0 ≤ v ∧ v < 4294967296) : halterref27_Reports.f v = some (rep v) := by
  unfold halterref27_Reports.f rep; rw [rWhat_eq hv, bg]; unfold what
  cases hd : dec v with
  | none => rfl
  | some p =>
    obtain ⟨k, m⟩ := p
    have := (dec_kind hd).1
    dsimp only; rw [if_pos (by simp)]; congr 1
    exact decide_eq_decide.2 ⟨fun h => ⟨rfl, by omega⟩, fun h => by omega⟩
theorem rMay_eq {t : Int} {st : Bool} {r m i : Int} {en : Bool} (hr : 0 ≤ r ∧ r < 4294967296) : halterref27_May.f t st r m i en = some (decide (May t st r m i en)) := by
  unfold halterref27_May.f; rw [rReports_eq hr]; simp only [bg]
  by_cases h0 : t = 0
  · rw [if_pos h0]
    have hM : May t st r m i en ↔ st = false ∧ r = 0 ∧ m = 0 ∧ i = 0 ∧ en = false := by unfold May; rw [if_pos h0]
    by_cases h1 : ¬ st = true
    · rw [if_pos h1]
      by_cases h2 : r = 0
      · rw [if_pos h2]
        by_cases h3 : m = 0
        · rw [if_pos h3]
          by_cases h4 : i = 0
          · rw [if_pos h4]; congr 1
            cases en with
            | true => simp [hM]
            | false => rw [dt (hM.2 ⟨by simpa using h1, h2, h3, h4, rfl⟩)]; rfl
          · rw [if_neg h4]; congr 1; simp [hM, h4]
        · rw [if_neg h3]; congr 1; simp [hM, h3]
      · rw [if_neg h2]; congr 1; simp [hM, h2]
    · rw [if_neg h1]; congr 1; simp [hM]; intro h; exact absurd h (by simpa using h1)
  · rw [if_neg h0]
    have hM : May t st r m i en ↔ 1 ≤ t ∧ t ≤ 99 ∧ 0 ≤ m ∧ m ≤ 2 ∧ 0 ≤ i ∧ i ≤ 31 ∧ (r = 0 ∨ st = true ∧ rep r = true) ∧ (en = true → m = 2) := by unfold May; rw [if_neg h0]
    have no : ¬ (1 ≤ t ∧ t ≤ 99 ∧ 0 ≤ m ∧ m ≤ 2 ∧ 0 ≤ i ∧ i ≤ 31) → some false = some (decide (May t st r m i en)) := fun h => by
      congr 1; symm; rw [decide_eq_false_iff_not, hM]; intro hh; exact h ⟨hh.1, hh.2.1, hh.2.2.1, hh.2.2.2.1, hh.2.2.2.2.1, hh.2.2.2.2.2.1⟩
    by_cases c1 : t < 1
    · rw [if_pos c1]; exact no (by omega)
    rw [if_neg c1]
    by_cases c2 : t > 99
    · rw [if_pos c2]; exact no (by omega)
    rw [if_neg c2]
    by_cases c3 : m < 0
    · rw [if_pos c3]; exact no (by omega)
    rw [if_neg c3]
    by_cases c4 : m > 2
    · rw [if_pos c4]; exact no (by omega)
    rw [if_neg c4]
    by_cases c5 : i < 0
    · rw [if_pos c5]; exact no (by omega)
    rw [if_neg c5]
    by_cases c6 : i > 31
    · rw [if_pos c6]; exact no (by omega)
    rw [if_neg c6]
    have hM2 : May t st r m i en ↔ (r = 0 ∨ st = true ∧ rep r = true) ∧ (en = true → m = 2) :=
      hM.trans ⟨fun h => h.2.2.2.2.2.2, fun h => ⟨by omega, by omega, by omega, by omega, by omega, by omega, h⟩⟩
    have last : (r = 0 ∨ st = true ∧ rep r = true) → (if ¬ en = true then some true else some (m == 2)) = some (decide (May t st r m i en)) := fun h => by
      cases en with
      | false => rw [if_pos (by simp)]; congr 1; symm; rw [decide_eq_true_eq, hM2]; exact ⟨h, by simp⟩
      | true => rw [if_neg (by simp)]; congr 1; rw [Bool.eq_iff_iff, beq_iff_eq, decide_eq_true_eq, hM2]; exact ⟨fun h2 => ⟨h, fun _ => h2⟩, fun h2 => h2.2 rfl⟩
    by_cases hr0 : r = 0
    · rw [if_neg (by simpa using hr0)]; exact last (.inl hr0)
    · rw [if_pos hr0]
      cases st with
      | false => rw [if_pos (by simp)]; congr 1; symm; rw [decide_eq_false_iff_not, hM2]; simp [hr0]
      | true =>
        rw [if_neg (by simp)]
        cases hre : rep r with
        | false => rw [if_pos (by simp)]; congr 1; symm; rw [decide_eq_false_iff_not, hM2]; simp [hr0, hre]
        | true => rw [if_neg (by simp)]; exact last (.inr ⟨rfl, hre⟩)
end F27

namespace F20
def ok1 (z : Int) : Bool := decide (0 ≤ z) && decide (z ≤ 32)
def may (s : List Int) : Bool := s.all ok1
theorem Check_loop (s : List Int) (hs : s.length = 8) : ∀ (d i n : Nat), 8 - i = d → i ≤ 8 → d < n →
    fds_Check.l0 s n i = some (if may (s.drop i) then .inl () else .inr ()) := by
  intro d
  induction d with
  | zero =>
    intro i n hd hi hn
    obtain ⟨n, rfl⟩ := fz hn
    rw [fds_Check.l0, if_neg (by omega), List.drop_eq_nil_of_le (by omega)]; rfl
  | succ d ih =>
    intro i n hd hi hn
    obtain ⟨n, rfl⟩ := fz hn
    rw [fds_Check.l0, if_pos (by omega), if_pos (by omega), tn, wsucc (by omega), ih (i + 1) n (by omega) (by omega) (by omega), dg s i 0 (by omega)]
    generalize s.getD i 0 = z
    unfold may; rw [List.all_cons]
    by_cases h1 : z < 0
    · rw [if_pos h1, show ok1 z = false by simp [ok1]; omega]; rfl
    · rw [if_neg h1]
      by_cases h2 : z > 32
      · rw [if_pos h2, show ok1 z = false by simp [ok1]; omega]; rfl
      · rw [if_neg h2, show ok1 z = true by simp [ok1]; omega]; rfl
theorem Check_eq {s : List Int} (hs : s.length = 8) : fds_Check.f s = some (if may s then none else some 22) := by
  unfold fds_Check.f
  have := Check_loop s hs 8 0 FUEL rfl (by omega) (fg (by omega))
  rw [show ((0 : Nat) : Int) = 0 from rfl] at this
  rw [this, bg, List.drop_zero]
  cases may s <;> rfl
theorem May_loop (s : List Int) (hs : s.length = 8) : ∀ (d i n : Nat), 8 - i = d → i ≤ 8 → d < n →
    halterref20_May.l0 s n i = some (if may (s.drop i) then .inl () else .inr ()) := by
  intro d
  induction d with
  | zero =>
    intro i n hd hi hn
    obtain ⟨n, rfl⟩ := fz hn
    rw [halterref20_May.l0, if_neg (by omega), List.drop_eq_nil_of_le (by omega)]; rfl
  | succ d ih =>
    intro i n hd hi hn
    obtain ⟨n, rfl⟩ := fz hn
    rw [halterref20_May.l0, if_pos (by omega), if_pos (by omega), tn, if_pos (by omega), wsucc (by omega), ih (i + 1) n (by omega) (by omega) (by omega), dg s i 0 (by omega)]
    generalize s.getD i 0 = z
    unfold may; rw [List.all_cons]
    by_cases h1 : z < 0
    · rw [if_pos h1, show ok1 z = false by simp [ok1]; omega]; rfl
    · rw [if_neg h1, if_pos (by omega), if_pos (by omega)]
      by_cases h2 : z > 32
      · rw [if_pos h2, show ok1 z = false by simp [ok1]; omega]; rfl
      · rw [if_neg h2, show ok1 z = true by simp [ok1]; omega]; rfl
theorem May_eq {s : List Int} (hs : s.length = 8) : halterref20_May.f s = some (may s) := by
  unfold halterref20_May.f
  have := May_loop s hs 8 0 FUEL rfl (by omega) (fg (by omega))
  rw [show ((0 : Nat) : Int) = 0 from rfl] at this
  rw [this, bg, List.drop_zero]
  cases may s <;> rfl
end F20

def pathB (s : ByteArray) : Bool := decide (path_Check.f s = some none)
theorem pathB_eq (s : ByteArray) : ∃ e r, path_Check.f s = some e ∧ halterref16_Check.f s = some r ∧ (e = none ↔ pathB s = true) ∧ (r = 0 ↔ pathB s = true) := by
  obtain ⟨e, r, h1, h2, h3⟩ := path_both s
  have : e = none ↔ pathB s = true := by
    unfold pathB; rw [h1]; simp
  exact ⟨e, r, h1, h2, this, h3.symm.trans this⟩
def PC (a0 a1 : Int) (a2 : ByteArray) (a5 : Int) (a7 : List Int) (p b : Nat) (a10 : List Int) (a11 : Int) (a12 : Bool) (a13 a14 a15 : Int) (a16 a17 a18 : Bool) (a19 a20 : Int) : Bool :=
  decide (1 ≤ a0 ∧ a0 ≤ 99) && (decide (0 ≤ a1 ∧ a1 ≤ 65535) && (pathB a2 && (decide (a5 < 32) && (F20.may a7 && (decide (may p b a10) && (decide (F27.May a11 a12 a13 a14 a15 a16) && (decide (0 ≤ a19 ∧ a19 < 30) && (decide (0 ≤ a20 ∧ a20 ≤ 4080) && (a17 || !a18)))))))))
theorem pids_eq (n : Int) : pids_Check.f n = some (if 1 ≤ n ∧ n ≤ 99 then none else some 22) := F27.pids_eq n
theorem cred_eq (n : Int) : cred_Check.f n = some (if 0 ≤ n ∧ n ≤ 65535 then none else some 22) := by
  unfold cred_Check.f
  by_cases h : n < 0
  · rw [if_pos h, if_neg (by omega)]
  rw [if_neg h]
  by_cases h2 : n > 65535
  · rw [if_pos h2, if_neg (by omega)]
  · rw [if_neg h2, if_pos (by omega)]
theorem regs_eq (a b c : _) (d : List Int) : regs_Check.f a b c d = some (if c < 32 then none else some 22) := by
  unfold regs_Check.f
  by_cases h : c ≥ 32
  · rw [if_pos h, if_neg (by omega)]
  · rw [if_neg h, if_pos (by omega)]
theorem PCheck (a0 a1 : Int) (a2 : ByteArray) (a3 : List Int) (a4 a5 : Int) (a6 : List Int) {a7 : List Int} (h7 : a7.length = 8) (p : Nat) {b : Nat} (hb : b < 4294967296) (a10 : List Int) (a11 : Int) (a12 : Bool) {a13 : Int} (hv : 0 ≤ a13 ∧ a13 < 4294967296) (a14 a15 : Int) (a16 a17 a18 : Bool) (a19 a20 : Int) :
    proc_Check.f a0 a1 a2 a3 a4 a5 a6 a7 (p : Int) (b : Int) a10 a11 a12 a13 a14 a15 a16 a17 a18 a19 a20 = some (if PC a0 a1 a2 a5 a7 p b a10 a11 a12 a13 a14 a15 a16 a17 a18 a19 a20 then none else some 22) := by
  obtain ⟨e, r, q1, _, q3, _⟩ := pathB_eq a2
  have j0 : proc_Check.j0 a0 a1 a2 a3 a4 a5 a6 a7 (p : Int) (b : Int) a10 a11 a12 a13 a14 a15 a16 a17 a18 a19 a20 = some (decide (1 ≤ a0 ∧ a0 ≤ 99) && (decide (0 ≤ a1 ∧ a1 ≤ 65535) && pathB a2)) := by
    unfold proc_Check.j0; rw [pids_eq, bg]
    by_cases c1 : 1 ≤ a0 ∧ a0 ≤ 99
    · rw [if_pos c1, if_pos rfl, cred_eq, bg, dt c1]
      by_cases c2 : 0 ≤ a1 ∧ a1 ≤ 65535
      · rw [if_pos c2, if_pos rfl, q1, bg, dt c2]
        cases e with
        | none => rw [q3.1 rfl]; rfl
        | some z =>
          cases hp : pathB a2 with
          | true => have := q3.2 hp; cases this
          | false => rfl
      · rw [if_neg c2, if_neg (by simp), df c2]; rfl
    · rw [if_neg c1, if_neg (by simp), df c1]; rfl
  have j1 : ∀ t, proc_Check.j1 t a0 a1 a2 a3 a4 a5 a6 a7 (p : Int) (b : Int) a10 a11 a12 a13 a14 a15 a16 a17 a18 a19 a20 = some (decide (a5 < 32) && (F20.may a7 && (decide (may p b a10) && decide (F27.May a11 a12 a13 a14 a15 a16)))) := fun t => by
    unfold proc_Check.j1; rw [regs_eq, bg]
    by_cases c1 : a5 < 32
    · rw [if_pos c1, if_pos rfl, F20.Check_eq h7, bg, dt c1]
      cases c2 : F20.may a7
      · rfl
      · rw [if_pos rfl, if_pos rfl, Check_eq hb, bg]
        by_cases c3 : may p b a10
        · rw [if_pos c3, if_pos rfl, F27.Check_eq hv, bg, dt c3]
          by_cases c4 : F27.May a11 a12 a13 a14 a15 a16
          · rw [if_pos c4, dt c4]; rfl
          · rw [if_neg c4, df c4]; rfl
        · rw [if_neg c3, if_neg (by simp), df c3]; rfl
    · rw [if_neg c1, if_neg (by simp), df c1]; rfl
  have j2 : ∀ t u, proc_Check.j2 t u a0 a1 a2 a3 a4 a5 a6 a7 (p : Int) (b : Int) a10 a11 a12 a13 a14 a15 a16 a17 a18 a19 a20 = some (decide (0 ≤ a19 ∧ a19 < 30) && (decide (0 ≤ a20 ∧ a20 ≤ 4080) && (a17 || !a18))) := fun t u => by
    unfold proc_Check.j2
    by_cases c1 : a19 ≥ 0
    · by_cases c2 : a19 < 30
      · rw [if_pos c1, if_pos c2, dt (show 0 ≤ a19 ∧ a19 < 30 by omega)]
        by_cases c3 : a20 ≥ 0
        · by_cases c4 : a20 ≤ 4080
          · rw [if_pos c3, if_pos c4, dt (show 0 ≤ a20 ∧ a20 ≤ 4080 by omega)]
            cases a17 <;> rfl
          · rw [if_pos c3, if_neg c4, df (show ¬ (0 ≤ a20 ∧ a20 ≤ 4080) by omega)]; rfl
        · rw [if_neg c3, df (show ¬ (0 ≤ a20 ∧ a20 ≤ 4080) by omega)]; rfl
      · rw [if_pos c1, if_neg c2, df (show ¬ (0 ≤ a19 ∧ a19 < 30) by omega)]; rfl
    · rw [if_neg c1, df (show ¬ (0 ≤ a19 ∧ a19 < 30) by omega)]; rfl
  unfold proc_Check.f; rw [j0, bg, j1, bg, j2, bg]; unfold proc_Check.j3 PC
  cases decide (1 ≤ a0 ∧ a0 ≤ 99) <;> cases decide (0 ≤ a1 ∧ a1 ≤ 65535) <;> cases pathB a2 <;> first | rfl | skip
  cases decide (a5 < 32) <;> cases F20.may a7 <;> cases decide (may p b a10) <;> cases decide (F27.May a11 a12 a13 a14 a15 a16) <;> first | rfl | skip
  cases decide (0 ≤ a19 ∧ a19 < 30) <;> cases decide (0 ≤ a20 ∧ a20 ≤ 4080) <;> cases a17 <;> cases a18 <;> rfl
theorem RPMay (a0 a1 : Int) (a2 : ByteArray) (a3 : List Int) (a4 a5 : Int) (a6 : List Int) {a7 : List Int} (h7 : a7.length = 8) (p : Nat) {b : Nat} (hb : b < 4294967296) (a10 : List Int) (a11 : Int) (a12 : Bool) {a13 : Int} (hv : 0 ≤ a13 ∧ a13 < 4294967296) (a14 a15 : Int) (a16 a17 a18 : Bool) (a19 a20 : Int) :
    halterref33_May.f a0 a1 a2 a3 a4 a5 a6 a7 (p : Int) (b : Int) a10 a11 a12 a13 a14 a15 a16 a17 a18 a19 a20 = some (PC a0 a1 a2 a5 a7 p b a10 a11 a12 a13 a14 a15 a16 a17 a18 a19 a20) := by
  obtain ⟨e, r, _, q2, _, q4⟩ := pathB_eq a2
  unfold halterref33_May.f PC
  by_cases c1 : a0 < 1
  · rw [if_pos c1, df (show ¬ (1 ≤ a0 ∧ a0 ≤ 99) by omega)]; rfl
  by_cases c2 : a0 > 99
  · rw [if_neg c1, if_pos c2, df (show ¬ (1 ≤ a0 ∧ a0 ≤ 99) by omega)]; rfl
  rw [if_neg c1, if_neg c2, dt (show 1 ≤ a0 ∧ a0 ≤ 99 by omega)]
  have hI : halterref22_Is.f a1 = some (decide (0 ≤ a1 ∧ a1 ≤ 65535)) := by
    unfold halterref22_Is.f
    by_cases h : a1 ≥ 0
    · rw [if_pos h]; congr 1; exact decide_eq_decide.2 (by omega)
    · rw [if_neg h, df (show ¬ (0 ≤ a1 ∧ a1 ≤ 65535) by omega)]
  rw [hI, bg]
  cases decide (0 ≤ a1 ∧ a1 ≤ 65535) with
  | false => rfl
  | true =>
    rw [if_neg (by simp), q2, bg]
    by_cases c3 : r = 0
    · rw [if_neg (by simpa using c3), q4.1 c3]
      by_cases c4 : a5 > 31
      · rw [if_pos c4, df (show ¬ a5 < 32 by omega)]; rfl
      rw [if_neg c4, dt (show a5 < 32 by omega), F20.May_eq h7, bg]
      cases F20.may a7 with
      | false => rfl
      | true =>
        rw [if_neg (by simp), RMay_eq hb, bg]
        cases decide (may p b a10) with
        | false => rfl
        | true =>
          rw [if_neg (by simp), F27.rMay_eq hv, bg]
          cases decide (F27.May a11 a12 a13 a14 a15 a16) with
          | false => rfl
          | true =>
            rw [if_neg (by simp)]
            by_cases d1 : a19 ≥ 0
            · by_cases d2 : a19 ≤ 29
              · rw [if_pos d1, if_pos d2, dt (show 0 ≤ a19 ∧ a19 < 30 by omega)]
                by_cases d3 : a20 ≥ 0
                · by_cases d4 : a20 ≤ 4080
                  · rw [if_pos d3, if_pos d4, dt (show 0 ≤ a20 ∧ a20 ≤ 4080 by omega)]
                    cases a17 <;> rfl
                  · rw [if_pos d3, if_neg d4, df (show ¬ (0 ≤ a20 ∧ a20 ≤ 4080) by omega)]; rfl
                · rw [if_neg d3, df (show ¬ (0 ≤ a20 ∧ a20 ≤ 4080) by omega)]; rfl
              · rw [if_pos d1, if_neg d2, df (show ¬ (0 ≤ a19 ∧ a19 < 30) by omega)]; rfl
            · rw [if_neg d1, df (show ¬ (0 ≤ a19 ∧ a19 < 30) by omega)]; rfl
    · rw [if_pos c3]
      cases hp : pathB a2 with
      | true => exact absurd (q4.2 hp) c3
      | false => rfl

theorem Post_code {p b : Nat} (hb : b < 4294967296) (acts : List Int) (n : Int) {x y : Int} {z : List Int} {v : Int} (h : sig_Post.f (p : Int) (b : Int) acts n = some (x, y, z, some v)) (h0 : v = 0) : False := by
  by_cases hn : 1 ≤ n ∧ n ≤ 31
  · obtain ⟨k, hk, rfl⟩ : ∃ k : Nat, k < 31 ∧ n = ((k + 1 : Nat) : Int) := ⟨(n - 1).toNat, by omega, by omega⟩
    rw [Post_eq hb acts hk] at h
    by_cases hm : may p b acts
    · rw [if_pos hm] at h; simp at h
    · rw [if_neg hm] at h; simp at h; omega
  · rw [(outN hn p b hb acts).1] at h; simp at h
    omega
theorem exec_zl (p b : Int) (acts : List Int) : ∀ (d i n : Nat) (x y : List Int), i + d = 32 → d < n → (∀ j, acts.getD j 0 = 0 → x.getD j 0 = 0) → sig_Exec.l0 p b acts n x (i : Int) = some y → ∀ j, acts.getD j 0 = 0 → y.getD j 0 = 0 := by
  intro d
  induction d with
  | zero =>
    intro i n x y hi hn hx h
    obtain ⟨n, rfl⟩ := fz hn
    unfold sig_Exec.l0 at h; rw [if_neg (by omega)] at h
    cases h
    exact hx
  | succ d ih =>
    intro i n x y hi hn hx h
    obtain ⟨n, rfl⟩ := fz hn
    unfold sig_Exec.l0 at h; rw [if_pos (by omega), if_pos (by omega), wsucc (by omega), tn] at h
    by_cases c : acts.getD i 0 > 1
    · rw [if_pos c, if_pos (by omega), if_pos (by omega)] at h; refine ih (i + 1) n _ y (by omega) (by omega) (fun j hj => ?_) h
      by_cases e : j = i
      · subst e; rw [List.getD_eq_getElem?_getD, List.getElem?_set, if_pos rfl]
        split <;> rfl
      · rw [getD_set e]; exact hx j hj
    · rw [if_neg c] at h; exact ih (i + 1) n x y (by omega) (by omega) hx h
theorem exec_zero (p b : Int) (acts : List Int) {y : List Int} (h : sig_Exec.f p b acts = some (p, b, y)) : ∀ j, acts.getD j 0 = 0 → y.getD j 0 = 0 := by
  unfold sig_Exec.f at h
  cases hl : sig_Exec.l0 p b acts FUEL acts (0 : Int) with
  | none => rw [hl] at h; cases h
  | some z =>
    rw [hl, bg] at h
    have hz : z = y := by simpa using h
    subst hz; exact exec_zl p b acts 32 0 FUEL acts z rfl (fg (by omega)) (fun j hj => hj) hl
theorem PC_exec {a0 a1 : Int} {a2 : ByteArray} {a5 : Int} {a7 : List Int} {p b : Nat} {a10 : List Int} {a11 : Int} {a12 : Bool} {a13 a14 a15 : Int} {a16 a17 a18 : Bool} {a19 a20 : Int} (h : PC a0 a1 a2 a5 a7 p b a10 a11 a12 a13 a14 a15 a16 a17 a18 a19 a20 = true) {y : List Int} (hz : ∀ j, a10.getD j 0 = 0 → y.getD j 0 = 0) {s : ByteArray} {k : Int} :
    PC a0 a1 s 0 a7 p b y a11 a12 a13 a14 a15 a16 a17 a18 0 k = (pathB s && decide (0 ≤ k ∧ k ≤ 4080)) := by
  unfold PC at h ⊢
  simp only [Bool.and_eq_true] at h
  obtain ⟨h1, h2, _, _, h5, h6, h7, _, _, h10⟩ := h
  have hm := of_decide_eq_true h6
  have hm2 : may p b y := by
    unfold may at hm ⊢
    exact ⟨hm.1, hm.2.1, hz _ hm.2.2.1, hz _ hm.2.2.2.1, hz _ hm.2.2.2.2.1, hm.2.2.2.2.2⟩
  rw [h1, h2, h5, h7, h10, dt hm2]; simp
theorem PC_first (a0 : Int) (s : ByteArray) : PC a0 0 s 0 (List.replicate 8 (0 : Int)) 0 0 (List.replicate 32 (0 : Int)) 0 false 0 0 0 false false false 0 0 = (decide (1 ≤ a0 ∧ a0 ≤ 99) && pathB s) := by
  unfold PC
  have h1 : F20.may (List.replicate 8 (0 : Int)) = true := by decide +kernel
  have h2 : decide (may 0 0 (List.replicate 32 (0 : Int))) = true := by decide +kernel
  have h3 : decide (F27.May 0 false 0 0 0 false) = true := dt (by unfold F27.May; rw [if_pos rfl]; exact ⟨rfl, rfl, rfl, rfl, rfl⟩)
  rw [h1, h2, h3]; simp

theorem Child_both (a0 a1 : Int) (a2 : ByteArray) (a3 : List Int) (a4 a5 : Int) (a6 : List Int) {a7 : List Int} (h7 : a7.length = 8) (p : Nat) {b : Nat} (hb : b < 4294967296) (a10 : List Int) (a11 : Int) (a12 : Bool) {a13 : Int} (hv : 0 ≤ a13 ∧ a13 < 4294967296) (a14 a15 : Int) (a16 a17 a18 : Bool) (a19 a20 : Int) (n : Int) : ∃ x0 x1 x2 x3 x4 x5 x6 x7 x8 x9 x10 x11 x12 x13 x14 x15 x16 x17 x18 x19 x20, ∃ e : Option Int, proc_Child.f a0 a1 a2 a3 a4 a5 a6 a7 (p : Int) (b : Int) a10 a11 a12 a13 a14 a15 a16 a17 a18 a19 a20 n = some (x0, x1, x2, x3, x4, x5, x6, x7, x8, x9, x10, x11, x12, x13, x14, x15, x16, x17, x18, x19, x20, e) ∧ halterref33_Child.f a0 a1 a2 a3 a4 a5 a6 a7 (p : Int) (b : Int) a10 a11 a12 a13 a14 a15 a16 a17 a18 a19 a20 n = some (x0, x1, x2, x3, x4, x5, x6, x7, x8, x9, x10, x11, x12, x13, x14, x15, x16, x17, x18, x19, x20, e.getD 0) := by
  unfold proc_Child.f halterref33_Child.f; rw [PCheck a0 a1 a2 a3 a4 a5 a6 h7 p hb a10 a11 a12 hv a14 a15 a16 a17 a18 a19 a20, RPMay a0 a1 a2 a3 a4 a5 a6 h7 p hb a10 a11 a12 hv a14 a15 a16 a17 a18 a19 a20, bg, bg]
  cases PC a0 a1 a2 a5 a7 p b a10 a11 a12 a13 a14 a15 a16 a17 a18 a19 a20 with
  | false => exact ⟨_, _, _, _, _, _, _, _, _, _, _, _, _, _, _, _, _, _, _, _, _, _, rfl, rfl⟩
  | true =>
    rw [if_pos rfl, if_neg (by simp), if_neg (by simp), pids_eq, bg]
    by_cases h : 1 ≤ n ∧ n ≤ 99
    · rw [if_pos h, if_neg (by simp), if_neg (by omega), if_neg (by omega)]; exact ⟨_, _, _, _, _, _, _, _, _, _, _, _, _, _, _, _, _, _, _, _, _, _, rfl, rfl⟩
    · rw [if_neg h, if_pos (by simp)]
      by_cases h1 : n < 1
      · rw [if_pos h1]; exact ⟨_, _, _, _, _, _, _, _, _, _, _, _, _, _, _, _, _, _, _, _, _, _, rfl, rfl⟩
      · rw [if_neg h1, if_pos (by omega)]; exact ⟨_, _, _, _, _, _, _, _, _, _, _, _, _, _, _, _, _, _, _, _, _, _, rfl, rfl⟩
theorem Post_both2 (a0 a1 : Int) (a2 : ByteArray) (a3 : List Int) (a4 a5 : Int) (a6 : List Int) {a7 : List Int} (h7 : a7.length = 8) (p : Nat) {b : Nat} (hb : b < 4294967296) (a10 : List Int) (a11 : Int) (a12 : Bool) {a13 : Int} (hv : 0 ≤ a13 ∧ a13 < 4294967296) (a14 a15 : Int) (a16 a17 a18 : Bool) (a19 a20 : Int) (hnn : ∀ j, 0 ≤ a10.getD j 0) (n : Int) : ∃ x0 x1 x2 x3 x4 x5 x6 x7 x8 x9 x10 x11 x12 x13 x14 x15 x16 x17 x18 x19 x20, ∃ e : Option Int, proc_Post.f a0 a1 a2 a3 a4 a5 a6 a7 (p : Int) (b : Int) a10 a11 a12 a13 a14 a15 a16 a17 a18 a19 a20 n = some (x0, x1, x2, x3, x4, x5, x6, x7, x8, x9, x10, x11, x12, x13, x14, x15, x16, x17, x18, x19, x20, e) ∧ halterref33_Post.f a0 a1 a2 a3 a4 a5 a6 a7 (p : Int) (b : Int) a10 a11 a12 a13 a14 a15 a16 a17 a18 a19 a20 n = some (x0, x1, x2, x3, x4, x5, x6, x7, x8, x9, x10, x11, x12, x13, x14, x15, x16, x17, x18, x19, x20, e.getD 0) := by
  unfold proc_Post.f halterref33_Post.f; rw [PCheck a0 a1 a2 a3 a4 a5 a6 h7 p hb a10 a11 a12 hv a14 a15 a16 a17 a18 a19 a20, RPMay a0 a1 a2 a3 a4 a5 a6 h7 p hb a10 a11 a12 hv a14 a15 a16 a17 a18 a19 a20, bg, bg]
  cases PC a0 a1 a2 a5 a7 p b a10 a11 a12 a13 a14 a15 a16 a17 a18 a19 a20 with
  | false => exact ⟨_, _, _, _, _, _, _, _, _, _, _, _, _, _, _, _, _, _, _, _, _, _, rfl, rfl⟩
  | true =>
    obtain ⟨x, y, z, e, q1, q2⟩ := Post_both hb a10 hnn n (p := p)
    rw [if_pos rfl, if_neg (by simp), if_neg (by simp), q1, q2, bg, bg]
    cases e with
    | none =>
      rw [if_neg (show ¬ ¬ ((none : Option Int) = none) by simp), if_neg (show ¬ ¬ ((none : Option Int).getD 0 = 0) by simp)]
      by_cases h18 : n = 18
      · rw [if_pos h18, if_pos h18]; exact ⟨_, _, _, _, _, _, _, _, _, _, _, _, _, _, _, _, _, _, _, _, _, _, rfl, rfl⟩
      rw [if_neg h18, if_neg h18]
      by_cases h9 : n = 9
      · rw [if_pos h9, if_pos h9]; exact ⟨_, _, _, _, _, _, _, _, _, _, _, _, _, _, _, _, _, _, _, _, _, _, rfl, rfl⟩
      rw [if_neg h9, if_neg h9]; exact ⟨_, _, _, _, _, _, _, _, _, _, _, _, _, _, _, _, _, _, _, _, _, _, rfl, rfl⟩
    | some v =>
      rw [if_pos (show ¬ (some v = none) by simp)]
      by_cases hv0 : v = 0
      · exfalso
        exact Post_code hb a10 n q1 hv0
      · rw [if_pos (show ¬ ((some v).getD 0 = 0) from hv0)]; exact ⟨_, _, _, _, _, _, _, _, _, _, _, _, _, _, _, _, _, _, _, _, _, _, rfl, rfl⟩
theorem Exec_both2 (a0 a1 : Int) (a2 : ByteArray) (a3 : List Int) (a4 a5 : Int) (a6 : List Int) {a7 : List Int} (h7 : a7.length = 8) (p : Nat) {b : Nat} (hb : b < 4294967296) (a10 : List Int) (a11 : Int) (a12 : Bool) {a13 : Int} (hv : 0 ≤ a13 ∧ a13 < 4294967296) (a14 a15 : Int) (a16 a17 a18 : Bool) (a19 a20 : Int) (h10 : a10.length = 32) (s : ByteArray) (v k : Int) : ∃ x0 x1 x2 x3 x4 x5 x6 x7 x8 x9 x10 x11 x12 x13 x14 x15 x16 x17 x18 x19 x20, ∃ e : Option Int, proc_Exec.f a0 a1 a2 a3 a4 a5 a6 a7 (p : Int) (b : Int) a10 a11 a12 a13 a14 a15 a16 a17 a18 a19 a20 s v k = some (x0, x1, x2, x3, x4, x5, x6, x7, x8, x9, x10, x11, x12, x13, x14, x15, x16, x17, x18, x19, x20, e) ∧ halterref33_Exec.f a0 a1 a2 a3 a4 a5 a6 a7 (p : Int) (b : Int) a10 a11 a12 a13 a14 a15 a16 a17 a18 a19 a20 s v k = some (x0, x1, x2, x3, x4, x5, x6, x7, x8, x9, x10, x11, x12, x13, x14, x15, x16, x17, x18, x19, x20, e.getD 0) := by
  unfold proc_Exec.f halterref33_Exec.f; rw [PCheck a0 a1 a2 a3 a4 a5 a6 h7 p hb a10 a11 a12 hv a14 a15 a16 a17 a18 a19 a20, RPMay a0 a1 a2 a3 a4 a5 a6 h7 p hb a10 a11 a12 hv a14 a15 a16 a17 a18 a19 a20, bg, bg]
  cases hpc : PC a0 a1 a2 a5 a7 p b a10 a11 a12 a13 a14 a15 a16 a17 a18 a19 a20 with
  | false => exact ⟨_, _, _, _, _, _, _, _, _, _, _, _, _, _, _, _, _, _, _, _, _, _, rfl, rfl⟩
  | true =>
    obtain ⟨y, q1, q2⟩ := Exec_both (p : Int) (b : Int) a10 h10
    have hz := exec_zero (p : Int) (b : Int) a10 q1
    obtain ⟨e, r, _, c2, _, c4⟩ := pathB_eq s
    rw [if_pos rfl, if_neg (by simp), if_neg (by simp), q1, q2, c2]; unfold proc_begun.f halterref33_Begun.f; simp only [bg]; rw [PCheck a0 a1 s _ _ _ _ h7 p hb y a11 a12 hv a14 a15 a16 a17 a18 0 k, bg]
    have hN : PC a0 a1 s 0 a7 p b y a11 a12 a13 a14 a15 a16 a17 a18 0 k = (pathB s && decide (0 ≤ k ∧ k ≤ 4080)) := PC_exec hpc hz
    rw [hN]
    by_cases hr : r = 0
    · rw [c4.1 hr, if_neg (show ¬ ¬ r = 0 by simpa using hr)]
      by_cases hk : 0 ≤ k ∧ k ≤ 4080
      · rw [dt hk, if_neg (show ¬ ¬ ((if (true && true) = true then (none : Option Int) else some 22) = none) by simp), if_neg (show ¬ k < 0 by omega), if_neg (show ¬ k > 4080 by omega)]; exact ⟨_, _, _, _, _, _, _, _, _, _, _, _, _, _, _, _, _, _, _, _, _, _, rfl, rfl⟩
      · rw [df hk, if_pos (show ¬ ((if (true && false) = true then (none : Option Int) else some 22) = none) by simp)]
        by_cases h1 : k < 0
        · rw [if_pos h1]; exact ⟨_, _, _, _, _, _, _, _, _, _, _, _, _, _, _, _, _, _, _, _, _, _, rfl, rfl⟩
        · rw [if_neg h1, if_pos (by omega)]; exact ⟨_, _, _, _, _, _, _, _, _, _, _, _, _, _, _, _, _, _, _, _, _, _, rfl, rfl⟩
    · rw [if_pos (show ¬ r = 0 from hr)]
      have : pathB s = false := by
        cases hp : pathB s with
        | true => exact absurd (c4.2 hp) hr
        | false => rfl
      rw [this, if_pos (show ¬ ((if (false && decide (0 ≤ k ∧ k ≤ 4080)) = true then (none : Option Int) else some 22) = none) by simp)]; exact ⟨_, _, _, _, _, _, _, _, _, _, _, _, _, _, _, _, _, _, _, _, _, _, rfl, rfl⟩
theorem First_both (a0 : Int) (s : ByteArray) (v : Int) : ∃ x0 x1 x2 x3 x4 x5 x6 x7 x8 x9 x10 x11 x12 x13 x14 x15 x16 x17 x18 x19 x20, ∃ e : Option Int, proc_First.f a0 s v = some (x0, x1, x2, x3, x4, x5, x6, x7, x8, x9, x10, x11, x12, x13, x14, x15, x16, x17, x18, x19, x20, e) ∧ halterref33_First.f a0 s v = some (x0, x1, x2, x3, x4, x5, x6, x7, x8, x9, x10, x11, x12, x13, x14, x15, x16, x17, x18, x19, x20, e.getD 0) := by
  unfold proc_First.f halterref33_First.f proc_begun.f halterref33_Begun.f; simp only [bg]
  have hc := PCheck a0 0 s (List.set (List.replicate 16 (0 : Int)) 13 (1048576 : Int)) v 0 (List.replicate 4 (0 : Int)) (a7 := List.replicate 8 (0 : Int)) rfl 0 (b := 0) (by omega) (List.replicate 32 (0 : Int)) 0 false (a13 := 0) (by omega) 0 0 false false false 0 0
  have hc : proc_Check.f a0 0 s (List.set (List.replicate 16 (0 : Int)) 13 (1048576 : Int)) v 0 (List.replicate 4 (0 : Int)) (List.replicate 8 (0 : Int)) 0 0 (List.replicate 32 (0 : Int)) 0 false 0 0 0 false false false 0 0 = _ := hc
  rw [hc, bg, PC_first]
  obtain ⟨e, r, _, c2, _, c4⟩ := pathB_eq s
  rw [c2]
  by_cases h1 : a0 < 1
  · rw [if_pos h1, df (show ¬ (1 ≤ a0 ∧ a0 ≤ 99) by omega)]; exact ⟨_, _, _, _, _, _, _, _, _, _, _, _, _, _, _, _, _, _, _, _, _, _, rfl, rfl⟩
  by_cases h2 : a0 > 99
  · rw [if_neg h1, if_pos h2, df (show ¬ (1 ≤ a0 ∧ a0 ≤ 99) by omega)]; exact ⟨_, _, _, _, _, _, _, _, _, _, _, _, _, _, _, _, _, _, _, _, _, _, rfl, rfl⟩
  rw [if_neg h1, if_neg h2, dt (show 1 ≤ a0 ∧ a0 ≤ 99 by omega), bg]
  by_cases hr : r = 0
  · rw [c4.1 hr, if_neg (show ¬ ¬ r = 0 by simpa using hr)]; exact ⟨_, _, _, _, _, _, _, _, _, _, _, _, _, _, _, _, _, _, _, _, _, _, rfl, rfl⟩
  · have : pathB s = false := by
      cases hp : pathB s with
      | true => exact absurd (c4.2 hp) hr
      | false => rfl
    rw [this, if_pos hr]; exact ⟨_, _, _, _, _, _, _, _, _, _, _, _, _, _, _, _, _, _, _, _, _, _, rfl, rfl⟩

theorem sure_eq : halterlaw33_sure.f = some true := by kernel_rfl
theorem give_eq {a0 a1 : Int} {a2 : ByteArray} {a3 : List Int} {a4 a5 : Int} {a6 a7 : List Int} {a8 a9 : Int} {a10 : List Int} {a11 : Int} {a12 : Bool} {a13 a14 a15 : Int} {a16 a17 a18 : Bool} {a19 a20 : Int} : halterlaw33_giveProc.f a0 a1 a2 a3 a4 a5 a6 a7 a8 a9 a10 a11 a12 a13 a14 a15 a16 a17 a18 a19 a20 = some (a0, a1, a2, a3, a4, a5, a6, a7, a8, a9, a10, a11, a12, a13, a14, a15, a16, a17, a18, a19, a20) := rfl
theorem num_eq (e : Option Int) : num.f e = some (e.getD 0) := rfl
theorem Letter_both (a0 a1 : Int) (a2 : ByteArray) (a3 : List Int) (a4 a5 : Int) (a6 a7 : List Int) (a8 a9 : Int) (a10 : List Int) (a11 : Int) (a12 : Bool) (a13 a14 a15 : Int) (a16 a17 a18 : Bool) (a19 a20 : Int) (z : Bool) : ∃ v, proc_Letter.f a0 a1 a2 a3 a4 a5 a6 a7 a8 a9 a10 a11 a12 a13 a14 a15 a16 a17 a18 a19 a20 z = some v ∧ halterref33_Letter.f a0 a1 a2 a3 a4 a5 a6 a7 a8 a9 a10 a11 a12 a13 a14 a15 a16 a17 a18 a19 a20 z = some v ∧ (z = true → v = 90) := by
  unfold proc_Letter.f halterref33_Letter.f
  by_cases h : a19 = 0 <;> cases a12 <;> cases a17 <;> cases z <;> simp [h]
theorem Runs_eq (a0 a1 : Int) (a2 : ByteArray) (a3 : List Int) (a4 a5 : Int) (a6 a7 : List Int) (a8 a9 : Int) (a10 : List Int) (a11 : Int) (a12 : Bool) (a13 a14 a15 : Int) (a16 a17 a18 : Bool) (a19 a20 : Int) : proc_Runs.f a0 a1 a2 a3 a4 a5 a6 a7 a8 a9 a10 a11 a12 a13 a14 a15 a16 a17 a18 a19 a20 = some (!a12 && !a17) := by
  unfold proc_Runs.f
  cases a12 <;> cases a17 <;> rfl
theorem none_if (c : Bool) : Option.isNone (if c = true then (none : Option Int) else some 22) = c := by cases c <;> rfl
theorem ProcSteps (a0 : Int) (a1 : Int) (a2 : ByteArray) (a3 : (List Int)) (a4 : Int) (a5 : Int) (a6 : (List Int)) (a7 : (List Int)) (a8 : Int) (a9 : Int) (a10 : (List Int)) (a11 : Int) (a12 : Bool) (a13 : Int) (a14 : Int) (a15 : Int) (a16 : Bool) (a17 : Bool) (a18 : Bool) (a19 : Int) (a20 : Int) (a21 : (List Int)) (a22 : Int) (h0 : (Lit.int .i64 a0).wf = true) (h1 : (Lit.int .i64 a1).wf = true) (h2 : ByteArray.size a2 ≤ maxLen) (h3 : List.length a3 = 16) (h4 : ∀ z ∈ a3, (Lit.int .u32 z).wf = true) (h5 : (Lit.int .u32 a4).wf = true) (h6 : (Lit.int .u32 a5).wf = true) (h7 : List.length a6 = 4) (h8 : ∀ z ∈ a6, (Lit.int .u64 z).wf = true) (h9 : List.length a7 = 8) (h10 : ∀ z ∈ a7, (Lit.int .i64 z).wf = true) (h11 : (Lit.int .u32 a8).wf = true) (h12 : (Lit.int .u32 a9).wf = true) (h13 : List.length a10 = 32) (h14 : ∀ z ∈ a10, (Lit.int .u32 z).wf = true) (h15 : (Lit.int .i64 a11).wf = true) (h16 : (Lit.int .u32 a13).wf = true) (h17 : (Lit.int .i64 a14).wf = true) (h18 : (Lit.int .i64 a15).wf = true) (h19 : (Lit.int .i64 a19).wf = true) (h20 : (Lit.int .i64 a20).wf = true) (h21 : List.length a21 = 3) (h22 : ∀ z ∈ a21, (Lit.int .i64 z).wf = true) (h23 : (Lit.int .u32 a22).wf = true) : halterlaw33_ProcSteps.f a0 a1 a2 a3 a4 a5 a6 a7 a8 a9 a10 a11 a12 a13 a14 a15 a16 a17 a18 a19 a20 a21 a22 = some true := by
  have u8 := u32_bd h11
  have u9 := u32_bd h12
  have hv := u32_bd h16
  have hnn := nn_of h14
  obtain ⟨p, rfl⟩ : ∃ p : Nat, a8 = (p : Int) := ⟨a8.toNat, by omega⟩
  obtain ⟨b, rfl⟩ : ∃ b : Nat, a9 = (b : Int) := ⟨a9.toNat, by omega⟩
  have hb : b < 4294967296 := by omega
  unfold halterlaw33_ProcSteps.f
  by_cases h200 : ((ByteArray.size a2 : Nat) : Int) > 200
  · rw [if_pos h200, sure_eq]; rfl
  rw [if_neg h200, give_eq, bg]; dsimp only
  obtain ⟨_, _, _, _, _, _, _, _, _, _, _, _, _, _, _, _, _, _, _, _, _, _, c1, c2⟩ := Child_both a0 a1 a2 a3 a4 a5 a6 h9 p hb a10 a11 a12 hv a14 a15 a16 a17 a18 a19 a20 (a21.getD 0 0)
  obtain ⟨_, _, _, _, _, _, _, _, _, _, _, _, _, _, _, _, _, _, _, _, _, _, c3, c4⟩ := Exec_both2 a0 a1 a2 a3 a4 a5 a6 h9 p hb a10 a11 a12 hv a14 a15 a16 a17 a18 a19 a20 h13 (⟨#[115, 104]⟩ : ByteArray) a22 (a21.getD 1 0)
  obtain ⟨_, _, _, _, _, _, _, _, _, _, _, _, _, _, _, _, _, _, _, _, _, _, c5, c6⟩ := Post_both2 a0 a1 a2 a3 a4 a5 a6 h9 p hb a10 a11 a12 hv a14 a15 a16 a17 a18 a19 a20 hnn (a21.getD 2 0)
  obtain ⟨_, _, _, _, _, _, _, _, _, _, _, _, _, _, _, _, _, _, _, _, _, _, c7, c8⟩ := First_both (a21.getD 0 0) a2 a22
  obtain ⟨v1, l1, l2, _⟩ := Letter_both a0 a1 a2 a3 a4 a5 a6 a7 (p : Int) (b : Int) a10 a11 a12 a13 a14 a15 a16 a17 a18 a19 a20 false
  obtain ⟨v2, l3, _, l5⟩ := Letter_both a0 a1 a2 a3 a4 a5 a6 a7 (p : Int) (b : Int) a10 a11 a12 a13 a14 a15 a16 a17 a18 a19 a20 true
  have hC := PCheck a0 a1 a2 a3 a4 a5 a6 h9 p hb a10 a11 a12 hv a14 a15 a16 a17 a18 a19 a20
  have hM := RPMay a0 a1 a2 a3 a4 a5 a6 h9 p hb a10 a11 a12 hv a14 a15 a16 a17 a18 a19 a20
  rw [c1, bg, c2, bg, c3, bg, c4, bg, c5, bg, c6, bg, c7, bg, c8, bg]; simp only [give_eq, num_eq, Option.bind_some, and_self, if_true, proc_Answer.f, halterref33_Answer.f, l1, l2, l3, l5, Runs_eq, hC, hM, none_if, sure_eq]
  cases a12 <;> cases a17 <;> rfl

end Go.Proofs.YtbnlochgbhcfnaaGreatDoor.Pure
