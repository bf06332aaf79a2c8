/- The plain law: what the law computes is true, whatever it is handed. -/
import Derived.Test.YtbnlochgbhcfnaaDoorGProcLetters
import Derived.Test.YtbnlochgbhcfnaaDoorE16
import Derived.Laws.BitsAllLaws
set_option linter.unusedVariables false
set_option linter.unusedSimpArgs false
set_option linter.unnecessarySimpa false
namespace Go.Proofs.YtbnlochgbhcfnaaDoor.Pure
open Go Go.Proofs.YtbnlochgbhcfnaaDoorE Go.Proofs.YtbnlochgbhcfnaaDoorGProcLetters
theorem wu8 (x : Int) : IntKind.wrap .u8 x = x % 256 := by simp [IntKind.wrap, IntKind.bits, IntKind.signed]
theorem wu16 (x : Int) : IntKind.wrap .u16 x = x % 65536 := by simp [IntKind.wrap, IntKind.bits, IntKind.signed]
theorem wu32 (x : Int) : IntKind.wrap .u32 x = x % 4294967296 := by simp [IntKind.wrap, IntKind.bits, IntKind.signed]
theorem wu64 (x : Int) : IntKind.wrap .u64 x = x % 18446744073709551616 := by simp [IntKind.wrap, IntKind.bits, IntKind.signed]
theorem wi64 {x : Int} (h : -9223372036854775808 ≤ x) (h' : x ≤ 9223372036854775807) : IntKind.wrap .i64 x = x := by
  simp [IntKind.wrap, IntKind.bits, IntKind.signed]
  omega
theorem wu8_id {x : Int} (h : 0 ≤ x ∧ x < 256) : IntKind.wrap .u8 x = x := by rw [wu8]; omega
theorem wu32_id {x : Int} (h : 0 ≤ x ∧ x < 4294967296) : IntKind.wrap .u32 x = x := by rw [wu32]; omega
theorem wu64_id {x : Int} (h : 0 ≤ x ∧ x < 18446744073709551616) : IntKind.wrap .u64 x = x := by rw [wu64]; omega
theorem wsucc {i : Nat} (h : i < 9223372036854775807) : IntKind.wrap .i64 ((i : Int) + 1) = ((i + 1 : Nat) : Int) := by rw [wi64 (by omega) (by omega)]; omega
theorem u8_bd {a : Int} (h : (Lit.int .u8 a).wf = true) : 0 ≤ a ∧ a < 256 := by
  simpa [Lit.wf, IntKind.min, IntKind.max, IntKind.signed, IntKind.bits, ← Int.lt_add_one_iff] using h
theorem u32_bd {a : Int} (h : (Lit.int .u32 a).wf = true) : 0 ≤ a ∧ a < 4294967296 := by
  simpa [Lit.wf, IntKind.min, IntKind.max, IntKind.signed, IntKind.bits, ← Int.lt_add_one_iff] using h
theorem u64_bd {a : Int} (h : (Lit.int .u64 a).wf = true) : 0 ≤ a ∧ a < 18446744073709551616 := by
  simpa [Lit.wf, IntKind.min, IntKind.max, IntKind.signed, IntKind.bits, ← Int.lt_add_one_iff] using h
theorem i64_bd {a : Int} (h : (Lit.int .i64 a).wf = true) : -9223372036854775808 ≤ a ∧ a < 9223372036854775808 := by
  simpa [Lit.wf, IntKind.min, IntKind.max, IntKind.signed, IntKind.bits, ← Int.lt_add_one_iff] using h
theorem fuel_gt {n : Nat} (h : n < 18446744073709551616) : n < FUEL := h
theorem bind_go {α β : Type} (a : α) (f : α → Option β) : (some a).bind f = f a := by rw [Option.bind_some]
theorem drop_getD {α : Type} (l : List α) (i : Nat) (d : α) (h : i < l.length) : l.drop i = l.getD i d :: l.drop (i + 1) := by
  rw [List.drop_eq_getElem_cons h, List.getD_eq_getElem?_getD, List.getElem?_eq_getElem h, Option.getD_some]
theorem getD_mem {α : Type} (l : List α) (i : Nat) (d : α) (h : i < l.length) : l.getD i d ∈ l := by
  rw [List.getD_eq_getElem?_getD, List.getElem?_eq_getElem h, Option.getD_some]; exact List.getElem_mem _
theorem toNat_nat (i : Nat) : Int.toNat (i : Int) = i := rfl
/-- A number behind another one: a round of a loop. -/
theorem fuel_step {d n : Nat} (h : d < n) : ∃ m, n = m + 1 := ⟨n - 1, by omega⟩
/-- Where something stands first. -/
def first (v : Int) : List Int → Option Nat
  | [] => none
  | x :: xs => if x = v then some 0 else (first v xs).map (· + 1)
theorem first_none {v : Int} : ∀ {l : List Int}, first v l = none → ∀ z ∈ l, z ≠ v
  | [], _, z, hz => by cases hz
  | x :: xs, h, z, hz => by
    unfold first at h
    split at h
    · cases h
    · rename_i hx
      rcases List.mem_cons.1 hz with rfl | hz
      · exact hx
      · exact first_none (by simpa using h) z hz
theorem first_some {v : Int} : ∀ {l : List Int} {k : Nat}, first v l = some k → k < l.length ∧ l.getD k 0 = v ∧ ∀ j, j < k → l.getD j 0 ≠ v
  | [], _, h => by cases h
  | x :: xs, k, h => by
    unfold first at h
    split at h
    · cases h
      rename_i hx
      exact ⟨by simp, by simpa using hx, fun j hj => by omega⟩
    · rename_i hx
      cases hf : first v xs with
      | none => simp [hf] at h
      | some m =>
        simp [hf] at h
        subst h
        obtain ⟨h1, h2, h3⟩ := first_some hf
        refine ⟨by simp; omega, by simpa using h2, fun j hj => ?_⟩
        cases j with
        | zero => simpa using hx
        | succ j => simpa using h3 j (by omega)

theorem ofInt_i64 (a : Nat) (ha : a < 18446744073709551616) : (BitVec.ofInt 64 (a : Int)).toNat = a := by
  rw [BitVec.ofInt_natCast, BitVec.toNat_ofNat]; exact Nat.mod_eq_of_lt (by omega)
theorem i64_and (a b : Nat) (ha : a < 9223372036854775808) (hb : b < 9223372036854775808) : bits .and .i64 (a : Int) (b : Int) = ((a &&& b : Nat) : Int) := by
  have hx : a &&& b < 2 ^ 63 := Nat.and_lt_two_pow _ (by omega)
  show IntKind.i64.wrap ((BitVec.ofInt 64 (a : Int) &&& BitVec.ofInt 64 (b : Int)).toNat : Int) = _
  rw [BitVec.toNat_and, ofInt_i64 a (by omega), ofInt_i64 b (by omega), wi64 (by omega) (by omega)]
theorem i64_or (a b : Nat) (ha : a < 9223372036854775808) (hb : b < 9223372036854775808) : bits .or .i64 (a : Int) (b : Int) = ((a ||| b : Nat) : Int) := by
  have hx : a ||| b < 2 ^ 63 := Nat.or_lt_two_pow (by omega) (by omega)
  show IntKind.i64.wrap ((BitVec.ofInt 64 (a : Int) ||| BitVec.ofInt 64 (b : Int)).toNat : Int) = _
  rw [BitVec.toNat_or, ofInt_i64 a (by omega), ofInt_i64 b (by omega), wi64 (by omega) (by omega)]
theorem i64_andNot (a b : Nat) (ha : a < 9223372036854775808) (hb : b < 9223372036854775808) : bits .andNot .i64 (a : Int) (b : Int) = ((a &&& (18446744073709551615 - b) : Nat) : Int) := by
  have hx : a &&& (18446744073709551615 - b) < 2 ^ 63 := Nat.lt_of_le_of_lt Nat.and_le_left (by omega)
  show IntKind.i64.wrap ((BitVec.ofInt 64 (a : Int) &&& ~~~BitVec.ofInt 64 (b : Int)).toNat : Int) = _
  rw [BitVec.toNat_and, BitVec.toNat_not, ofInt_i64 a (by omega), ofInt_i64 b (by omega)]
  have e : 2 ^ 64 - 1 - b = 18446744073709551615 - b := by omega
  rw [e, wi64 (by omega) (by omega)]
/-- A bit taken away. -/
theorem nat_unbit (i x w : Nat) (hi : i < w) (hx : x < 2 ^ w) : x &&& (2 ^ w - 1 - 2 ^ i) = x - x / 2 ^ i % 2 * 2 ^ i := by
  have hp : (2 : Nat) ^ (i + 1) = 2 * 2 ^ i := by rw [Nat.pow_succ]; omega
  have e : x - x / 2 ^ i % 2 * 2 ^ i = 2 ^ (i + 1) * (x / 2 ^ (i + 1)) + x % 2 ^ i := by
    have h1 := Nat.div_add_mod x (2 ^ i)
    have h2 := Nat.div_add_mod (x / 2 ^ i) 2
    have h3 : x / 2 ^ (i + 1) = x / 2 ^ i / 2 := by rw [Nat.pow_succ, Nat.div_div_eq_div_mul]
    rw [h3, hp]
    generalize x / 2 ^ i = q at *
    generalize x % 2 ^ i = r at *
    generalize 2 ^ i = P at *
    have h4 : 2 * P * (q / 2) = P * (2 * (q / 2)) := by rw [Nat.mul_comm 2 P, Nat.mul_assoc]
    have h5 : P * q = P * (2 * (q / 2)) + P * (q % 2) := by rw [← Nat.mul_add, h2]
    rw [h4, Nat.mul_comm (q % 2) P]
    omega
  have hr : x % 2 ^ i < 2 ^ (i + 1) := by
    have := Nat.mod_lt x (Nat.two_pow_pos i)
    omega
  rw [e]
  apply Nat.eq_of_testBit_eq
  intro j
  rw [Nat.sub_sub, Nat.add_comm 1 (2 ^ i), Nat.testBit_and, Nat.testBit_two_pow_sub_succ (Nat.pow_lt_pow_right (by omega) hi), Nat.testBit_two_pow, Nat.testBit_two_pow_mul_add _ hr]
  by_cases hj : j < i + 1
  · rw [if_pos hj, Nat.testBit_mod_two_pow]
    by_cases h2 : j = i
    · subst h2; simp
    · have h3 : j < i := by omega
      have h4 : j < w := by omega
      simp [h3, h4, Ne.symm h2]
  · rw [if_neg hj, Nat.testBit_div_two_pow, show j - (i + 1) + (i + 1) = j by omega]
    have h2 : ¬ i = j := by omega
    by_cases hw : j < w
    · simp [hw, h2]
    · have : x.testBit j = false := Nat.testBit_lt_two_pow (Nat.lt_of_lt_of_le hx (Nat.pow_le_pow_right (by omega) (by omega)))
      simp [this]

/-- What a kind and a number are told as. -/
def enc (k n : Int) : Option Int :=
  if k = 0 ∧ 0 ≤ n ∧ n < 256 then some (256 * n) else if 1 ≤ n ∧ n ≤ 31 then (if k = 1 then some n else if k = 2 then some (256 * n + 127) else if k = 3 then some (256 * (n + 128) + 127) else none) else none
theorem st_signal_eq (n : Int) : status_signal.f n = some (decide (1 ≤ n ∧ n ≤ 31)) := by
  unfold status_signal.f
  by_cases h : n ≥ 1
  · rw [if_pos h]; congr 1; exact decide_eq_decide.2 ⟨fun h2 => ⟨h, h2⟩, fun h2 => h2.2⟩
  · rw [if_neg h]; congr 1; simp; omega
theorem shl8 {n : Int} (h : 0 ≤ n ∧ n < 256) : shl .u32 (IntKind.wrap .u32 n) 8 = 256 * n := by
  simp only [shl, wu32, IntKind.bits]
  have : min (Int.toNat 8) 32 = 8 := by decide
  rw [this]
  simp
  omega
theorem or127 {n : Int} (h : 0 ≤ n ∧ n < 256) : bits .or .u32 (256 * n) 127 = 256 * n + 127 := by
  obtain ⟨a, rfl⟩ := Int.eq_ofNat_of_zero_le h.1
  rw [show (256 * (a : Int)) = ((256 * a : Nat) : Int) by omega, show (127 : Int) = ((127 : Nat) : Int) from rfl, u32_or_nat _ _ (by omega) (by omega), nat_join 8 (256 * a) 127 (by omega) (by omega)]
  omega
theorem or128 {n : Int} (h : 0 ≤ n ∧ n < 128) : bits .or .i64 n 128 = n + 128 := by
  obtain ⟨a, rfl⟩ := Int.eq_ofNat_of_zero_le h.1
  rw [show (128 : Int) = ((128 : Nat) : Int) from rfl, i64_or _ _ (by omega) (by omega), Nat.or_comm, nat_join 7 128 a (by omega) (by omega)]
  omega
theorem and128 {n : Int} (h : 0 ≤ n ∧ n < 16777216) : bits .and .i64 n 128 = n / 128 % 2 * 128 := by
  obtain ⟨a, rfl⟩ := Int.eq_ofNat_of_zero_le h.1
  rw [show bits .and .i64 (a : Int) 128 = bits .and .i64 (a : Int) ((128 : Nat) : Int) from rfl, i64_and _ _ (by omega) (by omega), show (128 : Nat) = 2 ^ 7 from rfl, nat_bit 7 a]
  omega
theorem andNot128 {n : Int} (h : 0 ≤ n ∧ n < 16777216) : bits .andNot .i64 n 128 = n - n / 128 % 2 * 128 := by
  obtain ⟨a, rfl⟩ := Int.eq_ofNat_of_zero_le h.1
  rw [show bits .andNot .i64 (a : Int) 128 = bits .andNot .i64 (a : Int) ((128 : Nat) : Int) from rfl, i64_andNot _ _ (by omega) (by omega)]
  have := nat_unbit 7 a 64 (by omega) (by omega)
  rw [show (18446744073709551615 - 128 : Nat) = 2 ^ 64 - 1 - 2 ^ 7 from rfl, this]
  have : (2 : Nat) ^ 7 = 128 := rfl
  rw [this]
  omega
theorem st_Of_eq (k n : Int) : status_Of.f k n = some (match enc k n with | some v => (v, none) | none => (0, some 22)) := by
  unfold status_Of.f enc
  simp only [st_signal_eq, bind_go, decide_eq_true_eq]
  by_cases hs : 1 ≤ n ∧ n ≤ 31
  · have e1 : shl .u32 (IntKind.wrap .u32 n) 8 = 256 * n := shl8 ⟨by omega, by omega⟩
    have e2 : bits .or .u32 (256 * n) 127 = 256 * n + 127 := or127 ⟨by omega, by omega⟩
    have e3 : bits .or .i64 n 128 = n + 128 := or128 ⟨by omega, by omega⟩
    have e4 : shl .u32 (IntKind.wrap .u32 (n + 128)) 8 = 256 * (n + 128) := shl8 ⟨by omega, by omega⟩
    have e5 : bits .or .u32 (256 * (n + 128)) 127 = 256 * (n + 128) + 127 := or127 ⟨by omega, by omega⟩
    have e6 : IntKind.wrap .u32 n = n := wu32_id ⟨by omega, by omega⟩
    have g1 : n ≥ 0 := by omega
    have g2 : n < 256 := by omega
    rw [e1, e2, e3, e4, e5, e6]
    simp only [hs, g1, g2, if_true, and_self, and_true]
    clear e1 e2 e3 e4 e5 e6
    by_cases k0 : k = 0
    · rw [if_pos k0, if_pos k0]
    rw [if_neg k0, if_neg k0]
    by_cases k1 : k = 1
    · rw [if_pos k1, if_pos k1]
    rw [if_neg k1, if_neg k1]
    by_cases k2 : k = 2
    · rw [if_pos k2, if_pos k2]
    rw [if_neg k2, if_neg k2]
    by_cases k3 : k = 3
    · rw [if_pos k3, if_pos k3]
    rw [if_neg k3, if_neg k3]
  · simp only [hs, if_false]
    by_cases h2 : k = 0 ∧ 0 ≤ n ∧ n < 256
    · rw [if_pos h2, if_pos h2.1, if_pos (by omega), if_pos (by omega), shl8 ⟨by omega, by omega⟩]
    · rw [if_neg h2]
      dsimp only
      by_cases k0 : k = 0
      · rw [if_pos k0]
        by_cases h3 : n ≥ 0
        · rw [if_pos h3, if_neg (by omega)]
          repeat' split
          all_goals rfl
        · rw [if_neg h3]
          repeat' split
          all_goals rfl
      · rw [if_neg k0]
        repeat' split
        all_goals rfl
/-- What a number tells. -/
def dec (v : Int) : Option (Int × Int) :=
  if v % 256 = 0 then (if v / 256 < 256 then some (0, v / 256) else none)
  else if 1 ≤ v ∧ v ≤ 31 then some (1, v)
  else if v % 256 = 127 ∧ 1 ≤ v / 256 ∧ v / 256 ≤ 31 then some (2, v / 256)
  else if v % 256 = 127 ∧ 129 ≤ v / 256 ∧ v / 256 ≤ 159 then some (3, v / 256 - 128) else none
theorem enc_iff (k n v : Int) (hv : 0 ≤ v ∧ v < 4294967296) : enc k n = some v ↔ dec v = some (k, n) := by
  unfold enc dec
  constructor
  · intro h
    split at h
    · rename_i h1
      obtain ⟨rfl, h2, h3⟩ := h1
      cases h
      rw [if_pos (by omega), if_pos (by omega)]
      congr 2; omega
    · split at h
      · rename_i h2
        split at h
        · rename_i h3; subst h3; cases h
          rw [if_neg (by omega), if_pos (by omega)]
        · split at h
          · rename_i h3; subst h3; cases h
            rw [if_neg (by omega), if_neg (by omega), if_pos (by omega)]
            congr 2; omega
          · split at h
            · rename_i h3; subst h3; cases h
              rw [if_neg (by omega), if_neg (by omega), if_neg (by omega), if_pos (by omega)]
              congr 2; omega
            · cases h
      · cases h
  · intro h
    split at h
    · rename_i h1
      split at h
      · cases h
        rw [if_pos ⟨rfl, by omega, by omega⟩]; congr 1; omega
      · cases h
    · rename_i h0
      split at h
      · cases h
        rw [if_neg (by omega), if_pos (by omega), if_pos rfl]
      · split at h
        · cases h
          rw [if_neg (by omega), if_pos (by omega), if_neg (by omega), if_pos rfl]; congr 1; omega
        · split at h
          · cases h
            rw [if_neg (by omega), if_pos (by omega), if_neg (by omega), if_neg (by omega), if_pos rfl]; congr 1; omega
          · cases h
def what (v : Int) : Int × Int × Option Int := match dec v with | some p => (p.1, p.2, none) | none => (0, 0, some 22)
theorem st_What_eq {v : Int} (hv : 0 ≤ v ∧ v < 4294967296) : status_What.f v = some (what v) := by
  have e1 : Int.tmod v 256 = v % 256 := Int.tmod_eq_emod_of_nonneg hv.1
  have e2 : shr .u32 v 8 = v / 256 := by simp [shr, IntKind.bits]
  have e3 : IntKind.wrap .i64 (v / 256) = v / 256 := wi64 (by omega) (by omega)
  have e4 : IntKind.wrap .i64 v = v := wi64 (by omega) (by omega)
  have e5 := and128 (n := v / 256) ⟨by omega, by omega⟩
  have e6 := andNot128 (n := v / 256) ⟨by omega, by omega⟩
  have key : ∀ k n, status_kind.f v = some (k, n) → (∀ k' n', dec v = some (k', n') → k' = k ∧ n' = n) → status_What.f v = some (what v) := by
    intro k n hk hd
    unfold status_What.f
    rw [hk, bind_go, st_Of_eq, bind_go]
    cases he : enc k n with
    | none =>
      dsimp only
      rw [if_pos (by simp)]
      unfold what
      cases hdv : dec v with
      | none => rfl
      | some p =>
        obtain ⟨k', n'⟩ := p
        obtain ⟨rfl, rfl⟩ := hd k' n' hdv
        rw [(enc_iff k' n' v hv).2 hdv] at he
        cases he
    | some w =>
      dsimp only
      rw [if_neg (by simp)]
      by_cases hw : w = v
      · rw [if_neg (by simpa using hw)]
        subst hw
        have := (enc_iff k n w hv).1 he
        unfold what
        rw [this]
      · rw [if_pos hw]
        unfold what
        cases hdv : dec v with
        | none => rfl
        | some p =>
          obtain ⟨k', n'⟩ := p
          obtain ⟨rfl, rfl⟩ := hd k' n' hdv
          rw [(enc_iff k' n' v hv).2 hdv] at he
          cases he
          exact absurd rfl hw
  by_cases h0 : v % 256 = 0
  · refine key 0 (v / 256) (by unfold status_kind.f; rw [e1, if_pos h0, e2, e3]) fun k' n' h => ?_
    unfold dec at h
    rw [if_pos h0] at h
    split at h <;> cases h
    exact ⟨rfl, rfl⟩
  by_cases h1 : v % 256 = 127
  · by_cases h2 : v / 256 / 128 % 2 = 1
    · refine key 3 (v / 256 - 128) (by unfold status_kind.f; rw [e1, if_neg h0, if_neg (by simpa using h1), e2, e3, e5, if_pos (by omega), e6, h2]; rfl) fun k' n' h => ?_
      unfold dec at h
      rw [if_neg h0, if_neg (by omega), if_neg (by omega)] at h
      split at h <;> cases h
      exact ⟨rfl, rfl⟩
    · refine key 2 (v / 256) (by unfold status_kind.f; rw [e1, if_neg h0, if_neg (by simpa using h1), e2, e3, e5, if_neg (by omega)]) fun k' n' h => ?_
      unfold dec at h
      rw [if_neg h0, if_neg (by omega)] at h
      split at h
      · cases h; exact ⟨rfl, rfl⟩
      · split at h
        · omega
        · cases h
  · refine key 1 v (by unfold status_kind.f; rw [e1, if_neg h0, if_pos h1, e4]) fun k' n' h => ?_
    unfold dec at h
    rw [if_neg h0] at h
    split at h
    · cases h; exact ⟨rfl, rfl⟩
    · rw [if_neg (by omega), if_neg (by omega)] at h
      cases h

theorem ofInt_u32 (a : Nat) (ha : a < 4294967296) : (BitVec.ofInt 32 (a : Int)).toNat = a := by
  rw [BitVec.ofInt_natCast, BitVec.toNat_ofNat]; exact Nat.mod_eq_of_lt (by omega)
theorem w32 (a : Nat) (ha : a < 4294967296) : IntKind.wrap .u32 (a : Int) = (a : Int) := by rw [wu32]; omega
theorem b_and (a b : Nat) (ha : a < 4294967296) (hb : b < 4294967296) : bits .and .u32 (a : Int) (b : Int) = ((a &&& b : Nat) : Int) := by
  have hx : a &&& b < 2 ^ 32 := Nat.and_lt_two_pow _ (by omega)
  show IntKind.u32.wrap ((BitVec.ofInt 32 (a : Int) &&& BitVec.ofInt 32 (b : Int)).toNat : Int) = _
  rw [BitVec.toNat_and, ofInt_u32 a ha, ofInt_u32 b hb, w32 _ (by omega)]
theorem b_or (a b : Nat) (ha : a < 4294967296) (hb : b < 4294967296) : bits .or .u32 (a : Int) (b : Int) = ((a ||| b : Nat) : Int) := by
  have hx : a ||| b < 2 ^ 32 := Nat.or_lt_two_pow (by omega) (by omega)
  show IntKind.u32.wrap ((BitVec.ofInt 32 (a : Int) ||| BitVec.ofInt 32 (b : Int)).toNat : Int) = _
  rw [BitVec.toNat_or, ofInt_u32 a ha, ofInt_u32 b hb, w32 _ (by omega)]
/-- What the one has and the other has not. -/
def less (a b : Nat) : Nat := a &&& (4294967295 - b)
theorem b_andNot (a b : Nat) (ha : a < 4294967296) (hb : b < 4294967296) : bits .andNot .u32 (a : Int) (b : Int) = ((less a b : Nat) : Int) := by
  have hx : a &&& (4294967295 - b) < 2 ^ 32 := Nat.and_lt_two_pow _ (by omega)
  show IntKind.u32.wrap ((BitVec.ofInt 32 (a : Int) &&& ~~~BitVec.ofInt 32 (b : Int)).toNat : Int) = _
  rw [BitVec.toNat_and, BitVec.toNat_not, ofInt_u32 a ha, ofInt_u32 b hb]
  have e : 2 ^ 32 - 1 - b = 4294967295 - b := by omega
  rw [e, w32 _ (by omega)]
  rfl
theorem bit_hi {x j w : Nat} (hx : x < 2 ^ w) (hj : w ≤ j) : x.testBit j = false :=
  Nat.testBit_lt_two_pow (Nat.lt_of_lt_of_le hx (Nat.pow_le_pow_right (by omega) hj))
theorem less_bit {a b : Nat} (ha : a < 4294967296) (hb : b < 4294967296) (j : Nat) : (less a b).testBit j = (a.testBit j && !b.testBit j) := by
  unfold less
  rw [show 4294967295 - b = 2 ^ 32 - (b + 1) by omega, Nat.testBit_and, Nat.testBit_two_pow_sub_succ (by omega)]
  by_cases hj : j < 32
  · simp [hj]
  · rw [bit_hi (show a < 2 ^ 32 by omega) (by omega)]; simp
theorem less_le (a b : Nat) : less a b ≤ a := Nat.and_le_left
/-- The set's bits of 31. -/
theorem cut_eq {a : Nat} (ha : a < 2147483648) : a &&& 2147483647 = a := by
  have := Nat.and_two_pow_sub_one_eq_mod a 31
  rw [show (2147483647 : Nat) = 2 ^ 31 - 1 from rfl, this]
  omega
theorem cut_bit (a j : Nat) : (a &&& 2147483647).testBit j = (decide (j < 31) && a.testBit j) := by
  rw [show (2147483647 : Nat) = 2 ^ 31 - 1 from rfl, Nat.and_two_pow_sub_one_eq_mod, Nat.testBit_mod_two_pow]
theorem cut_lt (a : Nat) : a &&& 2147483647 < 2147483648 := by
  have : a &&& 2147483647 ≤ 2147483647 := Nat.and_le_right
  omega
/-- The lowest bit. -/
theorem lowest : ∀ (a : Nat), a ≠ 0 → ∃ k m, a = 2 ^ k * (2 * m + 1) := by
  intro a
  induction a using Nat.strongRecOn with
  | _ a ih =>
    intro h
    by_cases h2 : a % 2 = 1
    · exact ⟨0, a / 2, by omega⟩
    · obtain ⟨k, m, e⟩ := ih (a / 2) (by omega) (by omega)
      refine ⟨k + 1, m, ?_⟩
      rw [Nat.pow_succ, Nat.mul_assoc, Nat.mul_comm 2, ← Nat.mul_assoc, ← e]
      omega
theorem low_bits {a k m : Nat} (e : a = 2 ^ k * (2 * m + 1)) : (∀ j, j < k → a.testBit j = false) ∧ a.testBit k = true := by
  have e2 : a = 2 ^ (k + 1) * m + 2 ^ k := by rw [e, Nat.pow_succ, Nat.mul_add, Nat.mul_one, Nat.mul_assoc]
  have hk : (2 : Nat) ^ k < 2 ^ (k + 1) := Nat.pow_lt_pow_right (by omega) (by omega)
  constructor
  · intro j hj
    rw [e2, Nat.testBit_two_pow_mul_add _ hk, if_pos (by omega), Nat.testBit_two_pow]
    simp; omega
  · rw [e2, Nat.testBit_two_pow_mul_add _ hk, if_pos (by omega), Nat.testBit_two_pow]
    simp
theorem low_and {a k m : Nat} (ha : a < 4294967296) (e : a = 2 ^ k * (2 * m + 1)) : a &&& (4294967296 - a) = 2 ^ k := by
  have hp := Nat.two_pow_pos k
  have e2 : a = 2 ^ (k + 1) * m + 2 ^ k := by rw [e, Nat.pow_succ, Nat.mul_add, Nat.mul_one, Nat.mul_assoc]
  have hk : (2 : Nat) ^ k < 2 ^ (k + 1) := Nat.pow_lt_pow_right (by omega) (by omega)
  have e3 : a - 1 = 2 ^ (k + 1) * m + (2 ^ k - 1) := by omega
  have hk2 : (2 : Nat) ^ k - 1 < 2 ^ (k + 1) := by omega
  have ha0 : 0 < a := by omega
  apply Nat.eq_of_testBit_eq
  intro j
  rw [show 4294967296 - a = 2 ^ 32 - (a - 1 + 1) by omega, Nat.testBit_and, Nat.testBit_two_pow_sub_succ (by omega), Nat.testBit_two_pow]
  by_cases hj : j < 32
  · rw [e3]
    conv => lhs; rw [e2]
    rw [Nat.testBit_two_pow_mul_add _ hk, Nat.testBit_two_pow_mul_add _ hk2]
    by_cases h1 : j < k + 1
    · rw [if_pos h1, if_pos h1, Nat.testBit_two_pow, Nat.testBit_two_pow_sub_one]
      by_cases h2 : k = j
      · subst h2; simp [hj]
      · have : j < k := by omega
        simp [h2, this]
    · rw [if_neg h1, if_neg h1]
      have : ¬ k = j := by omega
      simp [this]
      intro h _; exact h
  · rw [bit_hi (show a < 2 ^ 32 by omega) (by omega)]
    have : ¬ k = j := by
      intro h
      have h1 : (2 : Nat) ^ 32 ≤ 2 ^ k := Nat.pow_le_pow_right (by omega) (by omega)
      have h2 : 2 ^ k ≤ a := by rw [e2]; exact Nat.le_add_left ..
      omega
    simp [this]
theorem low_lt {a k m w : Nat} (ha : a < 2 ^ w) (e : a = 2 ^ k * (2 * m + 1)) : k < w := by
  have h1 := (low_bits e).2
  apply Classical.byContradiction
  intro h
  rw [bit_hi ha (by omega)] at h1
  cases h1
theorem bits_zero {a : Nat} (h : ∀ j, a.testBit j = false) : a = 0 := by
  apply Nat.eq_of_testBit_eq
  intro j
  rw [h j, Nat.zero_testBit]

theorem One_eq (k : Nat) (h : k < 31) : sigset_One.f ((k + 1 : Nat) : Int) = some ((2 ^ k : Nat) : Int) := by
  have : ∀ q : Fin 31, sigset_One.f ((q.val + 1 : Nat) : Int) = some ((2 ^ q.val : Nat) : Int) := by decide +kernel
  exact this ⟨k, h⟩
theorem pw_lt {k : Nat} (h : k < 31) : (2 : Nat) ^ k < 2147483648 := by
  have : (2 : Nat) ^ k < 2 ^ 31 := Nat.pow_lt_pow_right (by omega) h
  omega
theorem and_pw (p k : Nat) : (((p &&& 2 ^ k : Nat) : Int) != 0) = p.testBit k := by
  cases h : p.testBit k with
  | true =>
    have : p &&& 2 ^ k ≠ 0 := by
      intro h2
      have h3 := congrArg (Nat.testBit · k) h2
      simp [h] at h3
    rw [bne_iff_ne]
    omega
  | false =>
    have : p &&& 2 ^ k = 0 := by
      apply bits_zero
      intro j
      rw [Nat.testBit_and, Nat.testBit_two_pow]
      by_cases hj : k = j
      · subst hj; simp [h]
      · simp [hj]
    rw [this]
    rfl
theorem Has_eq {p : Nat} (hp : p < 4294967296) {k : Nat} (h : k < 31) : sigset_Has.f (p : Int) ((k + 1 : Nat) : Int) = some (p.testBit k) := by
  have := pw_lt h
  unfold sigset_Has.f
  rw [One_eq k h, bind_go, b_and p (2 ^ k) hp (by omega)]
  rw [and_pw]
theorem Add_eq {p : Nat} (hp : p < 4294967296) {k : Nat} (h : k < 31) : sigset_Add.f (p : Int) ((k + 1 : Nat) : Int) = some (((p &&& 2147483647) ||| 2 ^ k : Nat) : Int) := by
  have := pw_lt h; have := cut_lt p
  unfold sigset_Add.f
  rw [One_eq k h, bind_go, show bits .and .u32 (p : Int) 2147483647 = ((p &&& 2147483647 : Nat) : Int) from b_and p 2147483647 hp (by omega), b_or _ _ (by omega) (by omega)]
theorem tz_eq {a k m : Nat} (ha : a < 4294967296) (h0 : a ≠ 0) (e : a = 2 ^ k * (2 * m + 1)) : math_bits_TrailingZeros32.f (a : Int) = some (k : Int) := by
  have hk : k < 32 := low_lt (w := 32) (by omega) e
  unfold math_bits_TrailingZeros32.f
  rw [if_neg (by omega)]
  have e1 : IntKind.wrap .u32 (0 - (a : Int)) = ((4294967296 - a : Nat) : Int) := by rw [wu32]; omega
  rw [e1, b_and a (4294967296 - a) ha (by omega), low_and ha e]
  have : ∀ q : Fin 32, (if 0 ≤ (shr .u32 (IntKind.wrap .u32 (((2 ^ q.val : Nat) : Int) * (125613361 : Int))) (27 : Int)) ∧ (shr .u32 (IntKind.wrap .u32 (((2 ^ q.val : Nat) : Int) * (125613361 : Int))) (27 : Int)) < ((32 : Nat) : Int) then some (IntKind.wrap .i64 ((List.getD tab1 (Int.toNat (shr .u32 (IntKind.wrap .u32 (((2 ^ q.val : Nat) : Int) * (125613361 : Int))) (27 : Int))) (0 : Int)))) else none) = some (q.val : Int) := by decide +kernel
  exact this ⟨k, hk⟩
theorem First_eq {a : Nat} (ha : a < 2147483648) : (a = 0 ∧ sigset_First.f (a : Int) = some 0) ∨ (∃ k, k < 31 ∧ a.testBit k = true ∧ (∀ j, j < k → a.testBit j = false) ∧ sigset_First.f (a : Int) = some ((k + 1 : Nat) : Int)) := by
  by_cases h0 : a = 0
  · left; subst h0; exact ⟨rfl, by decide +kernel⟩
  · right
    obtain ⟨k, m, e⟩ := lowest a h0
    have hk : k < 31 := low_lt (w := 31) (by omega) e
    refine ⟨k, hk, (low_bits e).2, (low_bits e).1, ?_⟩
    unfold sigset_First.f
    rw [show bits .and .u32 (a : Int) 2147483647 = ((a &&& 2147483647 : Nat) : Int) from b_and a 2147483647 (by omega) (by omega), cut_eq ha, if_neg (by omega), tz_eq (by omega) h0 e, bind_go, wsucc (by omega)]
/-- What comes next. -/
inductive Nx (p b : Nat) : Int → Prop where
  | kill : p.testBit 8 = true → Nx p b 9
  | stop : p.testBit 8 = false → p.testBit 18 = true → Nx p b 19
  | other (k : Nat) : p.testBit 8 = false → p.testBit 18 = false → k < 31 → p.testBit k = true → b.testBit k = false → (∀ j, j < k → p.testBit j = true → b.testBit j = true) → Nx p b ((k + 1 : Nat) : Int)
  | none : p.testBit 8 = false → p.testBit 18 = false → less p b = 0 → Nx p b 0
theorem fuelS (n : Nat) : FUEL = 18446744073709551615 + 1 := rfl
theorem Next_eq {p b : Nat} (hp : p < 2147483648) (hb : b < 4294967296) (acts : List Int) : ∃ n, sig_Next.f (p : Int) (b : Int) acts = some n ∧ Nx p b n := by
  have h9 : sigset_Has.f (p : Int) 9 = some (p.testBit 8) := Has_eq (by omega) (k := 8) (by omega)
  have h19 : sigset_Has.f (p : Int) 19 = some (p.testBit 18) := Has_eq (by omega) (k := 18) (by omega)
  have s1 : ∀ n, sig_Next.l0 (p : Int) (b : Int) acts (n + 1) 0 = (if p.testBit 8 = true then some (.inr 9) else sig_Next.l0 (p : Int) (b : Int) acts n 1) := by
    intro n
    rw [sig_Next.l0, if_pos (by decide), if_pos (by decide), show List.getD [(9 : Int), 19] (Int.toNat 0) 0 = 9 from rfl, h9, bind_go]
    rfl
  have s2 : ∀ n, sig_Next.l0 (p : Int) (b : Int) acts (n + 1) 1 = (if p.testBit 18 = true then some (.inr 19) else sig_Next.l0 (p : Int) (b : Int) acts n 2) := by
    intro n
    rw [sig_Next.l0, if_pos (by decide), if_pos (by decide), show List.getD [(9 : Int), 19] (Int.toNat 1) 0 = 19 from rfl, h19, bind_go]
    rfl
  have s3 : ∀ n, sig_Next.l0 (p : Int) (b : Int) acts (n + 1) 2 = some (.inl ()) := by
    intro n
    rw [sig_Next.l0, if_neg (by decide)]
  have hl := less_le p b
  unfold sig_Next.f
  rw [show FUEL = 18446744073709551613 + 1 + 1 + 1 from rfl, s1]
  cases e8 : p.testBit 8 with
  | true => exact ⟨9, by rw [if_pos rfl, bind_go], .kill e8⟩
  | false =>
    rw [if_neg (by simp), s2]
    cases e18 : p.testBit 18 with
    | true => exact ⟨19, by rw [if_pos rfl, bind_go], .stop e8 e18⟩
    | false =>
      rw [if_neg (by simp), s3, bind_go]
      dsimp only
      rw [b_andNot p b (by omega) hb]
      rcases First_eq (a := less p b) (by omega) with ⟨h, hf⟩ | ⟨k, hk, h1, h2, hf⟩
      · exact ⟨0, by rw [hf, bind_go], .none e8 e18 h⟩
      · rw [less_bit (by omega) hb] at h1
        simp at h1
        refine ⟨_, by rw [hf, bind_go], .other k e8 e18 hk h1.1 h1.2 fun j hj hpj => ?_⟩
        have := h2 j hj
        rw [less_bit (by omega) hb, hpj] at this
        simpa using this
theorem signal_eq (n : Int) : sig_signal.f n = some (decide (1 ≤ n ∧ n ≤ 31)) := by
  unfold sig_signal.f
  by_cases h : n ≥ 1
  · rw [if_pos h]; congr 1; exact decide_eq_decide.2 ⟨fun h2 => ⟨h, h2⟩, fun h2 => h2.2⟩
  · rw [if_neg h]; congr 1; simp; omega
theorem mask_bit (j : Nat) : (262400 : Nat).testBit j = decide (j = 8 ∨ j = 18) := by
  rw [show (262400 : Nat) = 2 ^ 8 ||| 2 ^ 18 from rfl, Nat.testBit_or, Nat.testBit_two_pow, Nat.testBit_two_pow]
  simp [eq_comm]
theorem mask_zero {b : Nat} : b &&& 262400 = 0 ↔ b.testBit 8 = false ∧ b.testBit 18 = false := by
  constructor
  · intro h
    have h1 := congrArg (Nat.testBit · 8) h
    have h2 := congrArg (Nat.testBit · 18) h
    simp only [Nat.testBit_and, mask_bit, Nat.zero_testBit] at h1 h2
    exact ⟨by simpa using h1, by simpa using h2⟩
  · rintro ⟨h1, h2⟩
    apply bits_zero
    intro j
    rw [Nat.testBit_and, mask_bit]
    by_cases h3 : j = 8
    · subst h3; simp [h1]
    · by_cases h4 : j = 18
      · subst h4; simp [h2]
      · simp [h3, h4]
/-- The state is one that may be. -/
def may (p b : Nat) (acts : List Int) : Prop := b.testBit 8 = false ∧ b.testBit 18 = false ∧ acts.getD 0 0 = 0 ∧ acts.getD 9 0 = 0 ∧ acts.getD 19 0 = 0 ∧ p < 2147483648 ∧ b < 2147483648
instance (p b : Nat) (acts : List Int) : Decidable (may p b acts) := by unfold may; exact inferInstance
theorem Check_eq {p b : Nat} (hb : b < 4294967296) (acts : List Int) : sig_Check.f (p : Int) (b : Int) acts = some (if may p b acts then none else some 22) := by
  have h := mask_zero (b := b)
  unfold sig_Check.f
  rw [show bits .and .u32 (b : Int) 262400 = ((b &&& 262400 : Nat) : Int) from b_and b 262400 (by omega) (by omega)]
  by_cases hm : may p b acts
  · obtain ⟨h1, h2, h3, h4, h5, h6, h7⟩ := hm
    rw [if_pos (show may p b acts from ⟨h1, h2, h3, h4, h5, h6, h7⟩)]
    rw [if_neg (by rw [h.2 ⟨h1, h2⟩]; simp), if_neg (by simpa using h3), if_neg (by simpa using h4), if_neg (by simpa using h5), if_neg (by omega), if_neg (by omega)]
  · rw [if_neg hm]
    by_cases h1 : b &&& 262400 = 0
    · rw [if_neg (by rw [h1]; simp)]
      by_cases h3 : acts.getD 0 0 = 0
      · rw [if_neg (by simpa using h3)]
        by_cases h4 : acts.getD 9 0 = 0
        · rw [if_neg (by simpa using h4)]
          by_cases h5 : acts.getD 19 0 = 0
          · rw [if_neg (by simpa using h5)]
            by_cases h6 : (p : Int) > 2147483647
            · rw [if_pos h6]
            · rw [if_neg h6]
              by_cases h7 : (b : Int) > 2147483647
              · rw [if_pos h7]
              · exact absurd ⟨(h.1 h1).1, (h.1 h1).2, h3, h4, h5, by omega, by omega⟩ hm
          · rw [if_pos h5]
        · rw [if_pos h4]
      · rw [if_pos h3]
    · rw [if_pos (by omega)]

def plainS (n : Int) : Int := if n = 17 then 0 else if n = 18 then 3 else if n = 19 then 2 else if n = 20 then 2 else 1
theorem plain_eq (n : Int) : sig_plain.f n = some (plainS n) := by
  unfold sig_plain.f plainS
  repeat' split
  all_goals rfl
/-- What a signal does. -/
def whatS (acts : List Int) (n : Int) : Int :=
  if 1 ≤ n ∧ n ≤ 31 then (if n = 9 then 1 else if n = 19 then 2 else if acts.getD n.toNat 0 = 0 then plainS n else if acts.getD n.toNat 0 > 1 then 4 else if n = 18 then 3 else 0) else 0
theorem What_eq (p b : Int) (acts : List Int) (n : Int) : sig_What.f p b acts n = some (whatS acts n) := by
  unfold sig_What.f whatS
  rw [signal_eq, bind_go]
  by_cases h : 1 ≤ n ∧ n ≤ 31
  · rw [if_neg (by simpa using h), if_pos h]
    have h1 : 0 ≤ n ∧ n < ((32 : Nat) : Int) := by omega
    have h2 : n.toNat < 32 := by omega
    simp only [plain_eq, bind_go, if_pos h1, if_pos h2]
    by_cases h9 : n = 9
    · subst h9; rfl
    rw [if_neg h9, if_neg h9]
    by_cases h19 : n = 19
    · subst h19; rfl
    rw [if_neg h19, if_neg h19]
    repeat' split
    all_goals rfl
  · rw [if_pos (by simpa using h), if_neg h]
def agN (n : Int) : Nat := if n = 18 then 786432 else if n = 19 then 131072 else if n = 20 then 131072 else 0
theorem ag_eq (n : Int) : sig_against.f n = some ((agN n : Nat) : Int) := by
  unfold sig_against.f agN
  by_cases h1 : n = 18
  · rw [if_pos h1, if_pos h1]; decide +kernel
  rw [if_neg h1, if_neg h1]
  by_cases h2 : n = 19
  · rw [if_pos h2, if_pos h2]; decide +kernel
  rw [if_neg h2, if_neg h2]
  by_cases h3 : n = 20
  · rw [if_pos h3, if_pos h3]; decide +kernel
  rw [if_neg h3, if_neg h3]
  rfl
theorem ag_lt (n : Int) : agN n < 2147483648 := by
  unfold agN
  repeat' split
  all_goals omega
/-- What waits when a signal is posted. -/
def postS (p b : Nat) (acts : List Int) (k : Nat) : Nat :=
  if b.testBit k = true ∨ whatS acts ((k + 1 : Nat) : Int) ≠ 0 then less p (agN ((k + 1 : Nat) : Int)) ||| 2 ^ k else less p (agN ((k + 1 : Nat) : Int))
theorem postS_lt {p : Nat} (hp : p < 2147483648) (b : Nat) (acts : List Int) {k : Nat} (hk : k < 31) : postS p b acts k < 2147483648 := by
  have := less_le p (agN ((k + 1 : Nat) : Int))
  have := pw_lt hk
  unfold postS
  split
  · exact Nat.or_lt_two_pow (n := 31) (by omega) (by omega)
  · omega
theorem Post_eq {p b : Nat} (hb : b < 4294967296) (acts : List Int) {k : Nat} (hk : k < 31) : sig_Post.f (p : Int) (b : Int) acts ((k + 1 : Nat) : Int) = some (if may p b acts then ((postS p b acts k : Int), (b : Int), acts, none) else (0, 0, List.replicate 32 0, some 22)) := by
  unfold sig_Post.f
  rw [Check_eq hb, bind_go, signal_eq]
  by_cases hm : may p b acts
  · rw [if_pos hm, if_pos hm, if_neg (by simp), bind_go, if_neg (by simp; omega), ag_eq, bind_go, Has_eq hb hk, bind_go]
    obtain ⟨h1, h2, h3, h4, h5, h6, h7⟩ := hm
    have hl := less_le p (agN ((k + 1 : Nat) : Int))
    have hg := ag_lt ((k + 1 : Nat) : Int)
    rw [b_andNot _ _ (by omega) (by omega), Add_eq (by omega) hk, What_eq, bind_go, bind_go, cut_eq (by omega)]
    unfold postS
    cases hbt : b.testBit k with
    | true => rw [if_pos rfl, if_pos (.inl rfl)]
    | false =>
      rw [if_neg (by simp)]
      by_cases hw : whatS acts ((k + 1 : Nat) : Int) = 0
      · rw [if_neg (by simpa using hw), if_neg (by simpa using hw)]
      · rw [if_pos hw, if_pos (.inr hw)]
  · rw [if_neg hm, if_neg hm, if_pos (by simp)]

theorem pids_eq (n : Int) : pids_Check.f n = some (if 1 ≤ n ∧ n ≤ 99 then none else some 22) := by
  unfold pids_Check.f
  by_cases h : n < 1
  · rw [if_pos h, if_neg (by omega)]
  rw [if_neg h]
  by_cases h2 : n > 99
  · rw [if_pos h2, if_neg (by omega)]
  · rw [if_neg h2, if_pos (by omega)]
theorem cred_eq (n : Int) : cred_Check.f n = some (if 0 ≤ n ∧ n ≤ 65535 then none else some 22) := by
  unfold cred_Check.f
  by_cases h : n < 0
  · rw [if_pos h, if_neg (by omega)]
  rw [if_neg h]
  by_cases h2 : n > 65535
  · rw [if_pos h2, if_neg (by omega)]
  · rw [if_neg h2, if_pos (by omega)]
theorem bt_bd (s : ByteArray) (i : Int) : 0 ≤ bt s i ∧ bt s i < 256 := by
  unfold bt
  have := (s.data.toList.getD i.toNat 0).toNat_lt
  omega
theorem fine_set : ∃ S, strings_makeASCIISet.f (⟨#[97, 98, 99, 100, 101, 102, 103, 104, 105, 106, 107, 108, 109, 110, 111, 112, 113, 114, 115, 116, 117, 118, 119, 120, 121, 122, 48, 49, 50, 51, 52, 53, 54, 55, 56, 57, 46, 95, 45]⟩ : ByteArray) = some (S, true) := by
  have h : (strings_makeASCIISet.f (⟨#[97, 98, 99, 100, 101, 102, 103, 104, 105, 106, 107, 108, 109, 110, 111, 112, 113, 114, 115, 116, 117, 118, 119, 120, 121, 122, 48, 49, 50, 51, 52, 53, 54, 55, 56, 57, 46, 95, 45]⟩ : ByteArray)).map (·.2) = some true := by kernel_rfl
  cases he : strings_makeASCIISet.f (⟨#[97, 98, 99, 100, 101, 102, 103, 104, 105, 106, 107, 108, 109, 110, 111, 112, 113, 114, 115, 116, 117, 118, 119, 120, 121, 122, 48, 49, 50, 51, 52, 53, 54, 55, 56, 57, 46, 95, 45]⟩ : ByteArray) with
  | none => rw [he] at h; cases h
  | some p =>
    rw [he] at h
    obtain ⟨S, b⟩ := p
    have : b = true := by simpa using h
    subst this
    exact ⟨S, rfl⟩
theorem trim_total (S : List Bool) : ∀ (n : Nat) (x : ByteArray), x.size < n → ∃ y, strings_trimLeftASCII.l0 S n x = some y
  | 0, x, h => by omega
  | n + 1, x, h => by
    rw [strings_trimLeftASCII.l0]
    by_cases h0 : ((x.size : Nat) : Int) > 0
    · have hb := bt_bd x 0
      have hc : strings_asciiSet_contains.f (bt x 0) S = some (S.getD (bt x 0).toNat false) := by
        unfold strings_asciiSet_contains.f
        rw [if_pos (by omega), if_pos (by omega)]
      rw [if_pos h0, if_pos (by omega), hc, bind_go]
      by_cases hs : S.getD (bt x 0).toNat false = true
      · rw [if_neg (by simpa using hs), if_pos (by simp; omega)]
        exact trim_total S n _ (by rw [ByteArray.size_extract]; omega)
      · rw [if_pos hs]; exact ⟨_, rfl⟩
    · rw [if_neg h0]; exact ⟨_, rfl⟩
theorem path_total (s : ByteArray) : ∃ e, path_Check.f s = some e := by
  unfold path_Check.f
  by_cases h0 : s = ByteArray.empty
  · rw [if_pos h0]; exact ⟨_, rfl⟩
  rw [if_neg h0]
  by_cases h1 : ((s.size : Nat) : Int) > 16
  · rw [if_pos h1]; exact ⟨_, rfl⟩
  rw [if_neg h1]
  obtain ⟨S, hS⟩ := fine_set
  obtain ⟨y, hy⟩ := trim_total S FUEL s (fuel_gt (by omega))
  have ht : strings_TrimLeft.f s (⟨#[97, 98, 99, 100, 101, 102, 103, 104, 105, 106, 107, 108, 109, 110, 111, 112, 113, 114, 115, 116, 117, 118, 119, 120, 121, 122, 48, 49, 50, 51, 52, 53, 54, 55, 56, 57, 46, 95, 45]⟩ : ByteArray) = some y := by
    unfold strings_TrimLeft.f strings_trimLeftASCII.f
    rw [if_neg h0, if_neg (by decide +kernel), if_neg (by decide +kernel), hS, bind_go]
    dsimp only
    rw [if_pos rfl, hy, bind_go, bind_go]
  rw [ht, bind_go]
  split <;> exact ⟨_, rfl⟩
theorem regs_eq (a b c : _) (d : List Int) : regs_Check.f a b c d = some (if c < 32 then none else some 22) := by
  unfold regs_Check.f
  by_cases h : c ≥ 32
  · rw [if_pos h, if_neg (by omega)]
  · rw [if_neg h, if_pos (by omega)]
theorem fds_loop (l : List Int) : ∀ (d i n : Nat), i + d = 8 → d < n → ∃ e, fds_Check.l0 l n (i : Int) = some e
  | d, i, 0, h, hn => by omega
  | 0, i, n + 1, h, hn => by rw [fds_Check.l0, if_neg (by omega)]; exact ⟨_, rfl⟩
  | d + 1, i, n + 1, h, hn => by
    rw [fds_Check.l0, if_pos (by omega), if_pos (by omega), wsucc (by omega)]
    split
    · exact ⟨_, rfl⟩
    · split
      · exact ⟨_, rfl⟩
      · exact fds_loop l d (i + 1) n (by omega) (by omega)
theorem fds_total (l : List Int) : ∃ e, fds_Check.f l = some e := by
  obtain ⟨e, he⟩ := fds_loop l 8 0 FUEL (by omega) (fuel_gt (by omega))
  unfold fds_Check.f
  rw [show fds_Check.l0 l FUEL 0 = _ from he, bind_go]
  split <;> exact ⟨_, rfl⟩
theorem report_total {v : Int} (hv : 0 ≤ v ∧ v < 4294967296) : ∃ b, trace_report.f v = some b := by
  unfold trace_report.f
  rw [st_What_eq hv, bind_go]
  repeat' split
  all_goals exact ⟨_, rfl⟩
theorem mode_total (n : Int) : ∃ b, trace_mode.f n = some b := by
  unfold trace_mode.f
  repeat' split
  all_goals exact ⟨_, rfl⟩
theorem tsig_total (n : Int) : ∃ b, trace_signal.f n = some b := by
  unfold trace_signal.f
  repeat' split
  all_goals exact ⟨_, rfl⟩
theorem trace_total (a0 : Int) (a1 : Bool) {a2 : Int} (hv : 0 ≤ a2 ∧ a2 < 4294967296) (a3 a4 : Int) (a5 : Bool) : ∃ e, trace_Check.f a0 a1 a2 a3 a4 a5 = some e := by
  obtain ⟨b1, h1⟩ := report_total hv
  obtain ⟨b2, h2⟩ := mode_total a3
  obtain ⟨b3, h3⟩ := tsig_total a4
  unfold trace_Check.f
  rw [pids_eq, h1, h2, h3]
  simp only [bind_go]
  repeat' split
  all_goals exact ⟨_, rfl⟩
/-- A process that may be. -/
def okP (a0 a1 : Int) (a2 : ByteArray) (a5 : Int) (a7 : List Int) (p b : Nat) (a10 : List Int) (a11 : Int) (a12 : Bool) (a13 a14 a15 : Int) (a16 a17 a18 : Bool) (a19 a20 : Int) : Prop :=
  (1 ≤ a0 ∧ a0 ≤ 99) ∧ (0 ≤ a1 ∧ a1 ≤ 65535) ∧ path_Check.f a2 = some none ∧ a5 < 32 ∧ fds_Check.f a7 = some none ∧ may p b a10 ∧ trace_Check.f a11 a12 a13 a14 a15 a16 = some none ∧ (0 ≤ a19 ∧ a19 < 30) ∧ (0 ≤ a20 ∧ a20 ≤ 4080) ∧ (a17 = true ∨ a18 = false)
set_option maxHeartbeats 8000000 in
theorem PCheck_eq (a0 a1 : Int) (a2 : ByteArray) (a3 : List Int) (a4 a5 : Int) (a6 a7 : List Int) (p : Nat) {b : Nat} (hb : b < 4294967296) (a10 : List Int) (a11 : Int) (a12 : Bool) {a13 : Int} (hv : 0 ≤ a13 ∧ a13 < 4294967296) (a14 a15 : Int) (a16 a17 a18 : Bool) (a19 a20 : Int) : ∃ e, proc_Check.f a0 a1 a2 a3 a4 a5 a6 a7 (p : Int) (b : Int) a10 a11 a12 a13 a14 a15 a16 a17 a18 a19 a20 = some e ∧ (e = none ↔ okP a0 a1 a2 a5 a7 p b a10 a11 a12 a13 a14 a15 a16 a17 a18 a19 a20) := by
  obtain ⟨e1, h1⟩ := path_total a2
  obtain ⟨e2, h2⟩ := fds_total a7
  obtain ⟨e3, h3⟩ := trace_total a11 a12 hv a14 a15 a16
  unfold okP
  rw [h1, h2, h3]
  unfold proc_Check.f
  rw [pids_eq, cred_eq, h1, regs_eq, h2, Check_eq hb, h3]
  simp only [bind_go]
  have no : ∀ {P : Prop}, ¬ P → ∃ e : Option Int, some (some (22 : Int)) = some e ∧ (e = none ↔ P) := fun h => ⟨_, rfl, by simp [h]⟩
  have yes : ∀ {P : Prop}, P → ∃ e : Option Int, some (none : Option Int) = some e ∧ (e = none ↔ P) := fun h => ⟨_, rfl, by simp [h]⟩
  by_cases c1 : 1 ≤ a0 ∧ a0 ≤ 99
  case neg =>
    rw [if_neg c1, if_neg (by simp)]
    repeat' split
    all_goals exact no (fun h => c1 h.1)
  rw [if_pos c1, if_pos rfl]
  by_cases c2 : 0 ≤ a1 ∧ a1 ≤ 65535
  case neg =>
    rw [if_neg c2, if_neg (by simp)]
    repeat' split
    all_goals exact no (fun h => c2 h.2.1)
  rw [if_pos c2, if_pos rfl]
  by_cases c3 : a5 < 32
  case neg =>
    rw [if_neg c3, if_neg (by simp)]
    repeat' split
    all_goals exact no (fun h => c3 h.2.2.2.1)
  rw [if_pos c3, if_pos rfl]
  by_cases c4 : e2 = none
  case neg =>
    rw [if_neg c4]
    repeat' split
    all_goals exact no (fun h => c4 (Option.some.inj h.2.2.2.2.1))
  rw [if_pos c4]
  by_cases c5 : may p b a10
  case neg =>
    rw [if_neg c5, if_neg (by simp)]
    repeat' split
    all_goals exact no (fun h => c5 h.2.2.2.2.2.1)
  rw [if_pos c5, if_pos rfl]
  by_cases c6 : e1 = none
  case neg =>
    repeat' split
    all_goals first
      | exact no (fun h => c6 (Option.some.inj h.2.2.1))
      | exact absurd c6 (by assumption)
  by_cases c7 : e3 = none
  case neg =>
    repeat' split
    all_goals first
      | exact no (fun h => c7 (Option.some.inj h.2.2.2.2.2.2.1))
      | exact absurd c7 (by assumption)
  subst c4 c6 c7
  repeat' split
  all_goals first
    | (refine no fun h => ?_; have g1 := h.2.2.2.2.2.2.2.1; have g2 := h.2.2.2.2.2.2.2.2.1; omega)
    | exact absurd rfl (by assumption)
    | (refine yes ⟨c1, c2, rfl, c3, rfl, c5, rfl, by omega, by omega, ?_⟩; simp_all; done)
    | (refine no fun h => ?_; have g3 := h.2.2.2.2.2.2.2.2.2; simp_all; done)
    | simp_all

theorem sure_eq : halterlaw33_sure.f = some true := by kernel_rfl
theorem Child_eq {a0 a1 : Int} {a2 : ByteArray} {a3 : List Int} {a4 a5 : Int} {a6 a7 : List Int} {a8 a9 : Int} {a10 : List Int} {a11 : Int} {a12 : Bool} {a13 a14 a15 : Int} {a16 a17 a18 : Bool} {a19 a20 : Int} (hC : proc_Check.f a0 a1 a2 a3 a4 a5 a6 a7 a8 a9 a10 a11 a12 a13 a14 a15 a16 a17 a18 a19 a20 = some none) {n : Int} (hn : 1 ≤ n ∧ n ≤ 99) :
    proc_Child.f a0 a1 a2 a3 a4 a5 a6 a7 a8 a9 a10 a11 a12 a13 a14 a15 a16 a17 a18 a19 a20 n = some (n, a1, a2, List.set a3 0 0, a4, a5, a6, a7, 0, a9, a10, 0, false, 0, 0, 0, false, false, false, 0, a20, none) := by
  unfold proc_Child.f
  rw [hC, bind_go, if_neg (by simp), pids_eq, bind_go, if_pos hn, if_neg (by simp)]
  rfl
theorem PPost_eq {a0 a1 : Int} {a2 : ByteArray} {a3 : List Int} {a4 a5 : Int} {a6 a7 : List Int} {p b : Nat} (hb : b < 4294967296) {a10 : List Int} {a11 : Int} {a12 : Bool} {a13 a14 a15 : Int} {a16 a17 a18 : Bool} {a19 a20 : Int} (hC : proc_Check.f a0 a1 a2 a3 a4 a5 a6 a7 (p : Int) (b : Int) a10 a11 a12 a13 a14 a15 a16 a17 a18 a19 a20 = some none) (hm : may p b a10) {k : Nat} (hk : k < 31) :
    proc_Post.f a0 a1 a2 a3 a4 a5 a6 a7 (p : Int) (b : Int) a10 a11 a12 a13 a14 a15 a16 a17 a18 a19 a20 ((k + 1 : Nat) : Int) = some (a0, a1, a2, a3, a4, a5, a6, a7, (postS p b a10 k : Int), (b : Int), a10, a11, a12, a13, a14, a15, a16, (a17 && !decide (k = 17 ∨ k = 8)), (a18 && !decide (k = 17 ∨ k = 8)), a19, a20, none) := by
  unfold proc_Post.f
  rw [hC, bind_go, if_neg (by simp), Post_eq hb a10 hk, bind_go, if_pos hm]
  dsimp only
  rw [if_neg (by simp)]
  by_cases h1 : k = 17
  · subst h1; rw [if_pos (by omega)]; simp
  · rw [if_neg (by omega)]
    by_cases h2 : k = 8
    · subst h2; rw [if_pos (by omega)]; simp
    · rw [if_neg (by omega)]; simp [h1, h2]
theorem pick (n : Int) (m : Int) (hm : 0 < m ∧ m < 1000) : 1 ≤ IntKind.wrap .i64 (1 + IntKind.wrap .i64 (Int.tmod (IntKind.wrap .u64 n) m)) ∧ IntKind.wrap .i64 (1 + IntKind.wrap .i64 (Int.tmod (IntKind.wrap .u64 n) m)) ≤ m := by
  rw [wu64, Int.tmod_eq_emod_of_nonneg (by omega)]
  have h1 := Int.emod_nonneg (n % 18446744073709551616) (show m ≠ 0 by omega)
  have h2 := Int.emod_lt_of_pos (n % 18446744073709551616) hm.1
  generalize n % 18446744073709551616 % m = x at *
  rw [wi64 (x := x) (by omega) (by omega), wi64 (x := 1 + x) (by omega) (by omega)]
  omega
theorem give_eq {a0 a1 : Int} {a2 : ByteArray} {a3 : List Int} {a4 a5 : Int} {a6 a7 : List Int} {a8 a9 : Int} {a10 : List Int} {a11 : Int} {a12 : Bool} {a13 a14 a15 : Int} {a16 a17 a18 : Bool} {a19 a20 : Int} : halterlaw33_giveProc.f a0 a1 a2 a3 a4 a5 a6 a7 a8 a9 a10 a11 a12 a13 a14 a15 a16 a17 a18 a19 a20 = some (a0, a1, a2, a3, a4, a5, a6, a7, a8, a9, a10, a11, a12, a13, a14, a15, a16, a17, a18, a19, a20) := rfl

theorem set_back {l : List Int} (h : l.length = 16) (v : Int) : (l.set 0 v).set 0 (l.getD 0 0) = l := by
  cases l with
  | nil => cases h
  | cons a t => rfl
theorem get_set {l : List Int} (h : l.length = 16) (v : Int) : (l.set 0 v).getD 0 0 = v := by
  cases l with
  | nil => cases h
  | cons a t => rfl
set_option maxHeartbeats 4000000 in
theorem ProcLetters (a0 : Int) (a1 : Int) (a2 : ByteArray) (a3 : (List Int)) (a4 : Int) (a5 : Int) (a6 : (List Int)) (a7 : (List Int)) (a8 : Int) (a9 : Int) (a10 : (List Int)) (a11 : Int) (a12 : Bool) (a13 : Int) (a14 : Int) (a15 : Int) (a16 : Bool) (a17 : Bool) (a18 : Bool) (a19 : Int) (a20 : Int) (a21 : Int) (a22 : Int) (h0 : (Lit.int .i64 a0).wf = true) (h1 : (Lit.int .i64 a1).wf = true) (h2 : ByteArray.size a2 ≤ maxLen) (h3 : List.length a3 = 16) (h4 : ∀ z ∈ a3, (Lit.int .u32 z).wf = true) (h5 : (Lit.int .u32 a4).wf = true) (h6 : (Lit.int .u32 a5).wf = true) (h7 : List.length a6 = 4) (h8 : ∀ z ∈ a6, (Lit.int .u64 z).wf = true) (h9 : List.length a7 = 8) (h10 : ∀ z ∈ a7, (Lit.int .i64 z).wf = true) (h11 : (Lit.int .u32 a8).wf = true) (h12 : (Lit.int .u32 a9).wf = true) (h13 : List.length a10 = 32) (h14 : ∀ z ∈ a10, (Lit.int .u32 z).wf = true) (h15 : (Lit.int .i64 a11).wf = true) (h16 : (Lit.int .u32 a13).wf = true) (h17 : (Lit.int .i64 a14).wf = true) (h18 : (Lit.int .i64 a15).wf = true) (h19 : (Lit.int .i64 a19).wf = true) (h20 : (Lit.int .i64 a20).wf = true) (h21 : (Lit.int .i64 a21).wf = true) (h22 : (Lit.int .u32 a22).wf = true) : halterlaw33_ProcLetters.f a0 a1 a2 a3 a4 a5 a6 a7 a8 a9 a10 a11 a12 a13 a14 a15 a16 a17 a18 a19 a20 a21 a22 = some true := by
  obtain ⟨p, rfl⟩ := Int.eq_ofNat_of_zero_le (u32_bd h11).1
  obtain ⟨b, rfl⟩ := Int.eq_ofNat_of_zero_le (u32_bd h12).1
  have hb : b < 4294967296 := by have := (u32_bd h12).2; omega
  have hv := u32_bd h16
  obtain ⟨e, hC, he⟩ := PCheck_eq a0 a1 a2 a3 a4 a5 a6 a7 p hb a10 a11 a12 hv a14 a15 a16 a17 a18 a19 a20
  have hq2 := pick a21 31 (by omega)
  unfold halterlaw33_ProcLetters.f
  generalize IntKind.wrap .i64 (1 + IntKind.wrap .i64 (Int.tmod (IntKind.wrap .u64 a21) 31)) = q2 at *
  obtain ⟨k, rfl⟩ : ∃ k : Nat, q2 = ((k + 1 : Nat) : Int) := ⟨(q2 - 1).toNat, by omega⟩
  have hk : k < 31 := by omega
  have key : ∀ (X : Option Bool), X = (if ¬ (e = none) then some true else (proc_Post.f a0 a1 a2 a3 a4 a5 a6 a7 (p : Int) (b : Int) a10 a11 a12 a13 a14 a15 a16 a17 a18 a19 a20 ((k + 1 : Nat) : Int)).bind fun t15 =>
      if t15.2.2.2.2.2.2.2.2.2.2.2.2.2.2.2.2.2.2.2.2.2 = none then
        if a17 = true then
          if ¬ ((k + 1 : Nat) : Int) = (18 : Int) then
            if t15.2.2.2.2.2.2.2.2.2.2.2.2.2.2.2.2.2.1 = (((k + 1 : Nat) : Int) != (9 : Int)) then some true else some false
          else if t15.2.2.2.2.2.2.2.2.2.2.2.2.2.2.2.2.2.1 = false then some true else some false
        else if t15.2.2.2.2.2.2.2.2.2.2.2.2.2.2.2.2.2.1 = false then some true else some false
      else some false) → X = some true := by
    intro X hX
    rw [hX]
    by_cases hn : e = none
    case neg => rw [if_pos hn]
    subst hn
    obtain ⟨c1, c2, c3, c4, c5, c6, c7, c8, c9, c10⟩ := he.1 rfl
    rw [if_neg (by simp), PPost_eq hb hC c6 hk, bind_go]
    dsimp only
    rw [if_pos rfl]
    cases a17 with
    | false => rw [if_neg (by simp), if_pos (by simp)]
    | true =>
      rw [if_pos rfl]
      by_cases h1 : k = 17
      · subst h1
        rw [if_neg (by omega), if_pos (by simp)]
      · rw [if_pos (by omega)]
        by_cases h2 : k = 8
        · subst h2
          rw [if_pos (by simp)]
        · rw [if_pos]
          have : ¬ ((k + 1 : Nat) : Int) = 9 := by omega
          rw [decide_eq_false (by omega), bne_iff_ne.2 this]
          rfl
  refine key _ ?_
  clear key
  by_cases hn : e = none
  case neg =>
    rw [if_pos hn]
    simp only [give_eq, bind_go, proc_Letter.f, proc_Runs.f, proc_Answer.f, set_back h3, get_set h3, hC, sure_eq, if_pos hn]
    cases a12 <;> cases a17 <;> by_cases h0 : a19 = 0 <;> simp [h0]
  case pos =>
    obtain ⟨c1, c2, c3, c4, c5, c6, c7, c8, c9, c10⟩ := he.1 hn
    subst hn
    rw [if_neg (by simp)]
    simp only [give_eq, bind_go, proc_Letter.f, proc_Runs.f, proc_Answer.f, set_back h3, get_set h3, hC, sure_eq, PPost_eq hb hC c6 hk]
    cases a12 <;> cases a17 <;> by_cases h0 : a19 = 0 <;> simp [h0]

end Go.Proofs.YtbnlochgbhcfnaaDoor.Pure
