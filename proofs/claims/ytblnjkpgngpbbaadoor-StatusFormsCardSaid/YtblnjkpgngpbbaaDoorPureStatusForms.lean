/- The plain law: what the law computes is true, whatever it is handed. -/
import Derived.Test.YtblnjkpgngpbbaaDoorGStatusForms
import Derived.Test.YtblnjkpgngpbbaaDoorE16
import Derived.Laws.BitsAllLaws
set_option linter.unusedVariables false
set_option linter.unusedSimpArgs false
set_option linter.unnecessarySimpa false
namespace Go.Proofs.YtblnjkpgngpbbaaDoor.Pure
open Go Go.Proofs.YtblnjkpgngpbbaaDoorE Go.Proofs.YtblnjkpgngpbbaaDoorGStatusForms
theorem wu8 (x : Int) : IntKind.wrap .u8 x = x % 256 := by simp [IntKind.wrap, IntKind.bits, IntKind.signed]
theorem wu16 (x : Int) : IntKind.wrap .u16 x = x % 65536 := by simp [IntKind.wrap, IntKind.bits, IntKind.signed]
theorem wu32 (x : Int) : IntKind.wrap .u32 x = x % 4294967296 := by simp [IntKind.wrap, IntKind.bits, IntKind.signed]
theorem wu64 (x : Int) : IntKind.wrap .u64 x = x % 18446744073709551616 := by simp [IntKind.wrap, IntKind.bits, IntKind.signed]
theorem wi64 {x : Int} (h : -9223372036854775808 ≤ x) (h' : x ≤ 9223372036854775807) : IntKind.wrap .i64 x = x := by
  simp [IntKind.wrap, IntKind.bits, IntKind.signed]
  omega
theorem wu8_id {x : Int} (h : 0 ≤ x ∧ x < 256) : IntKind.wrap .u8 x = x := by rw [wu8]; omega
theorem wu32_id {x : Int} (h : 0 ≤ x ∧ x < 4294967296) : IntKind.wrap .u32 x = x := by rw [wu32]; omega
theorem wu64_id {x : Int} (h : 0 ≤ x ∧ x < 18446744073709551616) : IntKind.wrap .u64 x = x := by rw [wu64]; omega
theorem wsucc {i : Nat} (h : i < 9223372036854775807) : IntKind.wrap .i64 ((i : Int) + 1) = ((i + 1 : Nat) : Int) := by rw [wi64 (by omega) (by omega)]; omega
theorem u8_bd {a : Int} (h : (Lit.int .u8 a).wf = true) : 0 ≤ a ∧ a < 256 := by
  simpa [Lit.wf, IntKind.min, IntKind.max, IntKind.signed, IntKind.bits, ← Int.lt_add_one_iff] using h
theorem u32_bd {a : Int} (h : (Lit.int .u32 a).wf = true) : 0 ≤ a ∧ a < 4294967296 := by
  simpa [Lit.wf, IntKind.min, IntKind.max, IntKind.signed, IntKind.bits, ← Int.lt_add_one_iff] using h
theorem u64_bd {a : Int} (h : (Lit.int .u64 a).wf = true) : 0 ≤ a ∧ a < 18446744073709551616 := by
  simpa [Lit.wf, IntKind.min, IntKind.max, IntKind.signed, IntKind.bits, ← Int.lt_add_one_iff] using h
theorem i64_bd {a : Int} (h : (Lit.int .i64 a).wf = true) : -9223372036854775808 ≤ a ∧ a < 9223372036854775808 := by
  simpa [Lit.wf, IntKind.min, IntKind.max, IntKind.signed, IntKind.bits, ← Int.lt_add_one_iff] using h
theorem fuel_gt {n : Nat} (h : n < 18446744073709551616) : n < FUEL := h
theorem bind_go {α β : Type} (a : α) (f : α → Option β) : (some a).bind f = f a := by rw [Option.bind_some]
theorem drop_getD {α : Type} (l : List α) (i : Nat) (d : α) (h : i < l.length) : l.drop i = l.getD i d :: l.drop (i + 1) := by
  rw [List.drop_eq_getElem_cons h, List.getD_eq_getElem?_getD, List.getElem?_eq_getElem h, Option.getD_some]
theorem getD_mem {α : Type} (l : List α) (i : Nat) (d : α) (h : i < l.length) : l.getD i d ∈ l := by
  rw [List.getD_eq_getElem?_getD, List.getElem?_eq_getElem h, Option.getD_some]; exact List.getElem_mem _
theorem toNat_nat (i : Nat) : Int.toNat (i : Int) = i := rfl
/-- A number behind another one: a round of a loop. -/
theorem fuel_step {d n : Nat} (h : d < n) : ∃ m, n = m + 1 := ⟨n - 1, by omega⟩
/-- Where something stands first. -/
def first (v : Int) : List Int → Option Nat
  | [] => none
  | x :: xs => if x = v then some 0 else (first v xs).map (· + 1)
theorem first_none {v : Int} : ∀ {l : List Int}, first v l = none → ∀ z ∈ l, z ≠ v
  | [], _, z, hz => by cases hz
  | x :: xs, h, z, hz => by
    unfold first at h
    split at h
    · cases h
    · rename_i hx
      rcases List.mem_cons.1 hz with rfl | hz
      · exact hx
      · exact first_none (by simpa using h) z hz
theorem first_some {v : Int} : ∀ {l : List Int} {k : Nat}, first v l = some k → k < l.length ∧ l.getD k 0 = v ∧ ∀ j, j < k → l.getD j 0 ≠ v
  | [], _, h => by cases h
  | x :: xs, k, h => by
    unfold first at h
    split at h
    · cases h
      rename_i hx
      exact ⟨by simp, by simpa using hx, fun j hj => by omega⟩
    · rename_i hx
      cases hf : first v xs with
      | none => simp [hf] at h
      | some m =>
        simp [hf] at h
        subst h
        obtain ⟨h1, h2, h3⟩ := first_some hf
        refine ⟨by simp; omega, by simpa using h2, fun j hj => ?_⟩
        cases j with
        | zero => simpa using hx
        | succ j => simpa using h3 j (by omega)

theorem ofInt_i64 (a : Nat) (ha : a < 18446744073709551616) : (BitVec.ofInt 64 (a : Int)).toNat = a := by
  rw [BitVec.ofInt_natCast, BitVec.toNat_ofNat]; exact Nat.mod_eq_of_lt (by omega)
theorem i64_and (a b : Nat) (ha : a < 9223372036854775808) (hb : b < 9223372036854775808) : bits .and .i64 (a : Int) (b : Int) = ((a &&& b : Nat) : Int) := by
  have hx : a &&& b < 2 ^ 63 := Nat.and_lt_two_pow _ (by omega)
  show IntKind.i64.wrap ((BitVec.ofInt 64 (a : Int) &&& BitVec.ofInt 64 (b : Int)).toNat : Int) = _
  rw [BitVec.toNat_and, ofInt_i64 a (by omega), ofInt_i64 b (by omega), wi64 (by omega) (by omega)]
theorem i64_or (a b : Nat) (ha : a < 9223372036854775808) (hb : b < 9223372036854775808) : bits .or .i64 (a : Int) (b : Int) = ((a ||| b : Nat) : Int) := by
  have hx : a ||| b < 2 ^ 63 := Nat.or_lt_two_pow (by omega) (by omega)
  show IntKind.i64.wrap ((BitVec.ofInt 64 (a : Int) ||| BitVec.ofInt 64 (b : Int)).toNat : Int) = _
  rw [BitVec.toNat_or, ofInt_i64 a (by omega), ofInt_i64 b (by omega), wi64 (by omega) (by omega)]
theorem i64_andNot (a b : Nat) (ha : a < 9223372036854775808) (hb : b < 9223372036854775808) : bits .andNot .i64 (a : Int) (b : Int) = ((a &&& (18446744073709551615 - b) : Nat) : Int) := by
  have hx : a &&& (18446744073709551615 - b) < 2 ^ 63 := Nat.lt_of_le_of_lt Nat.and_le_left (by omega)
  show IntKind.i64.wrap ((BitVec.ofInt 64 (a : Int) &&& ~~~BitVec.ofInt 64 (b : Int)).toNat : Int) = _
  rw [BitVec.toNat_and, BitVec.toNat_not, ofInt_i64 a (by omega), ofInt_i64 b (by omega)]
  have e : 2 ^ 64 - 1 - b = 18446744073709551615 - b := by omega
  rw [e, wi64 (by omega) (by omega)]
/-- A bit taken away. -/
theorem nat_unbit (i x w : Nat) (hi : i < w) (hx : x < 2 ^ w) : x &&& (2 ^ w - 1 - 2 ^ i) = x - x / 2 ^ i % 2 * 2 ^ i := by
  have hp : (2 : Nat) ^ (i + 1) = 2 * 2 ^ i := by rw [Nat.pow_succ]; omega
  have e : x - x / 2 ^ i % 2 * 2 ^ i = 2 ^ (i + 1) * (x / 2 ^ (i + 1)) + x % 2 ^ i := by
    have h1 := Nat.div_add_mod x (2 ^ i)
    have h2 := Nat.div_add_mod (x / 2 ^ i) 2
    have h3 : x / 2 ^ (i + 1) = x / 2 ^ i / 2 := by rw [Nat.pow_succ, Nat.div_div_eq_div_mul]
    rw [h3, hp]
    generalize x / 2 ^ i = q at *
    generalize x % 2 ^ i = r at *
    generalize 2 ^ i = P at *
    have h4 : 2 * P * (q / 2) = P * (2 * (q / 2)) := by rw [Nat.mul_comm 2 P, Nat.mul_assoc]
    have h5 : P * q = P * (2 * (q / 2)) + P * (q % 2) := by rw [← Nat.mul_add, h2]
    rw [h4, Nat.mul_comm (q % 2) P]
    omega
  have hr : x % 2 ^ i < 2 ^ (i + 1) := by
    have := Nat.mod_lt x (Nat.two_pow_pos i)
    omega
  rw [e]
  apply Nat.eq_of_testBit_eq
  intro j
  rw [Nat.sub_sub, Nat.add_comm 1 (2 ^ i), Nat.testBit_and, Nat.testBit_two_pow_sub_succ (Nat.pow_lt_pow_right (by omega) hi), Nat.testBit_two_pow, Nat.testBit_two_pow_mul_add _ hr]
  by_cases hj : j < i + 1
  · rw [if_pos hj, Nat.testBit_mod_two_pow]
    by_cases h2 : j = i
    · subst h2; simp
    · have h3 : j < i := by omega
      have h4 : j < w := by omega
      simp [h3, h4, Ne.symm h2]
  · rw [if_neg hj, Nat.testBit_div_two_pow, show j - (i + 1) + (i + 1) = j by omega]
    have h2 : ¬ i = j := by omega
    by_cases hw : j < w
    · simp [hw, h2]
    · have : x.testBit j = false := Nat.testBit_lt_two_pow (Nat.lt_of_lt_of_le hx (Nat.pow_le_pow_right (by omega) (by omega)))
      simp [this]

/-- What a kind and a number are told as. -/
def enc (k n : Int) : Option Int :=
  if k = 0 ∧ 0 ≤ n ∧ n < 256 then some (256 * n) else if 1 ≤ n ∧ n ≤ 31 then (if k = 1 then some n else if k = 2 then some (256 * n + 127) else if k = 3 then some (256 * (n + 128) + 127) else none) else none
theorem signal_eq (n : Int) : status_signal.f n = some (decide (1 ≤ n ∧ n ≤ 31)) := by
  unfold status_signal.f
  by_cases h : n ≥ 1
  · rw [if_pos h]; congr 1; exact decide_eq_decide.2 ⟨fun h2 => ⟨h, h2⟩, fun h2 => h2.2⟩
  · rw [if_neg h]; congr 1; simp; omega
theorem shl8 {n : Int} (h : 0 ≤ n ∧ n < 256) : shl .u32 (IntKind.wrap .u32 n) 8 = 256 * n := by
  simp only [shl, wu32, IntKind.bits]
  have : min (Int.toNat 8) 32 = 8 := by decide
  rw [this]
  simp
  omega
theorem or127 {n : Int} (h : 0 ≤ n ∧ n < 256) : bits .or .u32 (256 * n) 127 = 256 * n + 127 := by
  obtain ⟨a, rfl⟩ := Int.eq_ofNat_of_zero_le h.1
  rw [show (256 * (a : Int)) = ((256 * a : Nat) : Int) by omega, show (127 : Int) = ((127 : Nat) : Int) from rfl, u32_or_nat _ _ (by omega) (by omega), nat_join 8 (256 * a) 127 (by omega) (by omega)]
  omega
theorem or128 {n : Int} (h : 0 ≤ n ∧ n < 128) : bits .or .i64 n 128 = n + 128 := by
  obtain ⟨a, rfl⟩ := Int.eq_ofNat_of_zero_le h.1
  rw [show (128 : Int) = ((128 : Nat) : Int) from rfl, i64_or _ _ (by omega) (by omega), Nat.or_comm, nat_join 7 128 a (by omega) (by omega)]
  omega
theorem and128 {n : Int} (h : 0 ≤ n ∧ n < 16777216) : bits .and .i64 n 128 = n / 128 % 2 * 128 := by
  obtain ⟨a, rfl⟩ := Int.eq_ofNat_of_zero_le h.1
  rw [show bits .and .i64 (a : Int) 128 = bits .and .i64 (a : Int) ((128 : Nat) : Int) from rfl, i64_and _ _ (by omega) (by omega), show (128 : Nat) = 2 ^ 7 from rfl, nat_bit 7 a]
  omega
theorem andNot128 {n : Int} (h : 0 ≤ n ∧ n < 16777216) : bits .andNot .i64 n 128 = n - n / 128 % 2 * 128 := by
  obtain ⟨a, rfl⟩ := Int.eq_ofNat_of_zero_le h.1
  rw [show bits .andNot .i64 (a : Int) 128 = bits .andNot .i64 (a : Int) ((128 : Nat) : Int) from rfl, i64_andNot _ _ (by omega) (by omega)]
  have := nat_unbit 7 a 64 (by omega) (by omega)
  rw [show (18446744073709551615 - 128 : Nat) = 2 ^ 64 - 1 - 2 ^ 7 from rfl, this]
  have : (2 : Nat) ^ 7 = 128 := rfl
  rw [this]
  omega
theorem Of_eq (k n : Int) : status_Of.f k n = some (match enc k n with | some v => (v, none) | none => (0, some 22)) := by
  unfold status_Of.f enc
  simp only [signal_eq, bind_go, decide_eq_true_eq]
  by_cases hs : 1 ≤ n ∧ n ≤ 31
  · have e1 : shl .u32 (IntKind.wrap .u32 n) 8 = 256 * n := shl8 ⟨by omega, by omega⟩
    have e2 : bits .or .u32 (256 * n) 127 = 256 * n + 127 := or127 ⟨by omega, by omega⟩
    have e3 : bits .or .i64 n 128 = n + 128 := or128 ⟨by omega, by omega⟩
    have e4 : shl .u32 (IntKind.wrap .u32 (n + 128)) 8 = 256 * (n + 128) := shl8 ⟨by omega, by omega⟩
    have e5 : bits .or .u32 (256 * (n + 128)) 127 = 256 * (n + 128) + 127 := or127 ⟨by omega, by omega⟩
    have e6 : IntKind.wrap .u32 n = n := wu32_id ⟨by omega, by omega⟩
    have g1 : n ≥ 0 := by omega
    have g2 : n < 256 := by omega
    rw [e1, e2, e3, e4, e5, e6]
    simp only [hs, g1, g2, if_true, and_self, and_true]
    clear e1 e2 e3 e4 e5 e6
    by_cases k0 : k = 0
    · rw [if_pos k0, if_pos k0]
    rw [if_neg k0, if_neg k0]
    by_cases k1 : k = 1
    · rw [if_pos k1, if_pos k1]
    rw [if_neg k1, if_neg k1]
    by_cases k2 : k = 2
    · rw [if_pos k2, if_pos k2]
    rw [if_neg k2, if_neg k2]
    by_cases k3 : k = 3
    · rw [if_pos k3, if_pos k3]
    rw [if_neg k3, if_neg k3]
  · simp only [hs, if_false]
    by_cases h2 : k = 0 ∧ 0 ≤ n ∧ n < 256
    · rw [if_pos h2, if_pos h2.1, if_pos (by omega), if_pos (by omega), shl8 ⟨by omega, by omega⟩]
    · rw [if_neg h2]
      dsimp only
      by_cases k0 : k = 0
      · rw [if_pos k0]
        by_cases h3 : n ≥ 0
        · rw [if_pos h3, if_neg (by omega)]
          repeat' split
          all_goals rfl
        · rw [if_neg h3]
          repeat' split
          all_goals rfl
      · rw [if_neg k0]
        repeat' split
        all_goals rfl
/-- What a number tells. -/
def dec (v : Int) : Option (Int × Int) :=
  if v % 256 = 0 then (if v / 256 < 256 then some (0, v / 256) else none)
  else if 1 ≤ v ∧ v ≤ 31 then some (1, v)
  else if v % 256 = 127 ∧ 1 ≤ v / 256 ∧ v / 256 ≤ 31 then some (2, v / 256)
  else if v % 256 = 127 ∧ 129 ≤ v / 256 ∧ v / 256 ≤ 159 then some (3, v / 256 - 128) else none
theorem enc_iff (k n v : Int) (hv : 0 ≤ v ∧ v < 4294967296) : enc k n = some v ↔ dec v = some (k, n) := by
  unfold enc dec
  constructor
  · intro h
    split at h
    · rename_i h1
      obtain ⟨rfl, h2, h3⟩ := h1
      cases h
      rw [if_pos (by omega), if_pos (by omega)]
      congr 2; omega
    · split at h
      · rename_i h2
        split at h
        · rename_i h3; subst h3; cases h
          rw [if_neg (by omega), if_pos (by omega)]
        · split at h
          · rename_i h3; subst h3; cases h
            rw [if_neg (by omega), if_neg (by omega), if_pos (by omega)]
            congr 2; omega
          · split at h
            · rename_i h3; subst h3; cases h
              rw [if_neg (by omega), if_neg (by omega), if_neg (by omega), if_pos (by omega)]
              congr 2; omega
            · cases h
      · cases h
  · intro h
    split at h
    · rename_i h1
      split at h
      · cases h
        rw [if_pos ⟨rfl, by omega, by omega⟩]; congr 1; omega
      · cases h
    · rename_i h0
      split at h
      · cases h
        rw [if_neg (by omega), if_pos (by omega), if_pos rfl]
      · split at h
        · cases h
          rw [if_neg (by omega), if_pos (by omega), if_neg (by omega), if_pos rfl]; congr 1; omega
        · split at h
          · cases h
            rw [if_neg (by omega), if_pos (by omega), if_neg (by omega), if_neg (by omega), if_pos rfl]; congr 1; omega
          · cases h
def what (v : Int) : Int × Int × Option Int := match dec v with | some p => (p.1, p.2, none) | none => (0, 0, some 22)
theorem What_eq {v : Int} (hv : 0 ≤ v ∧ v < 4294967296) : status_What.f v = some (what v) := by
  have e1 : Int.tmod v 256 = v % 256 := Int.tmod_eq_emod_of_nonneg hv.1
  have e2 : shr .u32 v 8 = v / 256 := by simp [shr, IntKind.bits]
  have e3 : IntKind.wrap .i64 (v / 256) = v / 256 := wi64 (by omega) (by omega)
  have e4 : IntKind.wrap .i64 v = v := wi64 (by omega) (by omega)
  have e5 := and128 (n := v / 256) ⟨by omega, by omega⟩
  have e6 := andNot128 (n := v / 256) ⟨by omega, by omega⟩
  have key : ∀ k n, status_kind.f v = some (k, n) → (∀ k' n', dec v = some (k', n') → k' = k ∧ n' = n) → status_What.f v = some (what v) := by
    intro k n hk hd
    unfold status_What.f
    rw [hk, bind_go, Of_eq, bind_go]
    cases he : enc k n with
    | none =>
      dsimp only
      rw [if_pos (by simp)]
      unfold what
      cases hdv : dec v with
      | none => rfl
      | some p =>
        obtain ⟨k', n'⟩ := p
        obtain ⟨rfl, rfl⟩ := hd k' n' hdv
        rw [(enc_iff k' n' v hv).2 hdv] at he
        cases he
    | some w =>
      dsimp only
      rw [if_neg (by simp)]
      by_cases hw : w = v
      · rw [if_neg (by simpa using hw)]
        subst hw
        have := (enc_iff k n w hv).1 he
        unfold what
        rw [this]
      · rw [if_pos hw]
        unfold what
        cases hdv : dec v with
        | none => rfl
        | some p =>
          obtain ⟨k', n'⟩ := p
          obtain ⟨rfl, rfl⟩ := hd k' n' hdv
          rw [(enc_iff k' n' v hv).2 hdv] at he
          cases he
          exact absurd rfl hw
  by_cases h0 : v % 256 = 0
  · refine key 0 (v / 256) (by unfold status_kind.f; rw [e1, if_pos h0, e2, e3]) fun k' n' h => ?_
    unfold dec at h
    rw [if_pos h0] at h
    split at h <;> cases h
    exact ⟨rfl, rfl⟩
  by_cases h1 : v % 256 = 127
  · by_cases h2 : v / 256 / 128 % 2 = 1
    · refine key 3 (v / 256 - 128) (by unfold status_kind.f; rw [e1, if_neg h0, if_neg (by simpa using h1), e2, e3, e5, if_pos (by omega), e6, h2]; rfl) fun k' n' h => ?_
      unfold dec at h
      rw [if_neg h0, if_neg (by omega), if_neg (by omega)] at h
      split at h <;> cases h
      exact ⟨rfl, rfl⟩
    · refine key 2 (v / 256) (by unfold status_kind.f; rw [e1, if_neg h0, if_neg (by simpa using h1), e2, e3, e5, if_neg (by omega)]) fun k' n' h => ?_
      unfold dec at h
      rw [if_neg h0, if_neg (by omega)] at h
      split at h
      · cases h; exact ⟨rfl, rfl⟩
      · split at h
        · omega
        · cases h
  · refine key 1 v (by unfold status_kind.f; rw [e1, if_neg h0, if_pos h1, e4]) fun k' n' h => ?_
    unfold dec at h
    rw [if_neg h0] at h
    split at h
    · cases h; exact ⟨rfl, rfl⟩
    · rw [if_neg (by omega), if_neg (by omega)] at h
      cases h

theorem rOf_eq {k n : Int} (hn : 0 ≤ n ∧ n < 256 ∨ (Lit.int .i64 n).wf = true) : halterref26_Of.f k n = some (match enc k n with | some v => (v, 0) | none => (0, 22)) := by
  unfold halterref26_Of.f enc
  by_cases hs : 1 ≤ n ∧ n ≤ 31
  · have e1 : IntKind.wrap .i64 (256 * n) = 256 * n := wi64 (by omega) (by omega)
    have e2 : IntKind.wrap .u32 (256 * n) = 256 * n := wu32_id ⟨by omega, by omega⟩
    have e3 : IntKind.wrap .i64 (256 * n + 127) = 256 * n + 127 := wi64 (by omega) (by omega)
    have e4 : IntKind.wrap .u32 (256 * n + 127) = 256 * n + 127 := wu32_id ⟨by omega, by omega⟩
    have e5 : IntKind.wrap .i64 (n + 128) = n + 128 := wi64 (by omega) (by omega)
    have e6 : IntKind.wrap .i64 (256 * (n + 128)) = 256 * (n + 128) := wi64 (by omega) (by omega)
    have e7 : IntKind.wrap .i64 (256 * (n + 128) + 127) = 256 * (n + 128) + 127 := wi64 (by omega) (by omega)
    have e8 : IntKind.wrap .u32 (256 * (n + 128) + 127) = 256 * (n + 128) + 127 := wu32_id ⟨by omega, by omega⟩
    have e9 : IntKind.wrap .u32 n = n := wu32_id ⟨by omega, by omega⟩
    rw [e1, e2, e3, e4, e5, e6, e7, e8, e9]
    clear e1 e2 e3 e4 e5 e6 e7 e8 e9
    rw [if_pos (show n ≥ 0 by omega), if_pos (show n ≤ 255 by omega), if_neg (show ¬ n < 1 by omega), if_neg (show ¬ n > 31 by omega), if_pos hs]
    by_cases k0 : k = 0
    · rw [if_pos k0, if_pos ⟨k0, by omega, by omega⟩]
    by_cases k1 : k = 1
    · subst k1; simp
    by_cases k2 : k = 2
    · subst k2; simp
    by_cases k3 : k = 3
    · subst k3; simp
    by_cases h : k < 1
    · simp [k0, k1, k2, k3, h]
    · have h3 : k > 3 := by omega
      simp [k0, k1, k2, k3, h, h3]
  · rw [if_neg hs]
    by_cases h2 : k = 0 ∧ 0 ≤ n ∧ n < 256
    · rw [if_pos h2, if_pos h2.1, if_pos (by omega), if_pos (by omega)]
      have e1 : IntKind.wrap .i64 (256 * n) = 256 * n := wi64 (by omega) (by omega)
      have e2 : IntKind.wrap .u32 (256 * n) = 256 * n := wu32_id ⟨by omega, by omega⟩
      rw [e1, e2]
    · rw [if_neg h2]
      dsimp only
      have e : n < 1 ∨ n > 31 := by omega
      by_cases k0 : k = 0
      · rw [if_pos k0]
        by_cases h3 : n ≥ 0
        · rw [if_pos h3, if_neg (by omega), if_pos (by omega)]
        · rw [if_neg h3, if_pos (by omega)]
      · rw [if_neg k0]
        by_cases h3 : k < 1
        · rw [if_pos h3]
        · rw [if_neg h3]
          by_cases h4 : k > 3
          · rw [if_pos h4]
          · rw [if_neg h4]
            by_cases h5 : n < 1
            · rw [if_pos h5]
            · rw [if_neg h5, if_pos (by omega)]
theorem enc_pos {k n v : Int} (h : enc k n = some v) : 0 ≤ v ∧ v < 65536 := by
  unfold enc at h
  split at h
  · cases h; omega
  · split at h
    · split at h
      · cases h; omega
      · split at h
        · cases h; omega
        · split at h
          · cases h; omega
          · cases h
    · cases h

theorem rWhat_l1 {v : Int} (hv : 0 ≤ v ∧ v < 4294967296) (k : Int) : ∀ (d i n : Nat), 256 - i = d → i ≤ 256 → d < n →
    halterref26_What.l1 k v n i = some (match dec v with | some p => if p.1 = k ∧ (i : Int) ≤ p.2 then .inr p.2 else .inl () | none => .inl ()) := by
  intro d
  induction d with
  | zero =>
    intro i n hd hi hn
    obtain ⟨n, rfl⟩ := fuel_step hn
    rw [halterref26_What.l1, if_neg (by omega)]
    cases hdv : dec v with
    | none => rfl
    | some p =>
      have h := (enc_iff p.1 p.2 v hv).2 hdv
      have : p.2 < 256 := by
        unfold enc at h
        split at h
        · omega
        · split at h
          · omega
          · cases h
      dsimp only
      rw [if_neg (by omega)]
  | succ d ih =>
    intro i n hd hi hn
    obtain ⟨n, rfl⟩ := fuel_step hn
    rw [halterref26_What.l1, if_pos (by omega), rOf_eq (.inl ⟨by omega, by omega⟩), bind_go, wsucc (by omega), ih (i + 1) n (by omega) (by omega) (by omega)]
    have no : enc k i ≠ some v → (match dec v with | some p => if p.1 = k ∧ ((i + 1 : Nat) : Int) ≤ p.2 then Sum.inr p.2 else Sum.inl () | none => Sum.inl ()) = (match dec v with | some p => if p.1 = k ∧ (i : Int) ≤ p.2 then Sum.inr p.2 else Sum.inl () | none => (Sum.inl () : Unit ⊕ Int)) := by
      intro hne
      cases hdv : dec v with
      | none => rfl
      | some p =>
        obtain ⟨k', n'⟩ := p
        dsimp only
        by_cases hc : k' = k ∧ ((i + 1 : Nat) : Int) ≤ n'
        · rw [if_pos hc, if_pos ⟨hc.1, by omega⟩]
        · rw [if_neg hc, if_neg]
          rintro ⟨rfl, h2⟩
          have : n' = (i : Int) := by
            have : ¬ ((i + 1 : Nat) : Int) ≤ n' := fun h => hc ⟨rfl, h⟩
            omega
          subst this
          exact hne ((enc_iff _ _ v hv).2 hdv)
    cases he : enc k i with
    | none =>
      dsimp only
      rw [if_neg (by omega), no (by rw [he]; simp)]
    | some w =>
      dsimp only
      rw [if_pos rfl]
      by_cases hw : w = v
      · subst hw
        rw [if_pos rfl, (enc_iff _ _ w hv).1 he]
        dsimp only
        rw [if_pos ⟨rfl, Int.le_refl _⟩]
      · rw [if_neg hw, no (by rw [he]; simpa using hw)]
theorem dec_kind {v k n : Int} (h : dec v = some (k, n)) : (k = 0 ∨ k = 1 ∨ k = 2 ∨ k = 3) ∧ (0 ≤ v → 0 ≤ n) := by
  unfold dec at h
  split at h
  · split at h <;> cases h
    exact ⟨.inl rfl, fun _ => by omega⟩
  · split at h
    · cases h; exact ⟨.inr (.inl rfl), fun _ => by omega⟩
    · split at h
      · cases h; exact ⟨.inr (.inr (.inl rfl)), fun _ => by omega⟩
      · split at h <;> cases h
        exact ⟨.inr (.inr (.inr rfl)), fun _ => by omega⟩
theorem rWhat_l0 {v : Int} (hv : 0 ≤ v ∧ v < 4294967296) : ∀ (d i n : Nat), 4 - i = d → i ≤ 4 → d < n →
    halterref26_What.l0 v n i = some (match dec v with | some p => if (i : Int) ≤ p.1 then .inr p else .inl () | none => .inl ()) := by
  intro d
  induction d with
  | zero =>
    intro i n hd hi hn
    obtain ⟨n, rfl⟩ := fuel_step hn
    rw [halterref26_What.l0, if_neg (by omega)]
    cases hdv : dec v with
    | none => rfl
    | some p =>
      obtain ⟨k, m⟩ := p
      have := (dec_kind hdv).1
      dsimp only
      rw [if_neg (by omega)]
  | succ d ih =>
    intro i n hd hi hn
    obtain ⟨n, rfl⟩ := fuel_step hn
    have h1 := rWhat_l1 hv i 256 0 FUEL rfl (by omega) (fuel_gt (by omega))
    rw [show ((0 : Nat) : Int) = 0 from rfl] at h1
    rw [halterref26_What.l0, if_pos (by omega), h1, bind_go, wsucc (by omega), ih (i + 1) n (by omega) (by omega) (by omega)]
    cases hdv : dec v with
    | none => rfl
    | some p =>
      obtain ⟨k, m⟩ := p
      have h2 := dec_kind hdv
      dsimp only
      by_cases hk : k = (i : Int)
      · subst hk
        rw [if_pos ⟨rfl, h2.2 hv.1⟩]
        dsimp only
        rw [if_pos (Int.le_refl _)]
      · rw [if_neg (fun h => hk h.1)]
        dsimp only
        by_cases hc : ((i + 1 : Nat) : Int) ≤ k
        · rw [if_pos hc, if_pos (by omega)]
        · rw [if_neg hc, if_neg (by omega)]
theorem rWhat_eq {v : Int} (hv : 0 ≤ v ∧ v < 4294967296) : halterref26_What.f v = some ((what v).1, (what v).2.1, (what v).2.2.getD 0) := by
  unfold halterref26_What.f
  have := rWhat_l0 hv 4 0 FUEL rfl (by omega) (fuel_gt (by omega))
  rw [show ((0 : Nat) : Int) = 0 from rfl] at this
  rw [this, bind_go]
  unfold what
  cases hdv : dec v with
  | none => rfl
  | some p =>
    obtain ⟨k, m⟩ := p
    have := (dec_kind hdv).1
    dsimp only
    rw [if_pos (by omega)]
    rfl

theorem sure_eq : halterlaw26_sure.f = some true := by kernel_rfl
theorem num_eq (e : Option Int) : num.f e = some (e.getD 0) := rfl
theorem digs {n : Int} (h : 0 ≤ n ∧ n < 256) : ∃ d : ByteArray, strconv_Itoa.f n = some d ∧ halterref26_Digits.f n = some d ∧ d.size ≤ 9 := by
  have key : ∀ q : Fin 256, (match strconv_Itoa.f (q.val : Int), halterref26_Digits.f (q.val : Int) with | some a, some b => decide (a = b) && decide (a.size ≤ 9) | _, _ => false) = true := by decide +kernel
  obtain ⟨m, rfl⟩ := Int.eq_ofNat_of_zero_le h.1
  have := key ⟨m, by omega⟩
  dsimp only at this
  split at this
  · rename_i a b e1 e2
    simp at this
    obtain ⟨rfl, h2⟩ := this
    exact ⟨_, e1, e2, h2⟩
  · cases this
theorem dec_bd {v k n : Int} (hv : 0 ≤ v) (h : dec v = some (k, n)) : 0 ≤ n ∧ n < 256 := by
  unfold dec at h
  split at h
  · split at h
    · cases h; omega
    · cases h
  · split at h
    · cases h; omega
    · split at h
      · cases h; omega
      · split at h
        · cases h; omega
        · cases h
theorem Text_both {v : Int} (hv : 0 ≤ v ∧ v < 4294967296) : ∃ s, ∃ e : Option Int, status_Text.f v = some (s, e) ∧ halterref26_Text.f v = some (s, e.getD 0) := by
  unfold status_Text.f halterref26_Text.f
  rw [What_eq hv, rWhat_eq hv, bind_go, bind_go]
  unfold what
  cases hd : dec v with
  | none =>
    dsimp only
    rw [if_pos (by simp), if_pos (show ¬ (some (22 : Int)).getD 0 = 0 by decide)]
    exact ⟨_, _, rfl, rfl⟩
  | some p =>
    obtain ⟨k, n⟩ := p
    obtain ⟨hk, _⟩ := dec_kind hd
    obtain ⟨d, h1, h2, h3⟩ := digs (dec_bd hv.1 hd)
    dsimp only
    rw [if_neg (by simp), if_neg (show ¬ ¬ (none : Option Int).getD 0 = 0 by decide), h1, h2, if_pos (by omega)]
    simp only [bind_go]
    have e0 : (⟨#[101, 120, 105, 116]⟩ : ByteArray) ++ (⟨#[32]⟩ : ByteArray) = ⟨#[101, 120, 105, 116, 32]⟩ := by decide +kernel
    have e1 : (⟨#[107, 105, 108, 108]⟩ : ByteArray) ++ (⟨#[32]⟩ : ByteArray) = ⟨#[107, 105, 108, 108, 32]⟩ := by decide +kernel
    have e2 : (⟨#[115, 116, 111, 112]⟩ : ByteArray) ++ (⟨#[32]⟩ : ByteArray) = ⟨#[115, 116, 111, 112, 32]⟩ := by decide +kernel
    have e3 : (⟨#[99, 97, 108, 108]⟩ : ByteArray) ++ (⟨#[32]⟩ : ByteArray) = ⟨#[99, 97, 108, 108, 32]⟩ := by decide +kernel
    have s0 : ByteArray.size ⟨#[101, 120, 105, 116, 32]⟩ = 5 := rfl
    have s1 : ByteArray.size ⟨#[107, 105, 108, 108, 32]⟩ = 5 := rfl
    have s2 : ByteArray.size ⟨#[115, 116, 111, 112, 32]⟩ = 5 := rfl
    have s3 : ByteArray.size ⟨#[99, 97, 108, 108, 32]⟩ = 5 := rfl
    have t0 : ByteArray.size ⟨#[101, 120, 105, 116]⟩ = 4 := rfl
    have t1 : ByteArray.size ⟨#[107, 105, 108, 108]⟩ = 4 := rfl
    have t2 : ByteArray.size ⟨#[115, 116, 111, 112]⟩ = 4 := rfl
    have t3 : ByteArray.size ⟨#[99, 97, 108, 108]⟩ = 4 := rfl
    have u : ByteArray.size ⟨#[32]⟩ = 1 := rfl
    rw [e0, e1, e2, e3, t0, t1, t2, t3, u]
    have g (q : Int) (x : ByteArray) (hq : ByteArray.size x = 5) : (if ByteArray.size x + ByteArray.size d ≤ 9223372036854775807 then some (x ++ d, (none : Option Int)) else none) = some (x ++ d, none) := if_pos (by omega)
    have g2 (x : ByteArray) (hq : ByteArray.size x = 5) : (if 4 + 1 ≤ 9223372036854775807 then if ByteArray.size x + ByteArray.size d ≤ 9223372036854775807 then some (x ++ d, (0 : Int)) else none else none) = some (x ++ d, 0) := by rw [if_pos (by omega), if_pos (by omega)]
    rw [g2 _ s0, g2 _ s1, g2 _ s2, g2 _ s3]
    rcases hk with rfl | rfl | rfl | rfl
    · refine ⟨⟨#[101, 120, 105, 116, 32]⟩ ++ d, none, ?_, rfl⟩
      exact g 0 _ s0
    · refine ⟨⟨#[107, 105, 108, 108, 32]⟩ ++ d, none, ?_, rfl⟩
      exact g 0 _ s1
    · refine ⟨⟨#[115, 116, 111, 112, 32]⟩ ++ d, none, ?_, rfl⟩
      exact g 0 _ s2
    · refine ⟨⟨#[99, 97, 108, 108, 32]⟩ ++ d, none, ?_, rfl⟩
      exact g 0 _ s3
theorem StatusForms (a0 : Int) (a1 : Int) (a2 : Int) (h0 : (Lit.int .i64 a0).wf = true) (h1 : (Lit.int .i64 a1).wf = true) (h2 : (Lit.int .u32 a2).wf = true) : halterlaw26_StatusForms.f a0 a1 a2 = some true := by
  have hv := u32_bd h2
  obtain ⟨s, e, p1, p2⟩ := Text_both hv
  unfold halterlaw26_StatusForms.f
  rw [Of_eq, rOf_eq (.inr h1), What_eq hv, rWhat_eq hv, p1, p2]
  simp only [bind_go, num_eq, sure_eq]
  cases enc a0 a1 with
  | none => simp
  | some v => simp

end Go.Proofs.YtblnjkpgngpbbaaDoor.Pure
