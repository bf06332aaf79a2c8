/- The plain law: what the law computes is true, whatever it is handed. -/
import Derived.Test.YtlaemcglemakjaaDoorGTraceSteps
import Derived.Laws.BitsAllLaws
set_option linter.unusedVariables false
set_option linter.unusedSimpArgs false
set_option linter.unnecessarySimpa false
namespace Go.Proofs.YtlaemcglemakjaaDoor.Pure
open Go Go.Proofs.YtlaemcglemakjaaDoorE Go.Proofs.YtlaemcglemakjaaDoorGTraceSteps
theorem wu8 (x : Int) : IntKind.wrap .u8 x = x % 256 := by simp [IntKind.wrap, IntKind.bits, IntKind.signed]
theorem wu16 (x : Int) : IntKind.wrap .u16 x = x % 65536 := by simp [IntKind.wrap, IntKind.bits, IntKind.signed]
theorem wu32 (x : Int) : IntKind.wrap .u32 x = x % 4294967296 := by simp [IntKind.wrap, IntKind.bits, IntKind.signed]
theorem wu64 (x : Int) : IntKind.wrap .u64 x = x % 18446744073709551616 := by simp [IntKind.wrap, IntKind.bits, IntKind.signed]
theorem wi64 {x : Int} (h : -9223372036854775808 ≤ x) (h' : x ≤ 9223372036854775807) : IntKind.wrap .i64 x = x := by
  simp [IntKind.wrap, IntKind.bits, IntKind.signed]
  omega
theorem wu8_id {x : Int} (h : 0 ≤ x ∧ x < 256) : IntKind.wrap .u8 x = x := by rw [wu8]; omega
theorem wu32_id {x : Int} (h : 0 ≤ x ∧ x < 4294967296) : IntKind.wrap .u32 x = x := by rw [wu32]; omega
theorem wu64_id {x : Int} (h : 0 ≤ x ∧ x < 18446744073709551616) : IntKind.wrap .u64 x = x := by rw [wu64]; omega
theorem wsucc {i : Nat} (h : i < 9223372036854775807) : IntKind.wrap .i64 ((i : Int) + 1) = ((i + 1 : Nat) : Int) := by rw [wi64 (by omega) (by omega)]; omega
theorem u8_bd {a : Int} (h : (Lit.int .u8 a).wf = true) : 0 ≤ a ∧ a < 256 := by
  simpa [Lit.wf, IntKind.min, IntKind.max, IntKind.signed, IntKind.bits, ← Int.lt_add_one_iff] using h
theorem u32_bd {a : Int} (h : (Lit.int .u32 a).wf = true) : 0 ≤ a ∧ a < 4294967296 := by
  simpa [Lit.wf, IntKind.min, IntKind.max, IntKind.signed, IntKind.bits, ← Int.lt_add_one_iff] using h
theorem u64_bd {a : Int} (h : (Lit.int .u64 a).wf = true) : 0 ≤ a ∧ a < 18446744073709551616 := by
  simpa [Lit.wf, IntKind.min, IntKind.max, IntKind.signed, IntKind.bits, ← Int.lt_add_one_iff] using h
theorem i64_bd {a : Int} (h : (Lit.int .i64 a).wf = true) : -9223372036854775808 ≤ a ∧ a < 9223372036854775808 := by
  simpa [Lit.wf, IntKind.min, IntKind.max, IntKind.signed, IntKind.bits, ← Int.lt_add_one_iff] using h
theorem fuel_gt {n : Nat} (h : n < 18446744073709551616) : n < FUEL := h
theorem bind_go {α β : Type} (a : α) (f : α → Option β) : (some a).bind f = f a := by rw [Option.bind_some]
theorem drop_getD {α : Type} (l : List α) (i : Nat) (d : α) (h : i < l.length) : l.drop i = l.getD i d :: l.drop (i + 1) := by
  rw [List.drop_eq_getElem_cons h, List.getD_eq_getElem?_getD, List.getElem?_eq_getElem h, Option.getD_some]
theorem getD_mem {α : Type} (l : List α) (i : Nat) (d : α) (h : i < l.length) : l.getD i d ∈ l := by
  rw [List.getD_eq_getElem?_getD, List.getElem?_eq_getElem h, Option.getD_some]; exact List.getElem_mem _
theorem toNat_nat (i : Nat) : Int.toNat (i : Int) = i := rfl
/-- A number behind another one: a round of a loop. -/
theorem fuel_step {d n : Nat} (h : d < n) : ∃ m, n = m + 1 := ⟨n - 1, by omega⟩
/-- Where something stands first. -/
def first (v : Int) : List Int → Option Nat
  | [] => none
  | x :: xs => if x = v then some 0 else (first v xs).map (· + 1)
theorem first_none {v : Int} : ∀ {l : List Int}, first v l = none → ∀ z ∈ l, z ≠ v
  | [], _, z, hz => by cases hz
  | x :: xs, h, z, hz => by
    unfold first at h
    split at h
    · cases h
    · rename_i hx
      rcases List.mem_cons.1 hz with rfl | hz
      · exact hx
      · exact first_none (by simpa using h) z hz
theorem first_some {v : Int} : ∀ {l : List Int} {k : Nat}, first v l = some k → k < l.length ∧ l.getD k 0 = v ∧ ∀ j, j < k → l.getD j 0 ≠ v
  | [], _, h => by cases h
  | x :: xs, k, h => by
    unfold first at h
    split at h
    · cases h
      rename_i hx
      exact ⟨by simp, by simpa using hx, fun j hj => by omega⟩
    · rename_i hx
      cases hf : first v xs with
      | none => simp [hf] at h
      | some m =>
        simp [hf] at h
        subst h
        obtain ⟨h1, h2, h3⟩ := first_some hf
        refine ⟨by simp; omega, by simpa using h2, fun j hj => ?_⟩
        cases j with
        | zero => simpa using hx
        | succ j => simpa using h3 j (by omega)

theorem ofInt_i64 (a : Nat) (ha : a < 18446744073709551616) : (BitVec.ofInt 64 (a : Int)).toNat = a := by
  rw [BitVec.ofInt_natCast, BitVec.toNat_ofNat]; exact Nat.mod_eq_of_lt (by omega)
theorem i64_and (a b : Nat) (ha : a < 9223372036854775808) (hb : b < 9223372036854775808) : bits .and .i64 (a : Int) (b : Int) = ((a &&& b : Nat) : Int) := by
  have hx : a &&& b < 2 ^ 63 := Nat.and_lt_two_pow _ (by omega)
  show IntKind.i64.wrap ((BitVec.ofInt 64 (a : Int) &&& BitVec.ofInt 64 (b : Int)).toNat : Int) = _
  rw [BitVec.toNat_and, ofInt_i64 a (by omega), ofInt_i64 b (by omega), wi64 (by omega) (by omega)]
theorem i64_or (a b : Nat) (ha : a < 9223372036854775808) (hb : b < 9223372036854775808) : bits .or .i64 (a : Int) (b : Int) = ((a ||| b : Nat) : Int) := by
  have hx : a ||| b < 2 ^ 63 := Nat.or_lt_two_pow (by omega) (by omega)
  show IntKind.i64.wrap ((BitVec.ofInt 64 (a : Int) ||| BitVec.ofInt 64 (b : Int)).toNat : Int) = _
  rw [BitVec.toNat_or, ofInt_i64 a (by omega), ofInt_i64 b (by omega), wi64 (by omega) (by omega)]
theorem i64_andNot (a b : Nat) (ha : a < 9223372036854775808) (hb : b < 9223372036854775808) : bits .andNot .i64 (a : Int) (b : Int) = ((a &&& (18446744073709551615 - b) : Nat) : Int) := by
  have hx : a &&& (18446744073709551615 - b) < 2 ^ 63 := Nat.lt_of_le_of_lt Nat.and_le_left (by omega)
  show IntKind.i64.wrap ((BitVec.ofInt 64 (a : Int) &&& ~~~BitVec.ofInt 64 (b : Int)).toNat : Int) = _
  rw [BitVec.toNat_and, BitVec.toNat_not, ofInt_i64 a (by omega), ofInt_i64 b (by omega)]
  have e : 2 ^ 64 - 1 - b = 18446744073709551615 - b := by omega
  rw [e, wi64 (by omega) (by omega)]
/-- A bit taken away. -/
theorem nat_unbit (i x w : Nat) (hi : i < w) (hx : x < 2 ^ w) : x &&& (2 ^ w - 1 - 2 ^ i) = x - x / 2 ^ i % 2 * 2 ^ i := by
  have hp : (2 : Nat) ^ (i + 1) = 2 * 2 ^ i := by rw [Nat.pow_succ]; omega
  have e : x - x / 2 ^ i % 2 * 2 ^ i = 2 ^ (i + 1) * (x / 2 ^ (i + 1)) + x % 2 ^ i := by
    have h1 := Nat.div_add_mod x (2 ^ i)
    have h2 := Nat.div_add_mod (x / 2 ^ i) 2
    have h3 : x / 2 ^ (i + 1) = x / 2 ^ i / 2 := by rw [Nat.pow_succ, Nat.div_div_eq_div_mul]
    rw [h3, hp]
    generalize x / 2 ^ i = q at *
    generalize x % 2 ^ i = r at *
    generalize 2 ^ i = P at *
    have h4 : 2 * P * (q / 2) = P * (2 * (q / 2)) := by rw [Nat.mul_comm 2 P, Nat.mul_assoc]
    have h5 : P * q = P * (2 * (q / 2)) + P * (q % 2) := by rw [← Nat.mul_add, h2]
    rw [h4, Nat.mul_comm (q % 2) P]
    omega
  have hr : x % 2 ^ i < 2 ^ (i + 1) := by
    have := Nat.mod_lt x (Nat.two_pow_pos i)
    omega
  rw [e]
  apply Nat.eq_of_testBit_eq
  intro j
  rw [Nat.sub_sub, Nat.add_comm 1 (2 ^ i), Nat.testBit_and, Nat.testBit_two_pow_sub_succ (Nat.pow_lt_pow_right (by omega) hi), Nat.testBit_two_pow, Nat.testBit_two_pow_mul_add _ hr]
  by_cases hj : j < i + 1
  · rw [if_pos hj, Nat.testBit_mod_two_pow]
    by_cases h2 : j = i
    · subst h2; simp
    · have h3 : j < i := by omega
      have h4 : j < w := by omega
      simp [h3, h4, Ne.symm h2]
  · rw [if_neg hj, Nat.testBit_div_two_pow, show j - (i + 1) + (i + 1) = j by omega]
    have h2 : ¬ i = j := by omega
    by_cases hw : j < w
    · simp [hw, h2]
    · have : x.testBit j = false := Nat.testBit_lt_two_pow (Nat.lt_of_lt_of_le hx (Nat.pow_le_pow_right (by omega) (by omega)))
      simp [this]

/-- What a kind and a number are told as. -/
def enc (k n : Int) : Option Int :=
  if k = 0 ∧ 0 ≤ n ∧ n < 256 then some (256 * n) else if 1 ≤ n ∧ n ≤ 31 then (if k = 1 then some n else if k = 2 then some (256 * n + 127) else if k = 3 then some (256 * (n + 128) + 127) else none) else none
theorem signal_eq (n : Int) : status_signal.f n = some (decide (1 ≤ n ∧ n ≤ 31)) := by
  unfold status_signal.f
  by_cases h : n ≥ 1
  · rw [if_pos h]; congr 1; exact decide_eq_decide.2 ⟨fun h2 => ⟨h, h2⟩, fun h2 => h2.2⟩
  · rw [if_neg h]; congr 1; simp; omega
theorem shl8 {n : Int} (h : 0 ≤ n ∧ n < 256) : shl .u32 (IntKind.wrap .u32 n) 8 = 256 * n := by
  simp only [shl, wu32, IntKind.bits]
  have : min (Int.toNat 8) 32 = 8 := by decide
  rw [this]
  simp
  omega
theorem or127 {n : Int} (h : 0 ≤ n ∧ n < 256) : bits .or .u32 (256 * n) 127 = 256 * n + 127 := by
  obtain ⟨a, rfl⟩ := Int.eq_ofNat_of_zero_le h.1
  rw [show (256 * (a : Int)) = ((256 * a : Nat) : Int) by omega, show (127 : Int) = ((127 : Nat) : Int) from rfl, u32_or_nat _ _ (by omega) (by omega), nat_join 8 (256 * a) 127 (by omega) (by omega)]
  omega
theorem or128 {n : Int} (h : 0 ≤ n ∧ n < 128) : bits .or .i64 n 128 = n + 128 := by
  obtain ⟨a, rfl⟩ := Int.eq_ofNat_of_zero_le h.1
  rw [show (128 : Int) = ((128 : Nat) : Int) from rfl, i64_or _ _ (by omega) (by omega), Nat.or_comm, nat_join 7 128 a (by omega) (by omega)]
  omega
theorem and128 {n : Int} (h : 0 ≤ n ∧ n < 16777216) : bits .and .i64 n 128 = n / 128 % 2 * 128 := by
  obtain ⟨a, rfl⟩ := Int.eq_ofNat_of_zero_le h.1
  rw [show bits .and .i64 (a : Int) 128 = bits .and .i64 (a : Int) ((128 : Nat) : Int) from rfl, i64_and _ _ (by omega) (by omega), show (128 : Nat) = 2 ^ 7 from rfl, nat_bit 7 a]
  omega
theorem andNot128 {n : Int} (h : 0 ≤ n ∧ n < 16777216) : bits .andNot .i64 n 128 = n - n / 128 % 2 * 128 := by
  obtain ⟨a, rfl⟩ := Int.eq_ofNat_of_zero_le h.1
  rw [show bits .andNot .i64 (a : Int) 128 = bits .andNot .i64 (a : Int) ((128 : Nat) : Int) from rfl, i64_andNot _ _ (by omega) (by omega)]
  have := nat_unbit 7 a 64 (by omega) (by omega)
  rw [show (18446744073709551615 - 128 : Nat) = 2 ^ 64 - 1 - 2 ^ 7 from rfl, this]
  have : (2 : Nat) ^ 7 = 128 := rfl
  rw [this]
  omega
theorem Of_eq (k n : Int) : status_Of.f k n = some (match enc k n with | some v => (v, none) | none => (0, some 22)) := by
  unfold status_Of.f enc
  simp only [signal_eq, bind_go, decide_eq_true_eq]
  by_cases hs : 1 ≤ n ∧ n ≤ 31
  · have e1 : shl .u32 (IntKind.wrap .u32 n) 8 = 256 * n := shl8 ⟨by omega, by omega⟩
    have e2 : bits .or .u32 (256 * n) 127 = 256 * n + 127 := or127 ⟨by omega, by omega⟩
    have e3 : bits .or .i64 n 128 = n + 128 := or128 ⟨by omega, by omega⟩
    have e4 : shl .u32 (IntKind.wrap .u32 (n + 128)) 8 = 256 * (n + 128) := shl8 ⟨by omega, by omega⟩
    have e5 : bits .or .u32 (256 * (n + 128)) 127 = 256 * (n + 128) + 127 := or127 ⟨by omega, by omega⟩
    have e6 : IntKind.wrap .u32 n = n := wu32_id ⟨by omega, by omega⟩
    have g1 : n ≥ 0 := by omega
    have g2 : n < 256 := by omega
    rw [e1, e2, e3, e4, e5, e6]
    simp only [hs, g1, g2, if_true, and_self, and_true]
    clear e1 e2 e3 e4 e5 e6
    by_cases k0 : k = 0
    · rw [if_pos k0, if_pos k0]
    rw [if_neg k0, if_neg k0]
    by_cases k1 : k = 1
    · rw [if_pos k1, if_pos k1]
    rw [if_neg k1, if_neg k1]
    by_cases k2 : k = 2
    · rw [if_pos k2, if_pos k2]
    rw [if_neg k2, if_neg k2]
    by_cases k3 : k = 3
    · rw [if_pos k3, if_pos k3]
    rw [if_neg k3, if_neg k3]
  · simp only [hs, if_false]
    by_cases h2 : k = 0 ∧ 0 ≤ n ∧ n < 256
    · rw [if_pos h2, if_pos h2.1, if_pos (by omega), if_pos (by omega), shl8 ⟨by omega, by omega⟩]
    · rw [if_neg h2]
      dsimp only
      by_cases k0 : k = 0
      · rw [if_pos k0]
        by_cases h3 : n ≥ 0
        · rw [if_pos h3, if_neg (by omega)]
          repeat' split
          all_goals rfl
        · rw [if_neg h3]
          repeat' split
          all_goals rfl
      · rw [if_neg k0]
        repeat' split
        all_goals rfl
/-- What a number tells. -/
def dec (v : Int) : Option (Int × Int) :=
  if v % 256 = 0 then (if v / 256 < 256 then some (0, v / 256) else none)
  else if 1 ≤ v ∧ v ≤ 31 then some (1, v)
  else if v % 256 = 127 ∧ 1 ≤ v / 256 ∧ v / 256 ≤ 31 then some (2, v / 256)
  else if v % 256 = 127 ∧ 129 ≤ v / 256 ∧ v / 256 ≤ 159 then some (3, v / 256 - 128) else none
theorem enc_iff (k n v : Int) (hv : 0 ≤ v ∧ v < 4294967296) : enc k n = some v ↔ dec v = some (k, n) := by
  unfold enc dec
  constructor
  · intro h
    split at h
    · rename_i h1
      obtain ⟨rfl, h2, h3⟩ := h1
      cases h
      rw [if_pos (by omega), if_pos (by omega)]
      congr 2; omega
    · split at h
      · rename_i h2
        split at h
        · rename_i h3; subst h3; cases h
          rw [if_neg (by omega), if_pos (by omega)]
        · split at h
          · rename_i h3; subst h3; cases h
            rw [if_neg (by omega), if_neg (by omega), if_pos (by omega)]
            congr 2; omega
          · split at h
            · rename_i h3; subst h3; cases h
              rw [if_neg (by omega), if_neg (by omega), if_neg (by omega), if_pos (by omega)]
              congr 2; omega
            · cases h
      · cases h
  · intro h
    split at h
    · rename_i h1
      split at h
      · cases h
        rw [if_pos ⟨rfl, by omega, by omega⟩]; congr 1; omega
      · cases h
    · rename_i h0
      split at h
      · cases h
        rw [if_neg (by omega), if_pos (by omega), if_pos rfl]
      · split at h
        · cases h
          rw [if_neg (by omega), if_pos (by omega), if_neg (by omega), if_pos rfl]; congr 1; omega
        · split at h
          · cases h
            rw [if_neg (by omega), if_pos (by omega), if_neg (by omega), if_neg (by omega), if_pos rfl]; congr 1; omega
          · cases h
def what (v : Int) : Int × Int × Option Int := match dec v with | some p => (p.1, p.2, none) | none => (0, 0, some 22)
theorem What_eq {v : Int} (hv : 0 ≤ v ∧ v < 4294967296) : status_What.f v = some (what v) := by
  have e1 : Int.tmod v 256 = v % 256 := Int.tmod_eq_emod_of_nonneg hv.1
  have e2 : shr .u32 v 8 = v / 256 := by simp [shr, IntKind.bits]
  have e3 : IntKind.wrap .i64 (v / 256) = v / 256 := wi64 (by omega) (by omega)
  have e4 : IntKind.wrap .i64 v = v := wi64 (by omega) (by omega)
  have e5 := and128 (n := v / 256) ⟨by omega, by omega⟩
  have e6 := andNot128 (n := v / 256) ⟨by omega, by omega⟩
  have key : ∀ k n, status_kind.f v = some (k, n) → (∀ k' n', dec v = some (k', n') → k' = k ∧ n' = n) → status_What.f v = some (what v) := by
    intro k n hk hd
    unfold status_What.f
    rw [hk, bind_go, Of_eq, bind_go]
    cases he : enc k n with
    | none =>
      dsimp only
      rw [if_pos (by simp)]
      unfold what
      cases hdv : dec v with
      | none => rfl
      | some p =>
        obtain ⟨k', n'⟩ := p
        obtain ⟨rfl, rfl⟩ := hd k' n' hdv
        rw [(enc_iff k' n' v hv).2 hdv] at he
        cases he
    | some w =>
      dsimp only
      rw [if_neg (by simp)]
      by_cases hw : w = v
      · rw [if_neg (by simpa using hw)]
        subst hw
        have := (enc_iff k n w hv).1 he
        unfold what
        rw [this]
      · rw [if_pos hw]
        unfold what
        cases hdv : dec v with
        | none => rfl
        | some p =>
          obtain ⟨k', n'⟩ := p
          obtain ⟨rfl, rfl⟩ := hd k' n' hdv
          rw [(enc_iff k' n' v hv).2 hdv] at he
          cases he
          exact absurd rfl hw
  by_cases h0 : v % 256 = 0
  · refine key 0 (v / 256) (by unfold status_kind.f; rw [e1, if_pos h0, e2, e3]) fun k' n' h => ?_
    unfold dec at h
    rw [if_pos h0] at h
    split at h <;> cases h
    exact ⟨rfl, rfl⟩
  by_cases h1 : v % 256 = 127
  · by_cases h2 : v / 256 / 128 % 2 = 1
    · refine key 3 (v / 256 - 128) (by unfold status_kind.f; rw [e1, if_neg h0, if_neg (by simpa using h1), e2, e3, e5, if_pos (by omega), e6, h2]; rfl) fun k' n' h => ?_
      unfold dec at h
      rw [if_neg h0, if_neg (by omega), if_neg (by omega)] at h
      split at h <;> cases h
      exact ⟨rfl, rfl⟩
    · refine key 2 (v / 256) (by unfold status_kind.f; rw [e1, if_neg h0, if_neg (by simpa using h1), e2, e3, e5, if_neg (by omega)]) fun k' n' h => ?_
      unfold dec at h
      rw [if_neg h0, if_neg (by omega)] at h
      split at h
      · cases h; exact ⟨rfl, rfl⟩
      · split at h
        · omega
        · cases h
  · refine key 1 v (by unfold status_kind.f; rw [e1, if_neg h0, if_pos h1, e4]) fun k' n' h => ?_
    unfold dec at h
    rw [if_neg h0] at h
    split at h
    · cases h; exact ⟨rfl, rfl⟩
    · rw [if_neg (by omega), if_neg (by omega)] at h
      cases h

theorem rOf_eq {k n : Int} (hn : 0 ≤ n ∧ n < 256 ∨ (Lit.int .i64 n).wf = true) : halterref26_Of.f k n = some (match enc k n with | some v => (v, 0) | none => (0, 22)) := by
  unfold halterref26_Of.f enc
  by_cases hs : 1 ≤ n ∧ n ≤ 31
  · have e1 : IntKind.wrap .i64 (256 * n) = 256 * n := wi64 (by omega) (by omega)
    have e2 : IntKind.wrap .u32 (256 * n) = 256 * n := wu32_id ⟨by omega, by omega⟩
    have e3 : IntKind.wrap .i64 (256 * n + 127) = 256 * n + 127 := wi64 (by omega) (by omega)
    have e4 : IntKind.wrap .u32 (256 * n + 127) = 256 * n + 127 := wu32_id ⟨by omega, by omega⟩
    have e5 : IntKind.wrap .i64 (n + 128) = n + 128 := wi64 (by omega) (by omega)
    have e6 : IntKind.wrap .i64 (256 * (n + 128)) = 256 * (n + 128) := wi64 (by omega) (by omega)
    have e7 : IntKind.wrap .i64 (256 * (n + 128) + 127) = 256 * (n + 128) + 127 := wi64 (by omega) (by omega)
    have e8 : IntKind.wrap .u32 (256 * (n + 128) + 127) = 256 * (n + 128) + 127 := wu32_id ⟨by omega, by omega⟩
    have e9 : IntKind.wrap .u32 n = n := wu32_id ⟨by omega, by omega⟩
    rw [e1, e2, e3, e4, e5, e6, e7, e8, e9]
    clear e1 e2 e3 e4 e5 e6 e7 e8 e9
    rw [if_pos (show n ≥ 0 by omega), if_pos (show n ≤ 255 by omega), if_neg (show ¬ n < 1 by omega), if_neg (show ¬ n > 31 by omega), if_pos hs]
    by_cases k0 : k = 0
    · rw [if_pos k0, if_pos ⟨k0, by omega, by omega⟩]
    by_cases k1 : k = 1
    · subst k1; simp
    by_cases k2 : k = 2
    · subst k2; simp
    by_cases k3 : k = 3
    · subst k3; simp
    by_cases h : k < 1
    · simp [k0, k1, k2, k3, h]
    · have h3 : k > 3 := by omega
      simp [k0, k1, k2, k3, h, h3]
  · rw [if_neg hs]
    by_cases h2 : k = 0 ∧ 0 ≤ n ∧ n < 256
    · rw [if_pos h2, if_pos h2.1, if_pos (by omega), if_pos (by omega)]
      have e1 : IntKind.wrap .i64 (256 * n) = 256 * n := wi64 (by omega) (by omega)
      have e2 : IntKind.wrap .u32 (256 * n) = 256 * n := wu32_id ⟨by omega, by omega⟩
      rw [e1, e2]
    · rw [if_neg h2]
      dsimp only
      have e : n < 1 ∨ n > 31 := by omega
      by_cases k0 : k = 0
      · rw [if_pos k0]
        by_cases h3 : n ≥ 0
        · rw [if_pos h3, if_neg (by omega), if_pos (by omega)]
        · rw [if_neg h3, if_pos (by omega)]
      · rw [if_neg k0]
        by_cases h3 : k < 1
        · rw [if_pos h3]
        · rw [if_neg h3]
          by_cases h4 : k > 3
          · rw [if_pos h4]
          · rw [if_neg h4]
            by_cases h5 : n < 1
            · rw [if_pos h5]
            · rw [if_neg h5, if_pos (by omega)]
theorem enc_pos {k n v : Int} (h : enc k n = some v) : 0 ≤ v ∧ v < 65536 := by
  unfold enc at h
  split at h
  · cases h; omega
  · split at h
    · split at h
      · cases h; omega
      · split at h
        · cases h; omega
        · split at h
          · cases h; omega
          · cases h
    · cases h
theorem rWhat_l1 {v : Int} (hv : 0 ≤ v ∧ v < 4294967296) (k : Int) : ∀ (d i n : Nat), 256 - i = d → i ≤ 256 → d < n →
    halterref26_What.l1 k v n i = some (match dec v with | some p => if p.1 = k ∧ (i : Int) ≤ p.2 then .inr p.2 else .inl () | none => .inl ()) := by
  intro d
  induction d with
  | zero =>
    intro i n hd hi hn
    obtain ⟨n, rfl⟩ := fuel_step hn
    rw [halterref26_What.l1, if_neg (by omega)]
    cases hdv : dec v with
    | none => rfl
    | some p =>
      have h := (enc_iff p.1 p.2 v hv).2 hdv
      have : p.2 < 256 := by
        unfold enc at h
        split at h
        · omega
        · split at h
          · omega
          · cases h
      dsimp only
      rw [if_neg (by omega)]
  | succ d ih =>
    intro i n hd hi hn
    obtain ⟨n, rfl⟩ := fuel_step hn
    rw [halterref26_What.l1, if_pos (by omega), rOf_eq (.inl ⟨by omega, by omega⟩), bind_go, wsucc (by omega), ih (i + 1) n (by omega) (by omega) (by omega)]
    have no : enc k i ≠ some v → (match dec v with | some p => if p.1 = k ∧ ((i + 1 : Nat) : Int) ≤ p.2 then Sum.inr p.2 else Sum.inl () | none => Sum.inl ()) = (match dec v with | some p => if p.1 = k ∧ (i : Int) ≤ p.2 then Sum.inr p.2 else Sum.inl () | none => (Sum.inl () : Unit ⊕ Int)) := by
      intro hne
      cases hdv : dec v with
      | none => rfl
      | some p =>
        obtain ⟨k', n'⟩ := p
        dsimp only
        by_cases hc : k' = k ∧ ((i + 1 : Nat) : Int) ≤ n'
        · rw [if_pos hc, if_pos ⟨hc.1, by omega⟩]
        · rw [if_neg hc, if_neg]
          rintro ⟨rfl, h2⟩
          have : n' = (i : Int) := by
            have : ¬ ((i + 1 : Nat) : Int) ≤ n' := fun h => hc ⟨rfl, h⟩
            omega
          subst this
          exact hne ((enc_iff _ _ v hv).2 hdv)
    cases he : enc k i with
    | none =>
      dsimp only
      rw [if_neg (by omega), no (by rw [he]; simp)]
    | some w =>
      dsimp only
      rw [if_pos rfl]
      by_cases hw : w = v
      · subst hw
        rw [if_pos rfl, (enc_iff _ _ w hv).1 he]
        dsimp only
        rw [if_pos ⟨rfl, Int.le_refl _⟩]
      · rw [if_neg hw, no (by rw [he]; simpa using hw)]
theorem dec_kind {v k n : Int} (h : dec v = some (k, n)) : (k = 0 ∨ k = 1 ∨ k = 2 ∨ k = 3) ∧ (0 ≤ v → 0 ≤ n) := by
  unfold dec at h
  split at h
  · split at h <;> cases h
    exact ⟨.inl rfl, fun _ => by omega⟩
  · split at h
    · cases h; exact ⟨.inr (.inl rfl), fun _ => by omega⟩
    · split at h
      · cases h; exact ⟨.inr (.inr (.inl rfl)), fun _ => by omega⟩
      · split at h <;> cases h
        exact ⟨.inr (.inr (.inr rfl)), fun _ => by omega⟩
theorem rWhat_l0 {v : Int} (hv : 0 ≤ v ∧ v < 4294967296) : ∀ (d i n : Nat), 4 - i = d → i ≤ 4 → d < n →
    halterref26_What.l0 v n i = some (match dec v with | some p => if (i : Int) ≤ p.1 then .inr p else .inl () | none => .inl ()) := by
  intro d
  induction d with
  | zero =>
    intro i n hd hi hn
    obtain ⟨n, rfl⟩ := fuel_step hn
    rw [halterref26_What.l0, if_neg (by omega)]
    cases hdv : dec v with
    | none => rfl
    | some p =>
      obtain ⟨k, m⟩ := p
      have := (dec_kind hdv).1
      dsimp only
      rw [if_neg (by omega)]
  | succ d ih =>
    intro i n hd hi hn
    obtain ⟨n, rfl⟩ := fuel_step hn
    have h1 := rWhat_l1 hv i 256 0 FUEL rfl (by omega) (fuel_gt (by omega))
    rw [show ((0 : Nat) : Int) = 0 from rfl] at h1
    rw [halterref26_What.l0, if_pos (by omega), h1, bind_go, wsucc (by omega), ih (i + 1) n (by omega) (by omega) (by omega)]
    cases hdv : dec v with
    | none => rfl
    | some p =>
      obtain ⟨k, m⟩ := p
      have h2 := dec_kind hdv
      dsimp only
      by_cases hk : k = (i : Int)
      · subst hk
        rw [if_pos ⟨rfl, h2.2 hv.1⟩]
        dsimp only
        rw [if_pos (Int.le_refl _)]
      · rw [if_neg (fun h => hk h.1)]
        dsimp only
        by_cases hc : ((i + 1 : Nat) : Int) ≤ k
        · rw [if_pos hc, if_pos (by omega)]
        · rw [if_neg hc, if_neg (by omega)]
theorem rWhat_eq {v : Int} (hv : 0 ≤ v ∧ v < 4294967296) : halterref26_What.f v = some ((what v).1, (what v).2.1, (what v).2.2.getD 0) := by
  unfold halterref26_What.f
  have := rWhat_l0 hv 4 0 FUEL rfl (by omega) (fuel_gt (by omega))
  rw [show ((0 : Nat) : Int) = 0 from rfl] at this
  rw [this, bind_go]
  unfold what
  cases hdv : dec v with
  | none => rfl
  | some p =>
    obtain ⟨k, m⟩ := p
    have := (dec_kind hdv).1
    dsimp only
    rw [if_pos (by omega)]
    rfl

theorem sure_eq : halterlaw27_sure.f = some true := by kernel_rfl
/-- Can a number be reported? -/
def rep (v : Int) : Bool := decide ((what v).2.2 = none ∧ ((what v).1 = 2 ∨ (what v).1 = 3))
theorem report_eq {v : Int} (hv : 0 ≤ v ∧ v < 4294967296) : trace_report.f v = some (rep v) := by
  unfold trace_report.f rep
  rw [What_eq hv, bind_go]
  generalize what v = p
  obtain ⟨k, n, e⟩ := p
  dsimp only
  cases e with
  | some c => rw [if_neg (by simp)]; simp
  | none =>
    rw [if_pos rfl]
    by_cases h2 : k = 2
    · rw [if_pos h2]; simp [h2]
    · rw [if_neg h2]; congr 1; simp [h2]; exact Bool.eq_iff_iff.2 (by simp)
theorem pids_eq (n : Int) : pids_Check.f n = some (if 1 ≤ n ∧ n ≤ 99 then none else some 22) := by
  unfold pids_Check.f
  by_cases h : n < 1
  · rw [if_pos h, if_neg (by omega)]
  · rw [if_neg h]
    by_cases h2 : n > 99
    · rw [if_pos h2, if_neg (by omega)]
    · rw [if_neg h2, if_pos (by omega)]
theorem mode_eq (n : Int) : trace_mode.f n = some (decide (0 ≤ n ∧ n ≤ 2)) := by
  unfold trace_mode.f
  by_cases h : n ≥ 0
  · rw [if_pos h]; congr 1; exact decide_eq_decide.2 ⟨fun h2 => ⟨h, h2⟩, fun h2 => h2.2⟩
  · rw [if_neg h]; congr 1; simp; omega
theorem tsignal_eq (n : Int) : trace_signal.f n = some (decide (0 ≤ n ∧ n ≤ 31)) := by
  unfold trace_signal.f
  by_cases h : n ≥ 0
  · rw [if_pos h]; congr 1; exact decide_eq_decide.2 ⟨fun h2 => ⟨h, h2⟩, fun h2 => h2.2⟩
  · rw [if_neg h]; congr 1; simp; omega
/-- May a state be? -/
def May (t : Int) (st : Bool) (r m i : Int) (en : Bool) : Prop :=
  if t = 0 then st = false ∧ r = 0 ∧ m = 0 ∧ i = 0 ∧ en = false
  else 1 ≤ t ∧ t ≤ 99 ∧ 0 ≤ m ∧ m ≤ 2 ∧ 0 ≤ i ∧ i ≤ 31 ∧ (r = 0 ∨ st = true ∧ rep r = true) ∧ (en = true → m = 2)
instance (t : Int) (st : Bool) (r m i : Int) (en : Bool) : Decidable (May t st r m i en) := by unfold May; infer_instance
theorem Check_eq {t : Int} {st : Bool} {r m i : Int} {en : Bool} (hr : 0 ≤ r ∧ r < 4294967296) : trace_Check.f t st r m i en = some (if May t st r m i en then none else some 22) := by
  unfold trace_Check.f
  rw [pids_eq, mode_eq, tsignal_eq, report_eq hr]
  simp only [bind_go]
  by_cases h0 : t = 0
  · rw [if_pos h0]
    by_cases h1 : st = false ∧ r = 0 ∧ m = 0 ∧ i = 0 ∧ en = false
    · rw [if_neg (by simp [h0, h1]), if_pos (by unfold May; rw [if_pos h0]; exact h1)]
    · rw [if_pos (fun h => h1 h.2), if_neg (by unfold May; rw [if_pos h0]; exact h1)]
  · rw [if_neg h0]
    by_cases hp : 1 ≤ t ∧ t ≤ 99
    · rw [if_pos hp, if_pos rfl]
      by_cases hm : 0 ≤ m ∧ m ≤ 2
      · rw [if_pos (by simpa using hm)]
        by_cases hi : 0 ≤ i ∧ i ≤ 31
        · rw [if_neg (by simpa using hi)]
          have hM : May t st r m i en ↔ (r = 0 ∨ st = true ∧ rep r = true) ∧ (en = true → m = 2) := by
            unfold May; rw [if_neg h0]
            exact ⟨fun h => h.2.2.2.2.2.2, fun h => ⟨hp.1, hp.2, hm.1, hm.2, hi.1, hi.2, h⟩⟩
          by_cases hr0 : r = 0
          · rw [if_neg (by simpa using hr0)]
            cases en with
            | false => rw [if_neg (by simp), if_pos (hM.2 ⟨.inl hr0, by simp⟩)]
            | true =>
              by_cases h2 : m = 2
              · rw [if_pos rfl, if_neg (by simpa using h2), if_pos (hM.2 ⟨.inl hr0, fun _ => h2⟩)]
              · rw [if_pos rfl, if_pos h2, if_neg (fun h => h2 ((hM.1 h).2 rfl))]
          · rw [if_pos hr0]
            cases st with
            | false => rw [if_pos (by simp), if_neg (fun h => by have := (hM.1 h).1; simp [hr0] at this)]
            | true =>
              rw [if_neg (by simp)]
              cases hre : rep r with
              | false => rw [if_pos (by simp), if_neg (fun h => by have := (hM.1 h).1; simp [hr0, hre] at this)]
              | true =>
                rw [if_neg (by simp)]
                cases en with
                | false => rw [if_neg (by simp), if_pos (hM.2 ⟨.inr ⟨rfl, hre⟩, by simp⟩)]
                | true =>
                  by_cases h2 : m = 2
                  · rw [if_pos rfl, if_neg (by simpa using h2), if_pos (hM.2 ⟨.inr ⟨rfl, hre⟩, fun _ => h2⟩)]
                  · rw [if_pos rfl, if_pos h2, if_neg (fun h => h2 ((hM.1 h).2 rfl))]
        · rw [if_pos (by simp; omega), if_neg (fun h => by unfold May at h; rw [if_neg h0] at h; omega)]
      · rw [if_neg (by simp; omega), if_neg (fun h => by unfold May at h; rw [if_neg h0] at h; omega)]
    · rw [if_neg hp, if_neg (by simp), if_neg (fun h => by unfold May at h; rw [if_neg h0] at h; omega)]
/-! ### What each does -/
abbrev S6 := Int × Bool × Int × Int × Int × Bool
def zero6 (e : Option Int) : Int × Bool × Int × Int × Int × Bool × Option Int := (0, false, 0, 0, 0, false, e)
def attachS (t : Int) (st : Bool) (r m i : Int) (en : Bool) (k : Int) : Int × Bool × Int × Int × Int × Bool × Option Int :=
  if ¬ May t st r m i en then zero6 (some 22) else if ¬ (1 ≤ k ∧ k ≤ 99) then zero6 (some 22) else if t ≠ 0 then zero6 (some 1) else (k, false, 0, 0, 0, false, none)
theorem chk {p : Prop} [Decidable p] {α : Type} (a b : α) : (if (if p then none else some (22 : Int)) = none then a else b) = if p then a else b := by
  by_cases h : p
  · rw [if_pos h, if_pos rfl, if_pos h]
  · rw [if_neg h, if_neg (by simp), if_neg h]
theorem flip {p : Prop} [Decidable p] {α : Type} (a b : α) : (if ¬ p then a else b) = if p then b else a := by
  by_cases h : p
  · rw [if_pos h, if_neg (by simpa using h)]
  · rw [if_neg h, if_pos h]
theorem some_if {p : Prop} [Decidable p] {α : Type} (a b : α) : (if p then some a else some b) = some (if p then a else b) := by split <;> rfl
theorem Attach_eq {t : Int} {st : Bool} {r m i : Int} {en : Bool} (k : Int) (hr : 0 ≤ r ∧ r < 4294967296) : trace_Attach.f t st r m i en k = some (attachS t st r m i en k) := by
  unfold trace_Attach.f attachS
  rw [Check_eq hr, bind_go, pids_eq, bind_go]
  simp only [chk, flip, some_if, ne_eq]
  rfl
def stopS (t : Int) (st : Bool) (r m i : Int) (en : Bool) (v : Int) (entry : Bool) : Int × Bool × Int × Int × Int × Bool × Option Int :=
  if ¬ May t st r m i en then zero6 (some 22) else if ¬ rep v = true then zero6 (some 22) else if entry = true ∧ m ≠ 2 then zero6 (some 22) else if t = 0 then zero6 (some 3) else if st = true then zero6 (some 22) else (t, true, v, m, i, entry, none)
theorem Stop_eq {t : Int} {st : Bool} {r m i : Int} {en : Bool} {v : Int} (entry : Bool) (hr : 0 ≤ r ∧ r < 4294967296) (hv : 0 ≤ v ∧ v < 4294967296) : trace_Stop.f t st r m i en v entry = some (stopS t st r m i en v entry) := by
  unfold trace_Stop.f stopS
  rw [Check_eq hr, bind_go, report_eq hv, bind_go]
  simp only [chk, flip, some_if, ne_eq]
  cases entry
  · simp [zero6]
  · by_cases h : m = 2
    · simp [zero6, h]
    · simp [zero6, h]
def collectS (t : Int) (st : Bool) (r m i : Int) (en : Bool) : Int × Int × Bool × Int × Int × Int × Bool × Option Int :=
  if ¬ May t st r m i en then (0, zero6 (some 22)) else if r = 0 then (0, zero6 (some 10)) else (r, t, st, 0, m, i, en, none)
theorem Collect_eq {t : Int} {st : Bool} {r m i : Int} {en : Bool} (hr : 0 ≤ r ∧ r < 4294967296) : trace_Collect.f t st r m i en = some (collectS t st r m i en) := by
  unfold trace_Collect.f collectS
  rw [Check_eq hr, bind_go]
  simp only [chk, flip, some_if, ne_eq]
  rfl
def resumeS (t : Int) (st : Bool) (r m i : Int) (en : Bool) (how sig : Int) : Int × Bool × Int × Int × Int × Bool × Option Int :=
  if ¬ May t st r m i en then zero6 (some 22) else if ¬ (0 ≤ how ∧ how ≤ 2) then zero6 (some 22) else if ¬ (0 ≤ sig ∧ sig ≤ 31) then zero6 (some 22) else if ¬ st = true then zero6 (some 3) else (t, false, 0, how, sig, (en && (how == 2)), none)
theorem Resume_eq {t : Int} {st : Bool} {r m i : Int} {en : Bool} (how sig : Int) (hr : 0 ≤ r ∧ r < 4294967296) : trace_Resume.f t st r m i en how sig = some (resumeS t st r m i en how sig) := by
  unfold trace_Resume.f resumeS
  rw [Check_eq hr, bind_go, mode_eq, bind_go, tsignal_eq, bind_go]
  simp only [chk, flip, some_if, ne_eq, decide_eq_true_eq]
  cases en <;> rfl
def takeS (t : Int) (st : Bool) (r m i : Int) (en : Bool) : Int × Int × Bool × Int × Int × Int × Bool :=
  if ¬ May t st r m i en then (0, t, st, r, m, i, en) else (i, t, st, r, m, 0, en)
theorem Take_eq {t : Int} {st : Bool} {r m i : Int} {en : Bool} (hr : 0 ≤ r ∧ r < 4294967296) : trace_Take.f t st r m i en = some (takeS t st r m i en) := by
  unfold trace_Take.f takeS
  rw [Check_eq hr, bind_go]
  simp only [chk, flip, some_if, ne_eq]

theorem rReports_eq {v : Int} (hv : 0 ≤ v ∧ v < 4294967296) : halterref27_Reports.f v = some (rep v) := by
  unfold halterref27_Reports.f rep
  rw [rWhat_eq hv, bind_go]
  unfold what
  cases hd : dec v with
  | none => rfl
  | some p =>
    obtain ⟨k, m⟩ := p
    have := (dec_kind hd).1
    dsimp only
    rw [if_pos (by simp)]
    congr 1
    exact decide_eq_decide.2 ⟨fun h => ⟨rfl, by omega⟩, fun h => by omega⟩
theorem rMay_eq {t : Int} {st : Bool} {r m i : Int} {en : Bool} (hr : 0 ≤ r ∧ r < 4294967296) : halterref27_May.f t st r m i en = some (decide (May t st r m i en)) := by
  unfold halterref27_May.f
  rw [rReports_eq hr]
  simp only [bind_go]
  by_cases h0 : t = 0
  · rw [if_pos h0]
    have hM : May t st r m i en ↔ st = false ∧ r = 0 ∧ m = 0 ∧ i = 0 ∧ en = false := by unfold May; rw [if_pos h0]
    by_cases h1 : ¬ st = true
    · rw [if_pos h1]
      by_cases h2 : r = 0
      · rw [if_pos h2]
        by_cases h3 : m = 0
        · rw [if_pos h3]
          by_cases h4 : i = 0
          · rw [if_pos h4]; congr 1
            cases en with
            | true => simp [hM]
            | false => rw [decide_eq_true (hM.2 ⟨by simpa using h1, h2, h3, h4, rfl⟩)]; rfl
          · rw [if_neg h4]; congr 1; simp [hM, h4]
        · rw [if_neg h3]; congr 1; simp [hM, h3]
      · rw [if_neg h2]; congr 1; simp [hM, h2]
    · rw [if_neg h1]; congr 1; simp [hM]; intro h; exact absurd h (by simpa using h1)
  · rw [if_neg h0]
    have hM : May t st r m i en ↔ 1 ≤ t ∧ t ≤ 99 ∧ 0 ≤ m ∧ m ≤ 2 ∧ 0 ≤ i ∧ i ≤ 31 ∧ (r = 0 ∨ st = true ∧ rep r = true) ∧ (en = true → m = 2) := by unfold May; rw [if_neg h0]
    have no : ¬ (1 ≤ t ∧ t ≤ 99 ∧ 0 ≤ m ∧ m ≤ 2 ∧ 0 ≤ i ∧ i ≤ 31) → some false = some (decide (May t st r m i en)) := fun h => by
      congr 1; symm; rw [decide_eq_false_iff_not, hM]; intro hh; exact h ⟨hh.1, hh.2.1, hh.2.2.1, hh.2.2.2.1, hh.2.2.2.2.1, hh.2.2.2.2.2.1⟩
    by_cases c1 : t < 1
    · rw [if_pos c1]; exact no (by omega)
    rw [if_neg c1]
    by_cases c2 : t > 99
    · rw [if_pos c2]; exact no (by omega)
    rw [if_neg c2]
    by_cases c3 : m < 0
    · rw [if_pos c3]; exact no (by omega)
    rw [if_neg c3]
    by_cases c4 : m > 2
    · rw [if_pos c4]; exact no (by omega)
    rw [if_neg c4]
    by_cases c5 : i < 0
    · rw [if_pos c5]; exact no (by omega)
    rw [if_neg c5]
    by_cases c6 : i > 31
    · rw [if_pos c6]; exact no (by omega)
    rw [if_neg c6]
    have hM2 : May t st r m i en ↔ (r = 0 ∨ st = true ∧ rep r = true) ∧ (en = true → m = 2) :=
      hM.trans ⟨fun h => h.2.2.2.2.2.2, fun h => ⟨by omega, by omega, by omega, by omega, by omega, by omega, h⟩⟩
    have last : (r = 0 ∨ st = true ∧ rep r = true) → (if ¬ en = true then some true else some (m == 2)) = some (decide (May t st r m i en)) := fun h => by
      cases en with
      | false => rw [if_pos (by simp)]; congr 1; symm; rw [decide_eq_true_eq, hM2]; exact ⟨h, by simp⟩
      | true => rw [if_neg (by simp)]; congr 1; rw [Bool.eq_iff_iff, beq_iff_eq, decide_eq_true_eq, hM2]; exact ⟨fun h2 => ⟨h, fun _ => h2⟩, fun h2 => h2.2 rfl⟩
    by_cases hr0 : r = 0
    · rw [if_neg (by simpa using hr0)]; exact last (.inl hr0)
    · rw [if_pos hr0]
      cases st with
      | false => rw [if_pos (by simp)]; congr 1; symm; rw [decide_eq_false_iff_not, hM2]; simp [hr0]
      | true =>
        rw [if_neg (by simp)]
        cases hre : rep r with
        | false => rw [if_pos (by simp)]; congr 1; symm; rw [decide_eq_false_iff_not, hM2]; simp [hr0, hre]
        | true => rw [if_neg (by simp)]; exact last (.inr ⟨rfl, hre⟩)
def code (x : Int × Bool × Int × Int × Int × Bool × Option Int) : Int × Bool × Int × Int × Int × Bool × Int := (x.1, x.2.1, x.2.2.1, x.2.2.2.1, x.2.2.2.2.1, x.2.2.2.2.2.1, x.2.2.2.2.2.2.getD 0)
theorem rng {n lo hi : Int} {α : Type} (a b : α) : (if n < lo then a else if n > hi then a else b) = if lo ≤ n ∧ n ≤ hi then b else a := by
  by_cases h : n < lo
  · rw [if_pos h, if_neg (by omega)]
  · rw [if_neg h]
    by_cases h2 : n > hi
    · rw [if_pos h2, if_neg (by omega)]
    · rw [if_neg h2, if_pos (by omega)]
theorem rAttach_eq {t : Int} {st : Bool} {r m i : Int} {en : Bool} (k : Int) (hr : 0 ≤ r ∧ r < 4294967296) : halterref27_Attach.f t st r m i en k = some (code (attachS t st r m i en k)) := by
  unfold halterref27_Attach.f attachS
  rw [rMay_eq hr, bind_go]
  simp only [flip, rng, decide_eq_true_eq, ne_eq]
  repeat' split
  all_goals rfl
theorem rStop_eq {t : Int} {st : Bool} {r m i : Int} {en : Bool} {v : Int} (entry : Bool) (hr : 0 ≤ r ∧ r < 4294967296) (hv : 0 ≤ v ∧ v < 4294967296) : halterref27_Stop.f t st r m i en v entry = some (code (stopS t st r m i en v entry)) := by
  unfold halterref27_Stop.f stopS
  rw [rMay_eq hr, bind_go, rReports_eq hv, bind_go]
  simp only [flip, decide_eq_true_eq, ne_eq]
  cases entry
  · simp only [Bool.false_eq_true, if_false, false_and]
    repeat' split
    all_goals rfl
  · simp only [if_true, true_and]
    by_cases h2 : m = 2
    · simp only [h2, not_true_eq_false, if_true, if_false]
      repeat' split
      all_goals rfl
    · simp only [h2, not_false_eq_true, if_true, if_false]
      repeat' split
      all_goals rfl
theorem rCollect_eq {t : Int} {st : Bool} {r m i : Int} {en : Bool} (hr : 0 ≤ r ∧ r < 4294967296) : halterref27_Collect.f t st r m i en = some ((collectS t st r m i en).1, code (collectS t st r m i en).2) := by
  unfold halterref27_Collect.f collectS
  rw [rMay_eq hr, bind_go]
  simp only [flip, decide_eq_true_eq, ne_eq]
  repeat' split
  all_goals rfl
theorem rResume_eq {t : Int} {st : Bool} {r m i : Int} {en : Bool} (how sig : Int) (hr : 0 ≤ r ∧ r < 4294967296) : halterref27_Resume.f t st r m i en how sig = some (code (resumeS t st r m i en how sig)) := by
  unfold halterref27_Resume.f resumeS
  rw [rMay_eq hr, bind_go]
  simp only [flip, rng, decide_eq_true_eq, ne_eq]
  by_cases h2 : how = 2
  · subst h2
    cases en
    · rw [if_pos rfl]
      repeat' split
      all_goals rfl
    · rw [if_pos rfl]
      repeat' split
      all_goals rfl
  · rw [if_neg h2, show (how == 2) = false by simpa using h2, Bool.and_false]
    repeat' split
    all_goals rfl
theorem rTake_eq {t : Int} {st : Bool} {r m i : Int} {en : Bool} (hr : 0 ≤ r ∧ r < 4294967296) : halterref27_Take.f t st r m i en = some (takeS t st r m i en) := by
  unfold halterref27_Take.f takeS
  rw [rMay_eq hr, bind_go]
  simp only [flip, decide_eq_true_eq, ne_eq]
  repeat' split
  all_goals rfl
theorem TraceSteps (a0 : Int) (a1 : Bool) (a2 : Int) (a3 : Int) (a4 : Int) (a5 : Bool) (a6 : (List Int)) (a7 : Int) (h0 : (Lit.int .i64 a0).wf = true) (h1 : (Lit.int .u32 a2).wf = true) (h2 : (Lit.int .i64 a3).wf = true) (h3 : (Lit.int .i64 a4).wf = true) (h4 : List.length a6 = 3) (h5 : ∀ z ∈ a6, (Lit.int .i64 z).wf = true) (h6 : (Lit.int .u32 a7).wf = true) : halterlaw27_TraceSteps.f a0 a1 a2 a3 a4 a5 a6 a7 = some true := by
  have hr := u32_bd h1
  have hv := u32_bd h6
  unfold halterlaw27_TraceSteps.f
  rw [Attach_eq _ hr, bind_go, rAttach_eq _ hr, bind_go, Stop_eq _ hr hv, bind_go, rStop_eq _ hr hv, bind_go, Collect_eq hr, bind_go, rCollect_eq hr, bind_go, Resume_eq _ _ hr, bind_go, rResume_eq _ _ hr, bind_go, Take_eq hr, bind_go, rTake_eq hr, bind_go, Check_eq hr, rMay_eq hr, sure_eq]
  unfold num.f code trace_Free.f
  simp only [bind_go, and_self, if_true]
  by_cases h : May a0 a1 a2 a3 a4 a5
  · rw [if_pos h, decide_eq_true h]; rfl
  · rw [if_neg h, decide_eq_false h]; rfl

end Go.Proofs.YtlaemcglemakjaaDoor.Pure
