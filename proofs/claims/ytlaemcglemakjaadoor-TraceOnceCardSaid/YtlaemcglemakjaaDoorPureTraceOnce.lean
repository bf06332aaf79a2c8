/- The plain law: what the law computes is true, whatever it is handed. -/
import Derived.Test.YtlaemcglemakjaaDoorGTraceOnce
import Derived.Test.YtlaemcglemakjaaDoorE16
import Derived.Laws.BitsAllLaws
set_option linter.unusedVariables false
set_option linter.unusedSimpArgs false
set_option linter.unnecessarySimpa false
namespace Go.Proofs.YtlaemcglemakjaaDoor.Pure
open Go Go.Proofs.YtlaemcglemakjaaDoorE Go.Proofs.YtlaemcglemakjaaDoorGTraceOnce
theorem wu8 (x : Int) : IntKind.wrap .u8 x = x % 256 := by simp [IntKind.wrap, IntKind.bits, IntKind.signed]
theorem wu16 (x : Int) : IntKind.wrap .u16 x = x % 65536 := by simp [IntKind.wrap, IntKind.bits, IntKind.signed]
theorem wu32 (x : Int) : IntKind.wrap .u32 x = x % 4294967296 := by simp [IntKind.wrap, IntKind.bits, IntKind.signed]
theorem wu64 (x : Int) : IntKind.wrap .u64 x = x % 18446744073709551616 := by simp [IntKind.wrap, IntKind.bits, IntKind.signed]
theorem wi64 {x : Int} (h : -9223372036854775808 ≤ x) (h' : x ≤ 9223372036854775807) : IntKind.wrap .i64 x = x := by
  simp [IntKind.wrap, IntKind.bits, IntKind.signed]
  omega
theorem wu8_id {x : Int} (h : 0 ≤ x ∧ x < 256) : IntKind.wrap .u8 x = x := by rw [wu8]; omega
theorem wu32_id {x : Int} (h : 0 ≤ x ∧ x < 4294967296) : IntKind.wrap .u32 x = x := by rw [wu32]; omega
theorem wu64_id {x : Int} (h : 0 ≤ x ∧ x < 18446744073709551616) : IntKind.wrap .u64 x = x := by rw [wu64]; omega
theorem wsucc {i : Nat} (h : i < 9223372036854775807) : IntKind.wrap .i64 ((i : Int) + 1) = ((i + 1 : Nat) : Int) := by rw [wi64 (by omega) (by omega)]; omega
theorem u8_bd {a : Int} (h : (Lit.int .u8 a).wf = true) : 0 ≤ a ∧ a < 256 := by
  simpa [Lit.wf, IntKind.min, IntKind.max, IntKind.signed, IntKind.bits, ← Int.lt_add_one_iff] using h
theorem u32_bd {a : Int} (h : (Lit.int .u32 a).wf = true) : 0 ≤ a ∧ a < 4294967296 := by
  simpa [Lit.wf, IntKind.min, IntKind.max, IntKind.signed, IntKind.bits, ← Int.lt_add_one_iff] using h
theorem u64_bd {a : Int} (h : (Lit.int .u64 a).wf = true) : 0 ≤ a ∧ a < 18446744073709551616 := by
  simpa [Lit.wf, IntKind.min, IntKind.max, IntKind.signed, IntKind.bits, ← Int.lt_add_one_iff] using h
theorem i64_bd {a : Int} (h : (Lit.int .i64 a).wf = true) : -9223372036854775808 ≤ a ∧ a < 9223372036854775808 := by
  simpa [Lit.wf, IntKind.min, IntKind.max, IntKind.signed, IntKind.bits, ← Int.lt_add_one_iff] using h
theorem fuel_gt {n : Nat} (h : n < 18446744073709551616) : n < FUEL := h
theorem bind_go {α β : Type} (a : α) (f : α → Option β) : (some a).bind f = f a := by rw [Option.bind_some]
theorem drop_getD {α : Type} (l : List α) (i : Nat) (d : α) (h : i < l.length) : l.drop i = l.getD i d :: l.drop (i + 1) := by
  rw [List.drop_eq_getElem_cons h, List.getD_eq_getElem?_getD, List.getElem?_eq_getElem h, Option.getD_some]
theorem getD_mem {α : Type} (l : List α) (i : Nat) (d : α) (h : i < l.length) : l.getD i d ∈ l := by
  rw [List.getD_eq_getElem?_getD, List.getElem?_eq_getElem h, Option.getD_some]; exact List.getElem_mem _
theorem toNat_nat (i : Nat) : Int.toNat (i : Int) = i := rfl
/-- A number behind another one: a round of a loop. -/
theorem fuel_step {d n : Nat} (h : d < n) : ∃ m, n = m + 1 := ⟨n - 1, by omega⟩
/-- Where something stands first. -/
def first (v : Int) : List Int → Option Nat
  | [] => none
  | x :: xs => if x = v then some 0 else (first v xs).map (· + 1)
theorem first_none {v : Int} : ∀ {l : List Int}, first v l = none → ∀ z ∈ l, z ≠ v
  | [], _, z, hz => by cases hz
  | x :: xs, h, z, hz => by
    unfold first at h
    split at h
    · cases h
    · rename_i hx
      rcases List.mem_cons.1 hz with rfl | hz
      · exact hx
      · exact first_none (by simpa using h) z hz
theorem first_some {v : Int} : ∀ {l : List Int} {k : Nat}, first v l = some k → k < l.length ∧ l.getD k 0 = v ∧ ∀ j, j < k → l.getD j 0 ≠ v
  | [], _, h => by cases h
  | x :: xs, k, h => by
    unfold first at h
    split at h
    · cases h
      rename_i hx
      exact ⟨by simp, by simpa using hx, fun j hj => by omega⟩
    · rename_i hx
      cases hf : first v xs with
      | none => simp [hf] at h
      | some m =>
        simp [hf] at h
        subst h
        obtain ⟨h1, h2, h3⟩ := first_some hf
        refine ⟨by simp; omega, by simpa using h2, fun j hj => ?_⟩
        cases j with
        | zero => simpa using hx
        | succ j => simpa using h3 j (by omega)

theorem ofInt_i64 (a : Nat) (ha : a < 18446744073709551616) : (BitVec.ofInt 64 (a : Int)).toNat = a := by
  rw [BitVec.ofInt_natCast, BitVec.toNat_ofNat]; exact Nat.mod_eq_of_lt (by omega)
theorem i64_and (a b : Nat) (ha : a < 9223372036854775808) (hb : b < 9223372036854775808) : bits .and .i64 (a : Int) (b : Int) = ((a &&& b : Nat) : Int) := by
  have hx : a &&& b < 2 ^ 63 := Nat.and_lt_two_pow _ (by omega)
  show IntKind.i64.wrap ((BitVec.ofInt 64 (a : Int) &&& BitVec.ofInt 64 (b : Int)).toNat : Int) = _
  rw [BitVec.toNat_and, ofInt_i64 a (by omega), ofInt_i64 b (by omega), wi64 (by omega) (by omega)]
theorem i64_or (a b : Nat) (ha : a < 9223372036854775808) (hb : b < 9223372036854775808) : bits .or .i64 (a : Int) (b : Int) = ((a ||| b : Nat) : Int) := by
  have hx : a ||| b < 2 ^ 63 := Nat.or_lt_two_pow (by omega) (by omega)
  show IntKind.i64.wrap ((BitVec.ofInt 64 (a : Int) ||| BitVec.ofInt 64 (b : Int)).toNat : Int) = _
  rw [BitVec.toNat_or, ofInt_i64 a (by omega), ofInt_i64 b (by omega), wi64 (by omega) (by omega)]
theorem i64_andNot (a b : Nat) (ha : a < 9223372036854775808) (hb : b < 9223372036854775808) : bits .andNot .i64 (a : Int) (b : Int) = ((a &&& (18446744073709551615 - b) : Nat) : Int) := by
  have hx : a &&& (18446744073709551615 - b) < 2 ^ 63 := Nat.lt_of_le_of_lt Nat.and_le_left (by omega)
  show IntKind.i64.wrap ((BitVec.ofInt 64 (a : Int) &&& ~~~BitVec.ofInt 64 (b : Int)).toNat : Int) = _
  rw [BitVec.toNat_and, BitVec.toNat_not, ofInt_i64 a (by omega), ofInt_i64 b (by omega)]
  have e : 2 ^ 64 - 1 - b = 18446744073709551615 - b := by omega
  rw [e, wi64 (by omega) (by omega)]
/-- A bit taken away. -/
theorem nat_unbit (i x w : Nat) (hi : i < w) (hx : x < 2 ^ w) : x &&& (2 ^ w - 1 - 2 ^ i) = x - x / 2 ^ i % 2 * 2 ^ i := by
  have hp : (2 : Nat) ^ (i + 1) = 2 * 2 ^ i := by rw [Nat.pow_succ]; omega
  have e : x - x / 2 ^ i % 2 * 2 ^ i = 2 ^ (i + 1) * (x / 2 ^ (i + 1)) + x % 2 ^ i := by
    have h1 := Nat.div_add_mod x (2 ^ i)
    have h2 := Nat.div_add_mod (x / 2 ^ i) 2
    have h3 : x / 2 ^ (i + 1) = x / 2 ^ i / 2 := by rw [Nat.pow_succ, Nat.div_div_eq_div_mul]
    rw [h3, hp]
    generalize x / 2 ^ i = q at *
    generalize x % 2 ^ i = r at *
    generalize 2 ^ i = P at *
    have h4 : 2 * P * (q / 2) = P * (2 * (q / 2)) := by rw [Nat.mul_comm 2 P, Nat.mul_assoc]
    have h5 : P * q = P * (2 * (q / 2)) + P * (q % 2) := by rw [← Nat.mul_add, h2]
    rw [h4, Nat.mul_comm (q % 2) P]
    omega
  have hr : x % 2 ^ i < 2 ^ (i + 1) := by
    have := Nat.mod_lt x (Nat.two_pow_pos i)
    omega
  rw [e]
  apply Nat.eq_of_testBit_eq
  intro j
  rw [Nat.sub_sub, Nat.add_comm 1 (2 ^ i), Nat.testBit_and, Nat.testBit_two_pow_sub_succ (Nat.pow_lt_pow_right (by omega) hi), Nat.testBit_two_pow, Nat.testBit_two_pow_mul_add _ hr]
  by_cases hj : j < i + 1
  · rw [if_pos hj, Nat.testBit_mod_two_pow]
    by_cases h2 : j = i
    · subst h2; simp
    · have h3 : j < i := by omega
      have h4 : j < w := by omega
      simp [h3, h4, Ne.symm h2]
  · rw [if_neg hj, Nat.testBit_div_two_pow, show j - (i + 1) + (i + 1) = j by omega]
    have h2 : ¬ i = j := by omega
    by_cases hw : j < w
    · simp [hw, h2]
    · have : x.testBit j = false := Nat.testBit_lt_two_pow (Nat.lt_of_lt_of_le hx (Nat.pow_le_pow_right (by omega) (by omega)))
      simp [this]

/-- What a kind and a number are told as. -/
def enc (k n : Int) : Option Int :=
  if k = 0 ∧ 0 ≤ n ∧ n < 256 then some (256 * n) else if 1 ≤ n ∧ n ≤ 31 then (if k = 1 then some n else if k = 2 then some (256 * n + 127) else if k = 3 then some (256 * (n + 128) + 127) else none) else none
theorem signal_eq (n : Int) : status_signal.f n = some (decide (1 ≤ n ∧ n ≤ 31)) := by
  unfold status_signal.f
  by_cases h : n ≥ 1
  · rw [if_pos h]; congr 1; exact decide_eq_decide.2 ⟨fun h2 => ⟨h, h2⟩, fun h2 => h2.2⟩
  · rw [if_neg h]; congr 1; simp; omega
theorem shl8 {n : Int} (h : 0 ≤ n ∧ n < 256) : shl .u32 (IntKind.wrap .u32 n) 8 = 256 * n := by
  simp only [shl, wu32, IntKind.bits]
  have : min (Int.toNat 8) 32 = 8 := by decide
  rw [this]
  simp
  omega
theorem or127 {n : Int} (h : 0 ≤ n ∧ n < 256) : bits .or .u32 (256 * n) 127 = 256 * n + 127 := by
  obtain ⟨a, rfl⟩ := Int.eq_ofNat_of_zero_le h.1
  rw [show (256 * (a : Int)) = ((256 * a : Nat) : Int) by omega, show (127 : Int) = ((127 : Nat) : Int) from rfl, u32_or_nat _ _ (by omega) (by omega), nat_join 8 (256 * a) 127 (by omega) (by omega)]
  omega
theorem or128 {n : Int} (h : 0 ≤ n ∧ n < 128) : bits .or .i64 n 128 = n + 128 := by
  obtain ⟨a, rfl⟩ := Int.eq_ofNat_of_zero_le h.1
  rw [show (128 : Int) = ((128 : Nat) : Int) from rfl, i64_or _ _ (by omega) (by omega), Nat.or_comm, nat_join 7 128 a (by omega) (by omega)]
  omega
theorem and128 {n : Int} (h : 0 ≤ n ∧ n < 16777216) : bits .and .i64 n 128 = n / 128 % 2 * 128 := by
  obtain ⟨a, rfl⟩ := Int.eq_ofNat_of_zero_le h.1
  rw [show bits .and .i64 (a : Int) 128 = bits .and .i64 (a : Int) ((128 : Nat) : Int) from rfl, i64_and _ _ (by omega) (by omega), show (128 : Nat) = 2 ^ 7 from rfl, nat_bit 7 a]
  omega
theorem andNot128 {n : Int} (h : 0 ≤ n ∧ n < 16777216) : bits .andNot .i64 n 128 = n - n / 128 % 2 * 128 := by
  obtain ⟨a, rfl⟩ := Int.eq_ofNat_of_zero_le h.1
  rw [show bits .andNot .i64 (a : Int) 128 = bits .andNot .i64 (a : Int) ((128 : Nat) : Int) from rfl, i64_andNot _ _ (by omega) (by omega)]
  have := nat_unbit 7 a 64 (by omega) (by omega)
  rw [show (18446744073709551615 - 128 : Nat) = 2 ^ 64 - 1 - 2 ^ 7 from rfl, this]
  have : (2 : Nat) ^ 7 = 128 := rfl
  rw [this]
  omega
theorem Of_eq (k n : Int) : status_Of.f k n = some (match enc k n with | some v => (v, none) | none => (0, some 22)) := by
  unfold status_Of.f enc
  simp only [signal_eq, bind_go, decide_eq_true_eq]
  by_cases hs : 1 ≤ n ∧ n ≤ 31
  · have e1 : shl .u32 (IntKind.wrap .u32 n) 8 = 256 * n := shl8 ⟨by omega, by omega⟩
    have e2 : bits .or .u32 (256 * n) 127 = 256 * n + 127 := or127 ⟨by omega, by omega⟩
    have e3 : bits .or .i64 n 128 = n + 128 := or128 ⟨by omega, by omega⟩
    have e4 : shl .u32 (IntKind.wrap .u32 (n + 128)) 8 = 256 * (n + 128) := shl8 ⟨by omega, by omega⟩
    have e5 : bits .or .u32 (256 * (n + 128)) 127 = 256 * (n + 128) + 127 := or127 ⟨by omega, by omega⟩
    have e6 : IntKind.wrap .u32 n = n := wu32_id ⟨by omega, by omega⟩
    have g1 : n ≥ 0 := by omega
    have g2 : n < 256 := by omega
    rw [e1, e2, e3, e4, e5, e6]
    simp only [hs, g1, g2, if_true, and_self, and_true]
    clear e1 e2 e3 e4 e5 e6
    by_cases k0 : k = 0
    · rw [if_pos k0, if_pos k0]
    rw [if_neg k0, if_neg k0]
    by_cases k1 : k = 1
    · rw [if_pos k1, if_pos k1]
    rw [if_neg k1, if_neg k1]
    by_cases k2 : k = 2
    · rw [if_pos k2, if_pos k2]
    rw [if_neg k2, if_neg k2]
    by_cases k3 : k = 3
    · rw [if_pos k3, if_pos k3]
    rw [if_neg k3, if_neg k3]
  · simp only [hs, if_false]
    by_cases h2 : k = 0 ∧ 0 ≤ n ∧ n < 256
    · rw [if_pos h2, if_pos h2.1, if_pos (by omega), if_pos (by omega), shl8 ⟨by omega, by omega⟩]
    · rw [if_neg h2]
      dsimp only
      by_cases k0 : k = 0
      · rw [if_pos k0]
        by_cases h3 : n ≥ 0
        · rw [if_pos h3, if_neg (by omega)]
          repeat' split
          all_goals rfl
        · rw [if_neg h3]
          repeat' split
          all_goals rfl
      · rw [if_neg k0]
        repeat' split
        all_goals rfl
/-- What a number tells. -/
def dec (v : Int) : Option (Int × Int) :=
  if v % 256 = 0 then (if v / 256 < 256 then some (0, v / 256) else none)
  else if 1 ≤ v ∧ v ≤ 31 then some (1, v)
  else if v % 256 = 127 ∧ 1 ≤ v / 256 ∧ v / 256 ≤ 31 then some (2, v / 256)
  else if v % 256 = 127 ∧ 129 ≤ v / 256 ∧ v / 256 ≤ 159 then some (3, v / 256 - 128) else none
theorem enc_iff (k n v : Int) (hv : 0 ≤ v ∧ v < 4294967296) : enc k n = some v ↔ dec v = some (k, n) := by
  unfold enc dec
  constructor
  · intro h
    split at h
    · rename_i h1
      obtain ⟨rfl, h2, h3⟩ := h1
      cases h
      rw [if_pos (by omega), if_pos (by omega)]
      congr 2; omega
    · split at h
      · rename_i h2
        split at h
        · rename_i h3; subst h3; cases h
          rw [if_neg (by omega), if_pos (by omega)]
        · split at h
          · rename_i h3; subst h3; cases h
            rw [if_neg (by omega), if_neg (by omega), if_pos (by omega)]
            congr 2; omega
          · split at h
            · rename_i h3; subst h3; cases h
              rw [if_neg (by omega), if_neg (by omega), if_neg (by omega), if_pos (by omega)]
              congr 2; omega
            · cases h
      · cases h
  · intro h
    split at h
    · rename_i h1
      split at h
      · cases h
        rw [if_pos ⟨rfl, by omega, by omega⟩]; congr 1; omega
      · cases h
    · rename_i h0
      split at h
      · cases h
        rw [if_neg (by omega), if_pos (by omega), if_pos rfl]
      · split at h
        · cases h
          rw [if_neg (by omega), if_pos (by omega), if_neg (by omega), if_pos rfl]; congr 1; omega
        · split at h
          · cases h
            rw [if_neg (by omega), if_pos (by omega), if_neg (by omega), if_neg (by omega), if_pos rfl]; congr 1; omega
          · cases h
def what (v : Int) : Int × Int × Option Int := match dec v with | some p => (p.1, p.2, none) | none => (0, 0, some 22)
theorem What_eq {v : Int} (hv : 0 ≤ v ∧ v < 4294967296) : status_What.f v = some (what v) := by
  have e1 : Int.tmod v 256 = v % 256 := Int.tmod_eq_emod_of_nonneg hv.1
  have e2 : shr .u32 v 8 = v / 256 := by simp [shr, IntKind.bits]
  have e3 : IntKind.wrap .i64 (v / 256) = v / 256 := wi64 (by omega) (by omega)
  have e4 : IntKind.wrap .i64 v = v := wi64 (by omega) (by omega)
  have e5 := and128 (n := v / 256) ⟨by omega, by omega⟩
  have e6 := andNot128 (n := v / 256) ⟨by omega, by omega⟩
  have key : ∀ k n, status_kind.f v = some (k, n) → (∀ k' n', dec v = some (k', n') → k' = k ∧ n' = n) → status_What.f v = some (what v) := by
    intro k n hk hd
    unfold status_What.f
    rw [hk, bind_go, Of_eq, bind_go]
    cases he : enc k n with
    | none =>
      dsimp only
      rw [if_pos (by simp)]
      unfold what
      cases hdv : dec v with
      | none => rfl
      | some p =>
        obtain ⟨k', n'⟩ := p
        obtain ⟨rfl, rfl⟩ := hd k' n' hdv
        rw [(enc_iff k' n' v hv).2 hdv] at he
        cases he
    | some w =>
      dsimp only
      rw [if_neg (by simp)]
      by_cases hw : w = v
      · rw [if_neg (by simpa using hw)]
        subst hw
        have := (enc_iff k n w hv).1 he
        unfold what
        rw [this]
      · rw [if_pos hw]
        unfold what
        cases hdv : dec v with
        | none => rfl
        | some p =>
          obtain ⟨k', n'⟩ := p
          obtain ⟨rfl, rfl⟩ := hd k' n' hdv
          rw [(enc_iff k' n' v hv).2 hdv] at he
          cases he
          exact absurd rfl hw
  by_cases h0 : v % 256 = 0
  · refine key 0 (v / 256) (by unfold status_kind.f; rw [e1, if_pos h0, e2, e3]) fun k' n' h => ?_
    unfold dec at h
    rw [if_pos h0] at h
    split at h <;> cases h
    exact ⟨rfl, rfl⟩
  by_cases h1 : v % 256 = 127
  · by_cases h2 : v / 256 / 128 % 2 = 1
    · refine key 3 (v / 256 - 128) (by unfold status_kind.f; rw [e1, if_neg h0, if_neg (by simpa using h1), e2, e3, e5, if_pos (by omega), e6, h2]; rfl) fun k' n' h => ?_
      unfold dec at h
      rw [if_neg h0, if_neg (by omega), if_neg (by omega)] at h
      split at h <;> cases h
      exact ⟨rfl, rfl⟩
    · refine key 2 (v / 256) (by unfold status_kind.f; rw [e1, if_neg h0, if_neg (by simpa using h1), e2, e3, e5, if_neg (by omega)]) fun k' n' h => ?_
      unfold dec at h
      rw [if_neg h0, if_neg (by omega)] at h
      split at h
      · cases h; exact ⟨rfl, rfl⟩
      · split at h
        · omega
        · cases h
  · refine key 1 v (by unfold status_kind.f; rw [e1, if_neg h0, if_pos h1, e4]) fun k' n' h => ?_
    unfold dec at h
    rw [if_neg h0] at h
    split at h
    · cases h; exact ⟨rfl, rfl⟩
    · rw [if_neg (by omega), if_neg (by omega)] at h
      cases h

theorem rOf_eq {k n : Int} (hn : 0 ≤ n ∧ n < 256 ∨ (Lit.int .i64 n).wf = true) : halterref26_Of.f k n = some (match enc k n with | some v => (v, 0) | none => (0, 22)) := by
  unfold halterref26_Of.f enc
  by_cases hs : 1 ≤ n ∧ n ≤ 31
  · have e1 : IntKind.wrap .i64 (256 * n) = 256 * n := wi64 (by omega) (by omega)
    have e2 : IntKind.wrap .u32 (256 * n) = 256 * n := wu32_id ⟨by omega, by omega⟩
    have e3 : IntKind.wrap .i64 (256 * n + 127) = 256 * n + 127 := wi64 (by omega) (by omega)
    have e4 : IntKind.wrap .u32 (256 * n + 127) = 256 * n + 127 := wu32_id ⟨by omega, by omega⟩
    have e5 : IntKind.wrap .i64 (n + 128) = n + 128 := wi64 (by omega) (by omega)
    have e6 : IntKind.wrap .i64 (256 * (n + 128)) = 256 * (n + 128) := wi64 (by omega) (by omega)
    have e7 : IntKind.wrap .i64 (256 * (n + 128) + 127) = 256 * (n + 128) + 127 := wi64 (by omega) (by omega)
    have e8 : IntKind.wrap .u32 (256 * (n + 128) + 127) = 256 * (n + 128) + 127 := wu32_id ⟨by omega, by omega⟩
    have e9 : IntKind.wrap .u32 n = n := wu32_id ⟨by omega, by omega⟩
    rw [e1, e2, e3, e4, e5, e6, e7, e8, e9]
    clear e1 e2 e3 e4 e5 e6 e7 e8 e9
    rw [if_pos (show n ≥ 0 by omega), if_pos (show n ≤ 255 by omega), if_neg (show ¬ n < 1 by omega), if_neg (show ¬ n > 31 by omega), if_pos hs]
    by_cases k0 : k = 0
    · rw [if_pos k0, if_pos ⟨k0, by omega, by omega⟩]
    by_cases k1 : k = 1
    · subst k1; simp
    by_cases k2 : k = 2
    · subst k2; simp
    by_cases k3 : k = 3
    · subst k3; simp
    by_cases h : k < 1
    · simp [k0, k1, k2, k3, h]
    · have h3 : k > 3 := by omega
      simp [k0, k1, k2, k3, h, h3]
  · rw [if_neg hs]
    by_cases h2 : k = 0 ∧ 0 ≤ n ∧ n < 256
    · rw [if_pos h2, if_pos h2.1, if_pos (by omega), if_pos (by omega)]
      have e1 : IntKind.wrap .i64 (256 * n) = 256 * n := wi64 (by omega) (by omega)
      have e2 : IntKind.wrap .u32 (256 * n) = 256 * n := wu32_id ⟨by omega, by omega⟩
      rw [e1, e2]
    · rw [if_neg h2]
      dsimp only
      have e : n < 1 ∨ n > 31 := by omega
      by_cases k0 : k = 0
      · rw [if_pos k0]
        by_cases h3 : n ≥ 0
        · rw [if_pos h3, if_neg (by omega), if_pos (by omega)]
        · rw [if_neg h3, if_pos (by omega)]
      · rw [if_neg k0]
        by_cases h3 : k < 1
        · rw [if_pos h3]
        · rw [if_neg h3]
          by_cases h4 : k > 3
          · rw [if_pos h4]
          · rw [if_neg h4]
            by_cases h5 : n < 1
            · rw [if_pos h5]
            · rw [if_neg h5, if_pos (by omega)]
theorem enc_pos {k n v : Int} (h : enc k n = some v) : 0 ≤ v ∧ v < 65536 := by
  unfold enc at h
  split at h
  · cases h; omega
  · split at h
    · split at h
      · cases h; omega
      · split at h
        · cases h; omega
        · split at h
          · cases h; omega
          · cases h
    · cases h

theorem sure_eq : halterlaw27_sure.f = some true := by kernel_rfl
/-- Can a number be reported? -/
def rep (v : Int) : Bool := decide ((what v).2.2 = none ∧ ((what v).1 = 2 ∨ (what v).1 = 3))
theorem report_eq {v : Int} (hv : 0 ≤ v ∧ v < 4294967296) : trace_report.f v = some (rep v) := by
  unfold trace_report.f rep
  rw [What_eq hv, bind_go]
  generalize what v = p
  obtain ⟨k, n, e⟩ := p
  dsimp only
  cases e with
  | some c => rw [if_neg (by simp)]; simp
  | none =>
    rw [if_pos rfl]
    by_cases h2 : k = 2
    · rw [if_pos h2]; simp [h2]
    · rw [if_neg h2]; congr 1; simp [h2]; exact Bool.eq_iff_iff.2 (by simp)
theorem pids_eq (n : Int) : pids_Check.f n = some (if 1 ≤ n ∧ n ≤ 99 then none else some 22) := by
  unfold pids_Check.f
  by_cases h : n < 1
  · rw [if_pos h, if_neg (by omega)]
  · rw [if_neg h]
    by_cases h2 : n > 99
    · rw [if_pos h2, if_neg (by omega)]
    · rw [if_neg h2, if_pos (by omega)]
theorem mode_eq (n : Int) : trace_mode.f n = some (decide (0 ≤ n ∧ n ≤ 2)) := by
  unfold trace_mode.f
  by_cases h : n ≥ 0
  · rw [if_pos h]; congr 1; exact decide_eq_decide.2 ⟨fun h2 => ⟨h, h2⟩, fun h2 => h2.2⟩
  · rw [if_neg h]; congr 1; simp; omega
theorem tsignal_eq (n : Int) : trace_signal.f n = some (decide (0 ≤ n ∧ n ≤ 31)) := by
  unfold trace_signal.f
  by_cases h : n ≥ 0
  · rw [if_pos h]; congr 1; exact decide_eq_decide.2 ⟨fun h2 => ⟨h, h2⟩, fun h2 => h2.2⟩
  · rw [if_neg h]; congr 1; simp; omega
/-- May a state be? -/
def May (t : Int) (st : Bool) (r m i : Int) (en : Bool) : Prop :=
  if t = 0 then st = false ∧ r = 0 ∧ m = 0 ∧ i = 0 ∧ en = false
  else 1 ≤ t ∧ t ≤ 99 ∧ 0 ≤ m ∧ m ≤ 2 ∧ 0 ≤ i ∧ i ≤ 31 ∧ (r = 0 ∨ st = true ∧ rep r = true) ∧ (en = true → m = 2)
instance (t : Int) (st : Bool) (r m i : Int) (en : Bool) : Decidable (May t st r m i en) := by unfold May; infer_instance
theorem Check_eq {t : Int} {st : Bool} {r m i : Int} {en : Bool} (hr : 0 ≤ r ∧ r < 4294967296) : trace_Check.f t st r m i en = some (if May t st r m i en then none else some 22) := by
  unfold trace_Check.f
  rw [pids_eq, mode_eq, tsignal_eq, report_eq hr]
  simp only [bind_go]
  by_cases h0 : t = 0
  · rw [if_pos h0]
    by_cases h1 : st = false ∧ r = 0 ∧ m = 0 ∧ i = 0 ∧ en = false
    · rw [if_neg (by simp [h0, h1]), if_pos (by unfold May; rw [if_pos h0]; exact h1)]
    · rw [if_pos (fun h => h1 h.2), if_neg (by unfold May; rw [if_pos h0]; exact h1)]
  · rw [if_neg h0]
    by_cases hp : 1 ≤ t ∧ t ≤ 99
    · rw [if_pos hp, if_pos rfl]
      by_cases hm : 0 ≤ m ∧ m ≤ 2
      · rw [if_pos (by simpa using hm)]
        by_cases hi : 0 ≤ i ∧ i ≤ 31
        · rw [if_neg (by simpa using hi)]
          have hM : May t st r m i en ↔ (r = 0 ∨ st = true ∧ rep r = true) ∧ (en = true → m = 2) := by
            unfold May; rw [if_neg h0]
            exact ⟨fun h => h.2.2.2.2.2.2, fun h => ⟨hp.1, hp.2, hm.1, hm.2, hi.1, hi.2, h⟩⟩
          by_cases hr0 : r = 0
          · rw [if_neg (by simpa using hr0)]
            cases en with
            | false => rw [if_neg (by simp), if_pos (hM.2 ⟨.inl hr0, by simp⟩)]
            | true =>
              by_cases h2 : m = 2
              · rw [if_pos rfl, if_neg (by simpa using h2), if_pos (hM.2 ⟨.inl hr0, fun _ => h2⟩)]
              · rw [if_pos rfl, if_pos h2, if_neg (fun h => h2 ((hM.1 h).2 rfl))]
          · rw [if_pos hr0]
            cases st with
            | false => rw [if_pos (by simp), if_neg (fun h => by have := (hM.1 h).1; simp [hr0] at this)]
            | true =>
              rw [if_neg (by simp)]
              cases hre : rep r with
              | false => rw [if_pos (by simp), if_neg (fun h => by have := (hM.1 h).1; simp [hr0, hre] at this)]
              | true =>
                rw [if_neg (by simp)]
                cases en with
                | false => rw [if_neg (by simp), if_pos (hM.2 ⟨.inr ⟨rfl, hre⟩, by simp⟩)]
                | true =>
                  by_cases h2 : m = 2
                  · rw [if_pos rfl, if_neg (by simpa using h2), if_pos (hM.2 ⟨.inr ⟨rfl, hre⟩, fun _ => h2⟩)]
                  · rw [if_pos rfl, if_pos h2, if_neg (fun h => h2 ((hM.1 h).2 rfl))]
        · rw [if_pos (by simp; omega), if_neg (fun h => by unfold May at h; rw [if_neg h0] at h; omega)]
      · rw [if_neg (by simp; omega), if_neg (fun h => by unfold May at h; rw [if_neg h0] at h; omega)]
    · rw [if_neg hp, if_neg (by simp), if_neg (fun h => by unfold May at h; rw [if_neg h0] at h; omega)]
/-! ### What each does -/
abbrev S6 := Int × Bool × Int × Int × Int × Bool
def zero6 (e : Option Int) : Int × Bool × Int × Int × Int × Bool × Option Int := (0, false, 0, 0, 0, false, e)
def attachS (t : Int) (st : Bool) (r m i : Int) (en : Bool) (k : Int) : Int × Bool × Int × Int × Int × Bool × Option Int :=
  if ¬ May t st r m i en then zero6 (some 22) else if ¬ (1 ≤ k ∧ k ≤ 99) then zero6 (some 22) else if t ≠ 0 then zero6 (some 1) else (k, false, 0, 0, 0, false, none)
theorem chk {p : Prop} [Decidable p] {α : Type} (a b : α) : (if (if p then none else some (22 : Int)) = none then a else b) = if p then a else b := by
  by_cases h : p
  · rw [if_pos h, if_pos rfl, if_pos h]
  · rw [if_neg h, if_neg (by simp), if_neg h]
theorem flip {p : Prop} [Decidable p] {α : Type} (a b : α) : (if ¬ p then a else b) = if p then b else a := by
  by_cases h : p
  · rw [if_pos h, if_neg (by simpa using h)]
  · rw [if_neg h, if_pos h]
theorem some_if {p : Prop} [Decidable p] {α : Type} (a b : α) : (if p then some a else some b) = some (if p then a else b) := by split <;> rfl
theorem Attach_eq {t : Int} {st : Bool} {r m i : Int} {en : Bool} (k : Int) (hr : 0 ≤ r ∧ r < 4294967296) : trace_Attach.f t st r m i en k = some (attachS t st r m i en k) := by
  unfold trace_Attach.f attachS
  rw [Check_eq hr, bind_go, pids_eq, bind_go]
  simp only [chk, flip, some_if, ne_eq]
  rfl
def stopS (t : Int) (st : Bool) (r m i : Int) (en : Bool) (v : Int) (entry : Bool) : Int × Bool × Int × Int × Int × Bool × Option Int :=
  if ¬ May t st r m i en then zero6 (some 22) else if ¬ rep v = true then zero6 (some 22) else if entry = true ∧ m ≠ 2 then zero6 (some 22) else if t = 0 then zero6 (some 3) else if st = true then zero6 (some 22) else (t, true, v, m, i, entry, none)
theorem Stop_eq {t : Int} {st : Bool} {r m i : Int} {en : Bool} {v : Int} (entry : Bool) (hr : 0 ≤ r ∧ r < 4294967296) (hv : 0 ≤ v ∧ v < 4294967296) : trace_Stop.f t st r m i en v entry = some (stopS t st r m i en v entry) := by
  unfold trace_Stop.f stopS
  rw [Check_eq hr, bind_go, report_eq hv, bind_go]
  simp only [chk, flip, some_if, ne_eq]
  cases entry
  · simp [zero6]
  · by_cases h : m = 2
    · simp [zero6, h]
    · simp [zero6, h]
def collectS (t : Int) (st : Bool) (r m i : Int) (en : Bool) : Int × Int × Bool × Int × Int × Int × Bool × Option Int :=
  if ¬ May t st r m i en then (0, zero6 (some 22)) else if r = 0 then (0, zero6 (some 10)) else (r, t, st, 0, m, i, en, none)
theorem Collect_eq {t : Int} {st : Bool} {r m i : Int} {en : Bool} (hr : 0 ≤ r ∧ r < 4294967296) : trace_Collect.f t st r m i en = some (collectS t st r m i en) := by
  unfold trace_Collect.f collectS
  rw [Check_eq hr, bind_go]
  simp only [chk, flip, some_if, ne_eq]
  rfl
def resumeS (t : Int) (st : Bool) (r m i : Int) (en : Bool) (how sig : Int) : Int × Bool × Int × Int × Int × Bool × Option Int :=
  if ¬ May t st r m i en then zero6 (some 22) else if ¬ (0 ≤ how ∧ how ≤ 2) then zero6 (some 22) else if ¬ (0 ≤ sig ∧ sig ≤ 31) then zero6 (some 22) else if ¬ st = true then zero6 (some 3) else (t, false, 0, how, sig, (en && (how == 2)), none)
theorem Resume_eq {t : Int} {st : Bool} {r m i : Int} {en : Bool} (how sig : Int) (hr : 0 ≤ r ∧ r < 4294967296) : trace_Resume.f t st r m i en how sig = some (resumeS t st r m i en how sig) := by
  unfold trace_Resume.f resumeS
  rw [Check_eq hr, bind_go, mode_eq, bind_go, tsignal_eq, bind_go]
  simp only [chk, flip, some_if, ne_eq, decide_eq_true_eq]
  cases en <;> rfl
def takeS (t : Int) (st : Bool) (r m i : Int) (en : Bool) : Int × Int × Bool × Int × Int × Int × Bool :=
  if ¬ May t st r m i en then (0, t, st, r, m, i, en) else (i, t, st, r, m, 0, en)
theorem Take_eq {t : Int} {st : Bool} {r m i : Int} {en : Bool} (hr : 0 ≤ r ∧ r < 4294967296) : trace_Take.f t st r m i en = some (takeS t st r m i en) := by
  unfold trace_Take.f takeS
  rw [Check_eq hr, bind_go]
  simp only [chk, flip, some_if, ne_eq]

theorem modS (z : Int) (k : Int) (hk : 0 < k) (hk' : k < 1000) : ∃ m, IntKind.wrap .i64 (Int.tmod (IntKind.wrap .u64 z) k) = m ∧ 0 ≤ m ∧ m < k := by
  have h1 := Int.emod_nonneg (z % 18446744073709551616) (show k ≠ 0 by omega)
  have h2 := Int.emod_lt_of_pos (z % 18446744073709551616) hk
  rw [wu64, Int.tmod_eq_emod_of_nonneg (by omega), wi64 (by omega) (by omega)]
  exact ⟨_, rfl, h1, h2⟩
theorem may0 : May 0 false 0 0 0 false := by unfold May; rw [if_pos rfl]; exact ⟨rfl, rfl, rfl, rfl, rfl⟩
theorem mayI {t : Int} {st : Bool} {r m i : Int} (h1 : 1 ≤ t ∧ t ≤ 99) (h2 : 0 ≤ m ∧ m ≤ 2) (h3 : 0 ≤ i ∧ i ≤ 31) (h4 : r = 0 ∨ st = true ∧ rep r = true) : May t st r m i false := by
  unfold May
  rw [if_neg (by omega)]
  exact ⟨h1.1, h1.2, h2.1, h2.2, h3.1, h3.2, h4, by simp⟩
theorem mayE {t : Int} {st : Bool} {r m i : Int} (h : May t st r m i false) : (t = 0 ∧ st = false ∧ r = 0 ∧ m = 0 ∧ i = 0) ∨ (1 ≤ t ∧ t ≤ 99) ∧ (0 ≤ m ∧ m ≤ 2) ∧ (0 ≤ i ∧ i ≤ 31) ∧ (r = 0 ∨ st = true ∧ rep r = true) := by
  unfold May at h
  split at h
  · rename_i h0; exact .inl ⟨h0, h.1, h.2.1, h.2.2.1, h.2.2.2.1⟩
  · exact .inr ⟨⟨h.1, h.2.1⟩, ⟨h.2.2.1, h.2.2.2.1⟩, ⟨h.2.2.2.2.1, h.2.2.2.2.2.1⟩, h.2.2.2.2.2.2.1⟩
theorem z32 : (0 : Int) ≤ 0 ∧ (0 : Int) < 4294967296 := by omega

theorem rep_enc {k n v : Int} (hk : k = 2 ∨ k = 3) (h : enc k n = some v) : rep v = true ∧ 0 ≤ v ∧ v < 4294967296 ∧ v ≠ 0 := by
  have h1 := enc_pos h
  have h2 := (enc_iff k n v ⟨by omega, by omega⟩).1 h
  refine ⟨?_, by omega, by omega, fun h0 => ?_⟩
  · unfold rep what
    rw [h2]
    simpa using hk
  · subst h0
    have : dec 0 = some (0, 0) := by decide
    rw [this] at h2
    cases h2
    omega
theorem enc_some {k n : Int} (hk : k = 2 ∨ k = 3) (hn : 1 ≤ n ∧ n ≤ 31) : ∃ v, enc k n = some v := by
  unfold enc
  rcases hk with rfl | rfl
  · exact ⟨256 * n + 127, by simp [hn]⟩
  · exact ⟨256 * (n + 128) + 127, by simp [hn]⟩
theorem chk_may {t : Int} {st : Bool} {r m i : Int} {en : Bool} (h : May t st r m i en) (hr : 0 ≤ r ∧ r < 4294967296) : trace_Check.f t st r m i en = some none := by rw [Check_eq hr, if_pos h]
theorem once_loop (a0 : List (Int × (Int × (Int × Int)))) (hl : a0.length ≤ 9223372036854775807) : ∀ (d j n : Nat) (t : Int) (st : Bool) (r m i : Int), 60 - j = d → d < n → May t st r m i false → 0 ≤ r ∧ r < 4294967296 →
    ∃ p, halterlaw27_TraceOnce.l0 a0 n t st r m i false (t != 0) st (r != 0) j = some (.inl p) := by
  intro d
  induction d with
  | zero =>
    intro j n t st r m i hd hn hM hr
    obtain ⟨n, rfl⟩ := fuel_step hn
    rw [halterlaw27_TraceOnce.l0]
    by_cases hj : (j : Int) < (a0.length : Int)
    · rw [if_pos hj, if_neg (by omega)]; exact ⟨_, rfl⟩
    · rw [if_neg hj]; exact ⟨_, rfl⟩
  | succ d ih =>
    intro j n t st r m i hd hn hM hr
    obtain ⟨n, rfl⟩ := fuel_step hn
    rw [halterlaw27_TraceOnce.l0]
    by_cases hj : (j : Int) < (a0.length : Int)
    rotate_left
    · rw [if_neg hj]; exact ⟨_, rfl⟩
    have hin : 0 ≤ (j : Int) ∧ (j : Int) < (a0.length : Int) := ⟨by omega, hj⟩
    have go : ∀ (t : Int) (st : Bool) (r m i : Int), May t st r m i false → 0 ≤ r ∧ r < 4294967296 → ∃ p, halterlaw27_TraceOnce.l0 a0 n t st r m i false (t != 0) st (r != 0) (IntKind.wrap .i64 ((j : Int) + 1)) = some (.inl p) := by
      intro t st r m i h1 h2
      rw [wsucc (by omega)]
      exact ih (j + 1) n t st r m i (by omega) (by omega) h1 h2
    rw [if_pos hj, if_pos (by omega), if_pos hin, if_pos hin, toNat_nat]
    generalize List.getD a0 j (0, 0, 0, 0) = z
    generalize IntKind.wrap .i64 ((j : Int) + 1) = j' at go
    obtain ⟨z1, z2, z3, z4⟩ := z
    dsimp only
    obtain ⟨kd, e1, k1, k2⟩ := modS z1 6 (by omega) (by omega)
    obtain ⟨by_, e2, b1, b2⟩ := modS z2 99 (by omega) (by omega)
    obtain ⟨md, e3, m1, m2⟩ := modS z3 2 (by omega) (by omega)
    obtain ⟨sg, e4, s1, s2⟩ := modS z4 31 (by omega) (by omega)
    obtain ⟨hw, e5, w1, w2⟩ := modS z3 3 (by omega) (by omega)
    have f1 : IntKind.wrap .i64 (1 + by_) = 1 + by_ := wi64 (by omega) (by omega)
    have f2 : IntKind.wrap .i64 (2 + md) = 2 + md := wi64 (by omega) (by omega)
    have f3 : IntKind.wrap .i64 (1 + sg) = 1 + sg := wi64 (by omega) (by omega)
    obtain ⟨v, hv⟩ := enc_some (k := 2 + md) (n := 1 + sg) (by omega) (by omega)
    obtain ⟨v1, v2, v3, v4⟩ := rep_enc (by omega) hv
    rw [e1, e2, e3, e4, e5, f1, f2, f3, rOf_eq (.inl ⟨by omega, by omega⟩), bind_go, hv]
    clear e1 e2 e3 e4 e5 f1 f2 f3 hv
    dsimp only
    rw [if_pos hin]
    have hcase := mayE hM
    have hself : ∀ b : Bool, b = (t != 0) → ∃ p, halterlaw27_TraceOnce.l0 a0 n t st r m i false b st (r != 0) j' = some (.inl p) := fun b hb => by rw [hb]; exact go t st r m i hM hr
    by_cases c0 : kd = 0
    · rw [if_pos c0, if_pos hin, Attach_eq _ hr, bind_go]
      by_cases ht : t = 0
      · have hs : st = false ∧ r = 0 ∧ m = 0 ∧ i = 0 := by
          rcases hcase with h | h
          · exact h.2
          · omega
        obtain ⟨rfl, rfl, rfl, rfl⟩ := hs
        subst ht
        have M : May (1 + by_) false 0 0 0 false := mayI ⟨by omega, by omega⟩ (by omega) (by omega) (.inl rfl)
        have hne : (1 + by_ != 0) = true := by simp; omega
        obtain ⟨p, hp⟩ := go (1 + by_) false 0 0 0 M z32
        rw [hne] at hp
        have A : attachS 0 false 0 0 0 false (1 + by_) = (1 + by_, false, 0, 0, 0, false, none) := by
          unfold attachS; rw [if_neg (by simpa using hM), if_neg (by simp; omega), if_neg (by simp)]
        rw [A]
        simp only [chk_may M z32, bind_go, hne]
        exact ⟨p, by simpa using hp⟩
      · have hne : (t != 0) = true := by simpa using ht
        have A : attachS t st r m i false (1 + by_) = zero6 (some 1) := by
          unfold attachS; rw [if_neg (by simpa using hM), if_neg (by simp; omega), if_pos ht]
        rw [A, chk_may hM hr]
        unfold zero6
        simp only [bind_go, hne]
        obtain ⟨p, hp⟩ := hself true hne.symm
        exact ⟨p, by simpa using hp⟩
    rw [if_neg c0]
    by_cases c1 : kd = 1
    · rw [if_pos c1, Stop_eq _ hr ⟨v2, v3⟩, bind_go]
      by_cases ht : t = 0
      · have hne : (t != 0) = false := by simpa using ht
        have A : stopS t st r m i false v false = zero6 (some 3) := by
          unfold stopS; rw [if_neg (by simpa using hM), if_neg (by simpa using v1), if_neg (by simp), if_pos ht]
        rw [A, chk_may hM hr]
        unfold zero6
        simp only [bind_go, hne]
        obtain ⟨p, hp⟩ := hself false hne.symm
        exact ⟨p, by simpa using hp⟩
      · have hne : (t != 0) = true := by simpa using ht
        have hc : (1 ≤ t ∧ t ≤ 99) ∧ (0 ≤ m ∧ m ≤ 2) ∧ (0 ≤ i ∧ i ≤ 31) ∧ (r = 0 ∨ st = true ∧ rep r = true) := hcase.resolve_left (fun h => ht h.1)
        cases st with
        | true =>
          have A : stopS t true r m i false v false = zero6 (some 22) := by
            unfold stopS; rw [if_neg (by simpa using hM), if_neg (by simpa using v1), if_neg (by simp), if_neg ht, if_pos rfl]
          rw [A, chk_may hM hr]
          unfold zero6
          simp only [bind_go, hne]
          obtain ⟨p, hp⟩ := hself true hne.symm
          exact ⟨p, by simpa using hp⟩
        | false =>
          have A : stopS t false r m i false v false = (t, true, v, m, i, false, none) := by
            unfold stopS; rw [if_neg (by simpa using hM), if_neg (by simpa using v1), if_neg (by simp), if_neg ht, if_neg (by simp)]
          have M : May t true v m i false := mayI hc.1 hc.2.1 hc.2.2.1 (.inr ⟨rfl, v1⟩)
          have hv0 : (v != 0) = true := by simpa using v4
          obtain ⟨p, hp⟩ := go t true v m i M ⟨v2, v3⟩
          rw [hne, hv0] at hp
          rw [A]
          simp only [chk_may M ⟨v2, v3⟩, bind_go, hne, hv0]
          exact ⟨p, by simpa using hp⟩
    rw [if_neg c1]
    by_cases c2 : kd = 2
    · rw [if_pos c2, Collect_eq hr, bind_go]
      by_cases h0 : r = 0
      · have A : collectS t st r m i false = (0, zero6 (some 10)) := by
          unfold collectS; rw [if_neg (by simpa using hM), if_pos h0]
        have hr0 : (r != 0) = false := by simpa using h0
        rw [A, chk_may hM hr]
        unfold zero6
        simp only [bind_go, hr0]
        obtain ⟨p, hp⟩ := hself _ rfl
        rw [hr0] at hp
        exact ⟨p, by simpa using hp⟩
      · have A : collectS t st r m i false = (r, t, st, 0, m, i, false, none) := by
          unfold collectS; rw [if_neg (by simpa using hM), if_neg h0]
        have hr0 : (r != 0) = true := by simpa using h0
        have hc : (1 ≤ t ∧ t ≤ 99) ∧ (0 ≤ m ∧ m ≤ 2) ∧ (0 ≤ i ∧ i ≤ 31) ∧ (r = 0 ∨ st = true ∧ rep r = true) := hcase.resolve_left (fun h => h0 h.2.2.1)
        have M : May t st 0 m i false := mayI hc.1 hc.2.1 hc.2.2.1 (.inl rfl)
        obtain ⟨p, hp⟩ := go t st 0 m i M z32
        rw [A]
        simp only [chk_may M z32, bind_go, hr0]
        exact ⟨p, by simpa [h0] using hp⟩
    rw [if_neg c2]
    by_cases c3 : kd = 3
    · rw [if_pos c3, if_pos hin, Resume_eq _ _ hr, bind_go]
      cases st with
      | false =>
        have A : resumeS t false r m i false hw (1 + sg) = zero6 (some 3) := by
          unfold resumeS; rw [if_neg (by simpa using hM), if_neg (by simp; omega), if_neg (by simp; omega), if_pos (by simp)]
        rw [A, chk_may hM hr]
        unfold zero6
        simp only [bind_go]
        obtain ⟨p, hp⟩ := hself _ rfl
        exact ⟨p, by simpa using hp⟩
      | true =>
        have A : resumeS t true r m i false hw (1 + sg) = (t, false, 0, hw, 1 + sg, false, none) := by
          unfold resumeS; rw [if_neg (by simpa using hM), if_neg (by simp; omega), if_neg (by simp; omega), if_neg (by simp), Bool.false_and]
        have hc : (1 ≤ t ∧ t ≤ 99) ∧ (0 ≤ m ∧ m ≤ 2) ∧ (0 ≤ i ∧ i ≤ 31) ∧ (r = 0 ∨ true = true ∧ rep r = true) := hcase.resolve_left (fun h => by simp at h)
        have M : May t false 0 hw (1 + sg) false := mayI hc.1 (by omega) (by omega) (.inl rfl)
        obtain ⟨p, hp⟩ := go t false 0 hw (1 + sg) M z32
        rw [A]
        simp only [chk_may M z32, bind_go]
        exact ⟨p, by simpa using hp⟩
    rw [if_neg c3]
    by_cases c4 : kd = 4
    · rw [if_pos c4]
      unfold trace_Free.f
      obtain ⟨p, hp⟩ := go 0 false 0 0 0 may0 z32
      simp only [chk_may may0 z32, bind_go]
      exact ⟨p, by simpa using hp⟩
    · rw [if_neg c4, Take_eq hr, bind_go]
      have A : takeS t st r m i false = (i, t, st, r, m, 0, false) := by
        unfold takeS; rw [if_neg (by simpa using hM)]
      have M : May t st r m 0 false := by
        rcases hcase with h | h
        · obtain ⟨rfl, rfl, rfl, rfl, rfl⟩ := h; exact may0
        · exact mayI h.1 h.2.1 (by omega) h.2.2.2
      obtain ⟨p, hp⟩ := go t st r m 0 M hr
      rw [A]
      simp only [chk_may M hr, bind_go]
      exact ⟨p, by simpa using hp⟩
theorem TraceOnce (a0 : (List (Int × (Int × (Int × Int))))) (h0 : List.length a0 * 32 ≤ reachBytes) (h1 : ∀ z : (Int × (Int × (Int × Int))), z ∈ a0 → goodT (.pair (.int .i64) (.pair (.int .i64) (.pair (.int .i64) (.int .i64)))) z) : halterlaw27_TraceOnce.f a0 = some true := by
  unfold halterlaw27_TraceOnce.f
  obtain ⟨p, hp⟩ := once_loop a0 (by have := h0; unfold reachBytes at this; omega) 60 0 FUEL 0 false 0 0 0 rfl (fuel_gt (by omega)) may0 z32
  have hp' : halterlaw27_TraceOnce.l0 a0 FUEL 0 false 0 0 0 false false false false 0 = some (.inl p) := hp
  rw [hp', bind_go]
  dsimp only
  rw [sure_eq, bind_go]

end Go.Proofs.YtlaemcglemakjaaDoor.Pure
