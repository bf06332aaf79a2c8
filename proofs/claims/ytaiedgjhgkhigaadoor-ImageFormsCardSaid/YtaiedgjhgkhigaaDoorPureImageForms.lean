/- The plain law: what the law computes is true, whatever it is handed. -/
import Derived.Test.YtaiedgjhgkhigaaDoorGImageForms
import Derived.Test.YtaiedgjhgkhigaaDoorE16
import Derived.Laws.BitsAllLaws
set_option linter.unusedVariables false
set_option linter.unusedSimpArgs false
set_option linter.unnecessarySimpa false
namespace Go.Proofs.YtaiedgjhgkhigaaDoor.Pure
open Go Go.Proofs.YtaiedgjhgkhigaaDoorE Go.Proofs.YtaiedgjhgkhigaaDoorGImageForms
theorem wu8 (x : Int) : IntKind.wrap .u8 x = x % 256 := by simp [IntKind.wrap, IntKind.bits, IntKind.signed]
theorem wu16 (x : Int) : IntKind.wrap .u16 x = x % 65536 := by simp [IntKind.wrap, IntKind.bits, IntKind.signed]
theorem wu32 (x : Int) : IntKind.wrap .u32 x = x % 4294967296 := by simp [IntKind.wrap, IntKind.bits, IntKind.signed]
theorem wu64 (x : Int) : IntKind.wrap .u64 x = x % 18446744073709551616 := by simp [IntKind.wrap, IntKind.bits, IntKind.signed]
theorem wi64 {x : Int} (h : -9223372036854775808 ≤ x) (h' : x ≤ 9223372036854775807) : IntKind.wrap .i64 x = x := by
  simp [IntKind.wrap, IntKind.bits, IntKind.signed]
  omega
theorem wu8_id {x : Int} (h : 0 ≤ x ∧ x < 256) : IntKind.wrap .u8 x = x := by rw [wu8]; omega
theorem wu32_id {x : Int} (h : 0 ≤ x ∧ x < 4294967296) : IntKind.wrap .u32 x = x := by rw [wu32]; omega
theorem wu64_id {x : Int} (h : 0 ≤ x ∧ x < 18446744073709551616) : IntKind.wrap .u64 x = x := by rw [wu64]; omega
theorem wsucc {i : Nat} (h : i < 9223372036854775807) : IntKind.wrap .i64 ((i : Int) + 1) = ((i + 1 : Nat) : Int) := by rw [wi64 (by omega) (by omega)]; omega
theorem u8_bd {a : Int} (h : (Lit.int .u8 a).wf = true) : 0 ≤ a ∧ a < 256 := by
  simpa [Lit.wf, IntKind.min, IntKind.max, IntKind.signed, IntKind.bits, ← Int.lt_add_one_iff] using h
theorem u32_bd {a : Int} (h : (Lit.int .u32 a).wf = true) : 0 ≤ a ∧ a < 4294967296 := by
  simpa [Lit.wf, IntKind.min, IntKind.max, IntKind.signed, IntKind.bits, ← Int.lt_add_one_iff] using h
theorem u64_bd {a : Int} (h : (Lit.int .u64 a).wf = true) : 0 ≤ a ∧ a < 18446744073709551616 := by
  simpa [Lit.wf, IntKind.min, IntKind.max, IntKind.signed, IntKind.bits, ← Int.lt_add_one_iff] using h
theorem i64_bd {a : Int} (h : (Lit.int .i64 a).wf = true) : -9223372036854775808 ≤ a ∧ a < 9223372036854775808 := by
  simpa [Lit.wf, IntKind.min, IntKind.max, IntKind.signed, IntKind.bits, ← Int.lt_add_one_iff] using h
theorem fuel_gt {n : Nat} (h : n < 18446744073709551616) : n < FUEL := h
theorem bind_go {α β : Type} (a : α) (f : α → Option β) : (some a).bind f = f a := by rw [Option.bind_some]
theorem drop_getD {α : Type} (l : List α) (i : Nat) (d : α) (h : i < l.length) : l.drop i = l.getD i d :: l.drop (i + 1) := by
  rw [List.drop_eq_getElem_cons h, List.getD_eq_getElem?_getD, List.getElem?_eq_getElem h, Option.getD_some]
theorem getD_mem {α : Type} (l : List α) (i : Nat) (d : α) (h : i < l.length) : l.getD i d ∈ l := by
  rw [List.getD_eq_getElem?_getD, List.getElem?_eq_getElem h, Option.getD_some]; exact List.getElem_mem _
theorem toNat_nat (i : Nat) : Int.toNat (i : Int) = i := rfl
/-- A number behind another one: a round of a loop. -/
theorem fuel_step {d n : Nat} (h : d < n) : ∃ m, n = m + 1 := ⟨n - 1, by omega⟩
/-- Where something stands first. -/
def first (v : Int) : List Int → Option Nat
  | [] => none
  | x :: xs => if x = v then some 0 else (first v xs).map (· + 1)
theorem first_none {v : Int} : ∀ {l : List Int}, first v l = none → ∀ z ∈ l, z ≠ v
  | [], _, z, hz => by cases hz
  | x :: xs, h, z, hz => by
    unfold first at h
    split at h
    · cases h
    · rename_i hx
      rcases List.mem_cons.1 hz with rfl | hz
      · exact hx
      · exact first_none (by simpa using h) z hz
theorem first_some {v : Int} : ∀ {l : List Int} {k : Nat}, first v l = some k → k < l.length ∧ l.getD k 0 = v ∧ ∀ j, j < k → l.getD j 0 ≠ v
  | [], _, h => by cases h
  | x :: xs, k, h => by
    unfold first at h
    split at h
    · cases h
      rename_i hx
      exact ⟨by simp, by simpa using hx, fun j hj => by omega⟩
    · rename_i hx
      cases hf : first v xs with
      | none => simp [hf] at h
      | some m =>
        simp [hf] at h
        subst h
        obtain ⟨h1, h2, h3⟩ := first_some hf
        refine ⟨by simp; omega, by simpa using h2, fun j hj => ?_⟩
        cases j with
        | zero => simpa using hx
        | succ j => simpa using h3 j (by omega)

theorem ofInt_i64 (a : Nat) (ha : a < 18446744073709551616) : (BitVec.ofInt 64 (a : Int)).toNat = a := by
  rw [BitVec.ofInt_natCast, BitVec.toNat_ofNat]; exact Nat.mod_eq_of_lt (by omega)
theorem i64_and (a b : Nat) (ha : a < 9223372036854775808) (hb : b < 9223372036854775808) : bits .and .i64 (a : Int) (b : Int) = ((a &&& b : Nat) : Int) := by
  have hx : a &&& b < 2 ^ 63 := Nat.and_lt_two_pow _ (by omega)
  show IntKind.i64.wrap ((BitVec.ofInt 64 (a : Int) &&& BitVec.ofInt 64 (b : Int)).toNat : Int) = _
  rw [BitVec.toNat_and, ofInt_i64 a (by omega), ofInt_i64 b (by omega), wi64 (by omega) (by omega)]
theorem i64_or (a b : Nat) (ha : a < 9223372036854775808) (hb : b < 9223372036854775808) : bits .or .i64 (a : Int) (b : Int) = ((a ||| b : Nat) : Int) := by
  have hx : a ||| b < 2 ^ 63 := Nat.or_lt_two_pow (by omega) (by omega)
  show IntKind.i64.wrap ((BitVec.ofInt 64 (a : Int) ||| BitVec.ofInt 64 (b : Int)).toNat : Int) = _
  rw [BitVec.toNat_or, ofInt_i64 a (by omega), ofInt_i64 b (by omega), wi64 (by omega) (by omega)]
theorem i64_andNot (a b : Nat) (ha : a < 9223372036854775808) (hb : b < 9223372036854775808) : bits .andNot .i64 (a : Int) (b : Int) = ((a &&& (18446744073709551615 - b) : Nat) : Int) := by
  have hx : a &&& (18446744073709551615 - b) < 2 ^ 63 := Nat.lt_of_le_of_lt Nat.and_le_left (by omega)
  show IntKind.i64.wrap ((BitVec.ofInt 64 (a : Int) &&& ~~~BitVec.ofInt 64 (b : Int)).toNat : Int) = _
  rw [BitVec.toNat_and, BitVec.toNat_not, ofInt_i64 a (by omega), ofInt_i64 b (by omega)]
  have e : 2 ^ 64 - 1 - b = 18446744073709551615 - b := by omega
  rw [e, wi64 (by omega) (by omega)]
/-- A bit taken away. -/
theorem nat_unbit (i x w : Nat) (hi : i < w) (hx : x < 2 ^ w) : x &&& (2 ^ w - 1 - 2 ^ i) = x - x / 2 ^ i % 2 * 2 ^ i := by
  have hp : (2 : Nat) ^ (i + 1) = 2 * 2 ^ i := by rw [Nat.pow_succ]; omega
  have e : x - x / 2 ^ i % 2 * 2 ^ i = 2 ^ (i + 1) * (x / 2 ^ (i + 1)) + x % 2 ^ i := by
    have h1 := Nat.div_add_mod x (2 ^ i)
    have h2 := Nat.div_add_mod (x / 2 ^ i) 2
    have h3 : x / 2 ^ (i + 1) = x / 2 ^ i / 2 := by rw [Nat.pow_succ, Nat.div_div_eq_div_mul]
    rw [h3, hp]
    generalize x / 2 ^ i = q at *
    generalize x % 2 ^ i = r at *
    generalize 2 ^ i = P at *
    have h4 : 2 * P * (q / 2) = P * (2 * (q / 2)) := by rw [Nat.mul_comm 2 P, Nat.mul_assoc]
    have h5 : P * q = P * (2 * (q / 2)) + P * (q % 2) := by rw [← Nat.mul_add, h2]
    rw [h4, Nat.mul_comm (q % 2) P]
    omega
  have hr : x % 2 ^ i < 2 ^ (i + 1) := by
    have := Nat.mod_lt x (Nat.two_pow_pos i)
    omega
  rw [e]
  apply Nat.eq_of_testBit_eq
  intro j
  rw [Nat.sub_sub, Nat.add_comm 1 (2 ^ i), Nat.testBit_and, Nat.testBit_two_pow_sub_succ (Nat.pow_lt_pow_right (by omega) hi), Nat.testBit_two_pow, Nat.testBit_two_pow_mul_add _ hr]
  by_cases hj : j < i + 1
  · rw [if_pos hj, Nat.testBit_mod_two_pow]
    by_cases h2 : j = i
    · subst h2; simp
    · have h3 : j < i := by omega
      have h4 : j < w := by omega
      simp [h3, h4, Ne.symm h2]
  · rw [if_neg hj, Nat.testBit_div_two_pow, show j - (i + 1) + (i + 1) = j by omega]
    have h2 : ¬ i = j := by omega
    by_cases hw : j < w
    · simp [hw, h2]
    · have : x.testBit j = false := Nat.testBit_lt_two_pow (Nat.lt_of_lt_of_le hx (Nat.pow_le_pow_right (by omega) (by omega)))
      simp [this]

abbrev Sg := Int × (Int × (Int × (List Int)))
abbrev dS : Sg := ((0 : Int), ((0 : Int), ((0 : Int), ([] : List Int))))
def MayS (s : Sg) : Prop := 0 ≤ s.1 ∧ s.1 < s.2.1 ∧ s.2.1 ≤ 4080 ∧ s.2.2.1 ≤ 7 ∧ ((s.2.2.2.length : Nat) : Int) ≤ 65535 ∧ ((s.2.2.2.length : Nat) : Int) ≤ (s.2.1 - s.1) * 256
instance (s : Sg) : Decidable (MayS s) := by unfold MayS; infer_instance
def chk : Int → List Sg → Bool
  | _, [] => true
  | p, s :: r => decide (MayS s) && decide (p ≤ s.1) && chk s.2.1 r
theorem chk_cons (p : Int) (s : Sg) (r : List Sg) : chk p (s :: r) = (decide (MayS s) && decide (p ≤ s.1) && chk s.2.1 r) := rfl
def runsB (e : Int) (s : Sg) : Bool := decide (4 ≤ s.2.2.1 % 8 ∧ s.1 ≤ e / 256 ∧ e / 256 < s.2.1)
def okI (e : Int) (l : List Sg) : Bool := decide (1 ≤ l.length ∧ l.length ≤ 8 ∧ e % 4 = 0) && chk 0 l && l.any (runsB e)
/-- Uses are bytes. -/
def PermB (s : Sg) : Prop := 0 ≤ s.2.2.1 ∧ s.2.2.1 < 256
theorem may_eq (s : Sg) : image_Seg_may.f s.1 s.2.1 s.2.2.1 s.2.2.2 = some (decide (MayS s)) := by
  unfold image_Seg_may.f
  by_cases h1 : s.1 ≥ 0
  · by_cases h2 : s.1 < s.2.1
    · by_cases h3 : s.2.1 ≤ 4080
      · by_cases h4 : s.2.2.1 ≤ 7
        · rw [if_pos h1, if_pos h2, if_pos h3, if_pos h4, wi64 (x := s.2.1 - s.1) (by omega) (by omega), wi64 (by omega) (by omega)]
          congr 1
          refine decide_eq_decide.2 ?_
          unfold MayS
          split <;> omega
        · rw [if_pos h1, if_pos h2, if_pos h3, if_neg h4, decide_eq_false (show ¬ MayS s from fun h => by unfold MayS at h; omega)]
      · rw [if_pos h1, if_pos h2, if_neg h3, decide_eq_false (show ¬ MayS s from fun h => by unfold MayS at h; omega)]
    · rw [if_pos h1, if_neg h2, decide_eq_false (show ¬ MayS s from fun h => by unfold MayS at h; omega)]
  · rw [if_neg h1, decide_eq_false (show ¬ MayS s from fun h => by unfold MayS at h; omega)]
theorem and4 : ∀ n : Fin 256, (bits .and .u8 ((n.val : Nat) : Int) 4 = 0 ↔ n.val % 8 < 4) := by decide +kernel
theorem and4_i {x : Int} (h : 0 ≤ x ∧ x < 256) : (bits .and .u8 x 4 = 0 ↔ x % 8 < 4) := by
  have := and4 ⟨x.toNat, by omega⟩
  simp only at this
  rw [show ((x.toNat : Nat) : Int) = x by omega] at this
  rw [this]
  omega
theorem runs_eq (s : Sg) (hp : PermB s) (e : Int) (he : 0 ≤ e ∧ e < 4294967296) : image_Seg_runs.f s.1 s.2.1 s.2.2.1 s.2.2.2 e = some (runsB e s) := by
  unfold image_Seg_runs.f runsB
  have hd : Int.tdiv e 256 = e / 256 := Int.tdiv_eq_ediv_of_nonneg he.1
  have hw : IntKind.wrap .i64 (IntKind.wrap .u32 (Int.tdiv e 256)) = e / 256 := by rw [hd, wu32_id (by omega), wi64 (by omega) (by omega)]
  rw [hw]
  have h4 := and4_i hp
  by_cases h1 : bits .and .u8 s.2.2.1 4 = 0
  · rw [if_neg (by simpa using h1), decide_eq_false]
    have := h4.1 h1
    omega
  · have h8 : ¬ s.2.2.1 % 8 < 4 := fun h => h1 (h4.2 h)
    rw [if_pos h1]
    by_cases h2 : e / 256 ≥ s.1
    · rw [if_pos h2]
      congr 1
      rw [decide_eq_decide]
      omega
    · rw [if_neg h2, decide_eq_false (by omega)]
theorem index_loop (l : List Sg) (hl : ∀ s ∈ l, PermB s) (hn : l.length ≤ 9223372036854775807) (e : Int) (he : 0 ≤ e ∧ e < 4294967296) (z : List Sg) : ∀ (d n k : Nat), l.length - k = d → d < n → k ≤ l.length → ∃ r : Unit ⊕ Int, slices_IndexFunc_image_Seg_image_Seg.l0 l e z n (k : Int) = some r ∧ (match r with | .inl _ => (l.drop k).any (runsB e) = false | .inr j => (l.drop k).any (runsB e) = true ∧ 0 ≤ j) := by
  intro d
  induction d with
  | zero =>
    intro n k hk hd hle
    obtain ⟨n, rfl⟩ := fuel_step hd
    have : k = l.length := by omega
    subst this
    unfold slices_IndexFunc_image_Seg_image_Seg.l0
    rw [if_neg (by omega)]
    exact ⟨_, rfl, by rw [List.drop_length, List.any_nil]⟩
  | succ d ih =>
    intro n k hk hd hle
    obtain ⟨n, rfl⟩ := fuel_step hd
    unfold slices_IndexFunc_image_Seg_image_Seg.l0
    have hr : image_Check_1.f (List.getD l (Int.toNat (k : Int)) dS).1 (List.getD l (Int.toNat (k : Int)) dS).2.1 (List.getD l (Int.toNat (k : Int)) dS).2.2.1 (List.getD l (Int.toNat (k : Int)) dS).2.2.2 e z = some (runsB e (l.getD k dS)) := by
      unfold image_Check_1.f
      rw [toNat_nat, runs_eq _ (hl _ (getD_mem l k dS (by omega))) e he, bind_go]
    rw [if_pos (by omega), if_pos ⟨by omega, by omega⟩, hr, bind_go, drop_getD l k dS (by omega), List.any_cons, wsucc (by omega)]
    obtain ⟨r, h1, h2⟩ := ih n (k + 1) (by omega) (by omega) (by omega)
    cases hb : runsB e (l.getD k dS)
    · rw [if_neg (by simp)]
      refine ⟨r, h1, ?_⟩
      cases r with
      | inl u => simpa using h2
      | inr j => simpa using h2
    · rw [if_pos rfl]
      exact ⟨_, rfl, by simp⟩
theorem contains_eq (l : List Sg) (hl : ∀ s ∈ l, PermB s) (hn : l.length ≤ 9223372036854775807) (e : Int) (he : 0 ≤ e ∧ e < 4294967296) (z : List Sg) : slices_ContainsFunc_image_Seg_image_Seg.f l e z = some (l.any (runsB e)) := by
  obtain ⟨r, h, h2⟩ := index_loop l hl hn e he z _ FUEL 0 rfl (fuel_gt (by omega)) (by omega)
  rw [List.drop_zero] at h2
  have h : slices_IndexFunc_image_Seg_image_Seg.l0 l e z FUEL (0 : Int) = _ := h
  unfold slices_ContainsFunc_image_Seg_image_Seg.f slices_IndexFunc_image_Seg_image_Seg.f
  rw [h, bind_go]
  cases r with
  | inl u =>
    simp only at h2
    rw [h2]; rfl
  | inr j =>
    simp only at h2
    rw [h2.1]
    simp [h2.2]
def prevT (l : List Sg) : Nat → Int
  | 0 => 0
  | j + 1 => (l.getD j dS).2.1
theorem check_loop (e : Int) (l : List Sg) (hn : l.length ≤ 8) : ∀ (d n k : Nat), l.length - k = d → d < n → k ≤ l.length → image_Check.l0 e l n (k : Int) = some (if chk (prevT l k) (l.drop k) then .inl () else .inr ()) := by
  intro d
  induction d with
  | zero =>
    intro n k hk hd hle
    obtain ⟨n, rfl⟩ := fuel_step hd
    have : k = l.length := by omega
    subst this
    unfold image_Check.l0
    rw [if_neg (by omega), List.drop_length]
    rfl
  | succ d ih =>
    intro n k hk hd hle
    obtain ⟨n, rfl⟩ := fuel_step hd
    unfold image_Check.l0
    have hm := may_eq (l.getD k dS)
    have hs := ih n (k + 1) (by omega) (by omega) (by omega)
    rw [← wsucc (by omega)] at hs
    rw [if_pos (by omega), if_pos ⟨by omega, by omega⟩, toNat_nat, hm, bind_go, drop_getD l k dS (by omega), hs, chk_cons]
    by_cases h1 : MayS (l.getD k dS)
    · rw [decide_eq_true h1, if_neg (by simp)]
      simp only [Bool.true_and]
      cases k with
      | zero =>
        rw [if_neg (by simp)]
        have : (0 : Int) ≤ (l.getD 0 dS).1 := h1.1
        rw [show prevT l 0 = 0 from rfl, decide_eq_true this]
        rfl
      | succ j =>
        rw [if_pos (by omega)]
        have hj : IntKind.wrap .i64 (((j + 1 : Nat) : Int) - 1) = (j : Int) := by rw [wi64 (by omega) (by omega)]; omega
        rw [hj, if_pos ⟨by omega, by omega⟩, toNat_nat]
        by_cases h2 : (l.getD j dS).2.1 > (l.getD (j + 1) dS).1
        · rw [if_pos h2, show prevT l (j + 1) = (l.getD j dS).2.1 from rfl, decide_eq_false (by omega)]
          rfl
        · rw [if_neg h2, show prevT l (j + 1) = (l.getD j dS).2.1 from rfl, decide_eq_true (show (l.getD j dS).2.1 ≤ (l.getD (j + 1) dS).1 by omega)]
          rfl
    · rw [decide_eq_false h1, if_pos (by simp)]
      rfl
theorem check_eq (e : Int) (he : 0 ≤ e ∧ e < 4294967296) (l : List Sg) (hl : ∀ s ∈ l, PermB s) (hn : l.length ≤ 9223372036854775807) : image_Check.f e l = some (if okI e l then none else some 8) := by
  unfold image_Check.f okI
  have hm : Int.tmod e 4 = e % 4 := Int.tmod_eq_emod_of_nonneg he.1
  rw [hm]
  by_cases h1 : ((l.length : Nat) : Int) < 1
  · rw [if_pos h1, decide_eq_false (by omega)]; rfl
  by_cases h2 : ((l.length : Nat) : Int) > 8
  · rw [if_neg h1, if_pos h2, decide_eq_false (by omega)]; rfl
  by_cases h3 : e % 4 = 0
  · rw [if_neg h1, if_neg h2, if_neg (by simpa using h3), decide_eq_true (by omega)]
    have h := check_loop e l (by omega) _ FUEL 0 rfl (fuel_gt (by omega)) (by omega)
    have h : image_Check.l0 e l FUEL (0 : Int) = _ := h
    rw [h, bind_go, List.drop_zero, show prevT l 0 = 0 from rfl]
    cases chk 0 l
    · rfl
    · simp only [if_true, Bool.true_and]
      rw [contains_eq l hl hn e he l, bind_go]
      cases l.any (runsB e) <;> rfl
  · rw [if_neg h1, if_neg h2, if_pos h3, decide_eq_false (by omega)]; rfl
theorem chk_may : ∀ (l : List Sg) (p : Int), chk p l = true → ∀ s ∈ l, MayS s
  | [], _, _, s, hs => (List.not_mem_nil hs).elim
  | a :: l, p, h, s, hs => by
    unfold chk at h
    simp only [Bool.and_eq_true, decide_eq_true_eq] at h
    rcases List.mem_cons.1 hs with rfl | hs
    · exact h.1.1
    · exact chk_may l _ h.2 s hs
theorem okI_parts {e : Int} {l : List Sg} (h : okI e l = true) : 1 ≤ l.length ∧ l.length ≤ 8 ∧ e % 4 = 0 ∧ chk 0 l = true ∧ l.any (runsB e) = true := by
  unfold okI at h
  simp only [Bool.and_eq_true, decide_eq_true_eq] at h
  exact ⟨h.1.1.1, h.1.1.2.1, h.1.1.2.2, h.1.2, h.2⟩
theorem encode_bad (e : Int) (he : 0 ≤ e ∧ e < 4294967296) (l : List Sg) (hl : ∀ s ∈ l, PermB s) (hn : l.length ≤ 9223372036854775807) (h : okI e l = false) : image_Encode.f e l = some ([], some 8) := by
  unfold image_Encode.f
  rw [check_eq e he l hl hn, h, bind_go]
  rfl
theorem sure_ok : halterlaw21_sure.f = some true := by kernel_rfl
theorem give_loop (e : Int) (l : List Sg) (hn : l.length * 48 ≤ 140737488351232) : ∀ (d n k : Nat), l.length - k = d → d < n → k ≤ l.length → halterlaw21_giveImage.l0 e l n (l.take k) (k : Int) = some l := by
  intro d
  induction d with
  | zero =>
    intro n k hk hd hle
    obtain ⟨n, rfl⟩ := fuel_step hd
    have : k = l.length := by omega
    subst this
    unfold halterlaw21_giveImage.l0
    rw [if_neg (by omega), List.take_length]
  | succ d ih =>
    intro n k hk hd hle
    obtain ⟨n, rfl⟩ := fuel_step hd
    unfold halterlaw21_giveImage.l0
    have hs := ih n (k + 1) (by omega) (by omega) (by omega)
    rw [← wsucc (by omega)] at hs
    have ht : l.take k ++ List.take 1 [((l.getD k dS).1, ((l.getD k dS).2.1, ((l.getD k dS).2.2.1, (l.getD k dS).2.2.2)))] = l.take (k + 1) := by
      rw [List.take_succ_eq_append_getElem (show k < l.length by omega), List.getD_eq_getElem?_getD, List.getElem?_eq_getElem (show k < l.length by omega)]
      rfl
    rw [if_pos (by omega), if_pos ⟨by omega, by omega⟩, toNat_nat, ht]
    rw [if_pos]
    · exact hs
    · refine ⟨by omega, rfl, rfl, ?_⟩
      simp only [List.length_take, List.length_cons, List.length_nil]
      omega
theorem give_eq (e : Int) (l : List Sg) (hn : l.length * 48 ≤ 140737488351232) : halterlaw21_giveImage.f e l = some (e, l) := by
  unfold halterlaw21_giveImage.f
  have h := give_loop e l hn _ FUEL 0 rfl (fuel_gt (by omega)) (by omega)
  have h : halterlaw21_giveImage.l0 e l FUEL [] (0 : Int) = _ := h
  rw [h]
  rfl

theorem may_loop (e : Int) (he : 0 ≤ e ∧ e < 4294967296) (l : List Sg) (hl : ∀ s ∈ l, PermB s) (hn : l.length ≤ 8) : ∀ (d n k : Nat) (run : Bool) (last : Int), 0 ≤ last → l.length - k = d → d < n → k ≤ l.length →
    halterref21_May.l0 e l n run last (k : Int) = some (if chk last (l.drop k) then .inl (run || (l.drop k).any (runsB e)) else .inr ()) := by
  intro d
  induction d with
  | zero =>
    intro n k run last _ hk hd hle
    obtain ⟨n, rfl⟩ := fuel_step hd
    have : k = l.length := by omega
    subst this
    unfold halterref21_May.l0
    rw [if_neg (by omega), List.drop_length, List.any_nil, Bool.or_false]
    rfl
  | succ d ih =>
    intro n k run last h0 hk hd hle
    obtain ⟨n, rfl⟩ := fuel_step hd
    unfold halterref21_May.l0
    have hp := hl _ (getD_mem l k dS (by omega))
    have hs := fun run last h0 => ih n (k + 1) run last h0 (by omega) (by omega) (by omega)
    rw [drop_getD l k dS (by omega), chk_cons, List.any_cons, if_pos (by omega), if_pos ⟨by omega, by omega⟩, toNat_nat, wsucc (by omega)]
    generalize l.getD k dS = s at hp ⊢
    unfold PermB at hp
    have hnot : ¬ (MayS s ∧ last ≤ s.1) → (some (if (decide (MayS s) && decide (last ≤ s.1) && chk s.2.1 (l.drop (k + 1))) = true then Sum.inl (run || (runsB e s || (l.drop (k + 1)).any (runsB e))) else Sum.inr ()) : Option (Bool ⊕ Unit)) = some (.inr ()) := fun h => by
      rw [if_neg]
      simp only [Bool.and_eq_true, decide_eq_true_eq]
      exact fun hh => h hh.1
    by_cases c1 : s.1 < last
    · rw [if_pos c1, hnot (fun h => by omega)]
    rw [if_neg c1]
    by_cases c2 : s.1 ≥ s.2.1
    · rw [if_pos c2, hnot (fun h => by have := h.1.2.1; omega)]
    rw [if_neg c2]
    by_cases c3 : s.2.1 > 4080
    · rw [if_pos c3, hnot (fun h => by have := h.1.2.2.1; omega)]
    rw [if_neg c3]
    by_cases c4 : s.2.2.1 > 7
    · rw [if_pos c4, hnot (fun h => by have := h.1.2.2.2.1; omega)]
    rw [if_neg c4]
    by_cases c5 : ((s.2.2.2.length : Nat) : Int) > 65535
    · rw [if_pos c5, hnot (fun h => by have := h.1.2.2.2.2.1; omega)]
    rw [if_neg c5, wi64 (x := s.2.1 - s.1) (by omega) (by omega), wi64 (x := 256 * (s.2.1 - s.1)) (by omega) (by omega)]
    by_cases c6 : ((s.2.2.2.length : Nat) : Int) > 256 * (s.2.1 - s.1)
    · rw [if_pos c6, hnot (fun h => by have := h.1.2.2.2.2.2; omega)]
    rw [if_neg c6]
    have hm : MayS s := ⟨by omega, by omega, by omega, by omega, by omega, by omega⟩
    rw [decide_eq_true hm, decide_eq_true (show last ≤ s.1 by omega), Bool.true_and, Bool.true_and]
    have hd : IntKind.wrap .i64 (Int.tdiv (IntKind.wrap .i64 e) 256) = e / 256 := by
      rw [wi64 (x := e) (by omega) (by omega), Int.tdiv_eq_ediv_of_nonneg he.1, wi64 (by omega) (by omega)]
    rw [hd]
    have hr : ∀ b : Bool, runsB e s = b → halterref21_May.l0 e l n (run || b) s.2.1 ((k + 1 : Nat) : Int) = some (if chk s.2.1 (l.drop (k + 1)) = true then Sum.inl (run || (runsB e s || (l.drop (k + 1)).any (runsB e))) else Sum.inr ()) := fun b hb => by
      rw [hs _ _ (by omega), hb, Bool.or_assoc]
    cases run with
    | true =>
      rw [if_pos rfl]
      exact hr _ rfl
    | false =>
      rw [if_neg (by simp)]
      by_cases d1 : s.2.2.1 ≥ 4
      · rw [if_pos d1]
        by_cases d2 : e / 256 ≥ s.1
        · rw [if_pos d2]
          refine hr _ ?_
          unfold runsB
          exact decide_eq_decide.2 (by omega)
        · rw [if_neg d2]
          refine hr false ?_
          unfold runsB
          exact decide_eq_false (by omega)
      · rw [if_neg d1]
        refine hr false ?_
        unfold runsB
        exact decide_eq_false (by omega)
theorem May_eq (e : Int) (he : 0 ≤ e ∧ e < 4294967296) (l : List Sg) (hl : ∀ s ∈ l, PermB s) : halterref21_May.f e l = some (okI e l) := by
  unfold halterref21_May.f okI
  have hm : Int.tmod e 4 = e % 4 := Int.tmod_eq_emod_of_nonneg he.1
  rw [hm]
  by_cases h1 : ((l.length : Nat) : Int) < 1
  · rw [if_pos h1, decide_eq_false (by omega)]; rfl
  by_cases h2 : ((l.length : Nat) : Int) > 8
  · rw [if_neg h1, if_pos h2, decide_eq_false (by omega)]; rfl
  by_cases h3 : e % 4 = 0
  · rw [if_neg h1, if_neg h2, if_neg (by simpa using h3), decide_eq_true (by omega)]
    have h := may_loop e he l hl (by omega) _ FUEL 0 false 0 (by omega) rfl (fuel_gt (by omega)) (by omega)
    have h : halterref21_May.l0 e l FUEL false (0 : Int) (0 : Int) = _ := h
    rw [h, bind_go, List.drop_zero]
    cases chk 0 l <;> simp
  · rw [if_neg h1, if_neg h2, if_pos h3, decide_eq_false (by omega)]; rfl

/-- A number's bytes, the least ahead. -/
def le : Nat → Int → List Int
  | 0, _ => []
  | n + 1, v => v % 256 :: le n (v / 256)
theorem le_length : ∀ (n : Nat) (v : Int), (le n v).length = n
  | 0, _ => rfl
  | n + 1, v => by simp [le, le_length n]
theorem number_loop (N : Nat) (hN : N ≤ 1000) : ∀ (d n k : Nat) (v : Int) (pre : List Int), pre.length = k → N - k = d → d < n → k ≤ N → 0 ≤ v ∧ v < 9223372036854775808 → halterref21_number.l0 (N : Int) n (pre ++ List.replicate d 0) v (k : Int) = some (pre ++ le d v) := by
  intro d
  induction d with
  | zero =>
    intro n k v pre hp hk hd hle hv
    obtain ⟨n, rfl⟩ := fuel_step hd
    unfold halterref21_number.l0
    rw [if_neg (by omega)]
    simp [le]
  | succ d ih =>
    intro n k v pre hp hk hd hle hv
    obtain ⟨n, rfl⟩ := fuel_step hd
    unfold halterref21_number.l0
    have hq : Int.tdiv v 256 = v / 256 := Int.tdiv_eq_ediv_of_nonneg hv.1
    have hr : Int.tmod v 256 = v % 256 := Int.tmod_eq_emod_of_nonneg hv.1
    have hset : List.set (pre ++ List.replicate (d + 1) (0 : Int)) (0 + k) (v % 256) = (pre ++ [v % 256]) ++ List.replicate d 0 := by
      rw [Nat.zero_add, ← hp, List.set_append_right _ _ (Nat.le_refl _), Nat.sub_self, List.replicate_succ, List.set_cons_zero, List.append_assoc]
      rfl
    rw [if_pos (by omega), toNat_nat, toNat_nat, if_pos ⟨by omega, by omega⟩, if_pos (by omega), hq, hr, wu8_id (by omega), wi64 (x := v / 256) (by omega) (by omega), wsucc (by omega), hset,
      ih n (k + 1) (v / 256) (pre ++ [v % 256]) (by simp [hp]) (by omega) (by omega) (by omega) (by omega)]
    simp [le]
theorem number_eq (v : Int) (N : Nat) (hN : N ≤ 1000) (hv : 0 ≤ v ∧ v < 9223372036854775808) : halterref21_number.f v (N : Int) = some (le N v) := by
  unfold halterref21_number.f
  rw [if_pos ⟨by omega, rfl, by omega, by omega⟩, toNat_nat]
  have h := number_loop N hN N FUEL 0 v [] rfl (by omega) (fuel_gt (by omega)) (by omega) hv
  have h : halterref21_number.l0 (N : Int) FUEL (List.replicate N 0) v (0 : Int) = _ := h
  rw [h, bind_go, if_pos ⟨by omega, trivial⟩]
  rw [List.nil_append, List.take_of_length_le (by rw [le_length]; omega)]
theorem shr8_32 (x : Int) : shr .u32 x 8 = x / 256 := by simp [shr, IntKind.bits]
theorem shr8_64 (x : Int) : shr .i64 x 8 = x / 256 := by simp [shr, IntKind.bits]
theorem two_eq (v : Int) (hv : 0 ≤ v ∧ v < 9223372036854775808) : image_two.f v = some (le 2 v) := by
  unfold image_two.f
  rw [shr8_64, wu8, wu8]
  simp [le]
theorem store_loop (N : Nat) (hN : N ≤ 1000) : ∀ (d n k : Nat) (v : Int) (pre : List Int), pre.length = k → N - k = d → d < n → k ≤ N → 0 ≤ v ∧ v < 4294967296 → word_Store.l0 (N : Int) n pre v (k : Int) = some (pre ++ le d v) := by
  intro d
  induction d with
  | zero =>
    intro n k v pre hp hk hd hle hv
    obtain ⟨n, rfl⟩ := fuel_step hd
    unfold word_Store.l0
    rw [if_neg (by omega)]
    simp [le]
  | succ d ih =>
    intro n k v pre hp hk hd hle hv
    obtain ⟨n, rfl⟩ := fuel_step hd
    unfold word_Store.l0
    rw [if_pos (by omega), if_pos ⟨⟨rfl, rfl⟩, rfl, rfl, by omega, by omega⟩, wu8, shr8_32, wsucc (by omega),
      ih n (k + 1) (v / 256) (pre ++ [v % 256]) (by simp [hp]) (by omega) (by omega) (by omega) (by omega)]
    simp [le]
theorem store_eq (v : Int) (hv : 0 ≤ v ∧ v < 4294967296) : word_Store.f v 4 = some (le 4 v, none) := by
  unfold word_Store.f word_sized.f
  have h := store_loop 4 (by omega) 4 FUEL 0 v [] rfl rfl (fuel_gt (by omega)) (by omega) hv
  have h : word_Store.l0 (4 : Int) FUEL [] v (0 : Int) = _ := h
  rw [if_neg (by omega), if_neg (by omega), bind_go, if_neg (by simp), if_pos ⟨rfl, by omega, by omega, by omega⟩, h]
  rfl
/-! Lists behind each other. -/
theorem sum_loop (ps : List (List Int)) (hb : ps.flatten.length ≤ 140737488355328) (hn : ps.length ≤ 1000) : ∀ (d n k : Nat), ps.length - k = d → d < n → k ≤ ps.length → slices_Concat_byte_byte.l0 ps n (((ps.take k).flatten.length : Nat) : Int) (k : Int) = some ((ps.flatten.length : Nat) : Int) := by
  intro d
  induction d with
  | zero =>
    intro n k hk hd hle
    obtain ⟨n, rfl⟩ := fuel_step hd
    have : k = ps.length := by omega
    subst this
    unfold slices_Concat_byte_byte.l0
    rw [if_neg (by omega), List.take_length]
  | succ d ih =>
    intro n k hk hd hle
    obtain ⟨n, rfl⟩ := fuel_step hd
    unfold slices_Concat_byte_byte.l0
    have hs := ih n (k + 1) (by omega) (by omega) (by omega)
    have ht : (ps.take (k + 1)).flatten = (ps.take k).flatten ++ ps.getD k [] := by
      rw [List.take_succ_eq_append_getElem (show k < ps.length by omega), List.flatten_append, List.getD_eq_getElem?_getD, List.getElem?_eq_getElem (show k < ps.length by omega)]
      simp
    have hb2 : (ps.take (k + 1)).flatten.length ≤ ps.flatten.length := by
      have : ps.flatten = (ps.take (k + 1)).flatten ++ (ps.drop (k + 1)).flatten := by rw [← List.flatten_append, List.take_append_drop]
      rw [this, List.length_append]
      omega
    rw [ht, List.length_append] at hs hb2
    rw [if_pos (by omega), if_pos ⟨by omega, by omega⟩, toNat_nat, wi64 (by omega) (by omega), if_neg (by omega), wsucc (by omega), show (((ps.take k).flatten.length : Nat) : Int) + (((ps.getD k []).length : Nat) : Int) = (((ps.take k).flatten.length + (ps.getD k []).length : Nat) : Int) by omega, hs]
theorem concat_loop (ps : List (List Int)) (hb : ps.flatten.length ≤ 140737488355328) (hn : ps.length ≤ 1000) : ∀ (d n k : Nat), ps.length - k = d → d < n → k ≤ ps.length → slices_Concat_byte_byte.l1 ps n ((ps.take k).flatten) (k : Int) = some ps.flatten := by
  intro d
  induction d with
  | zero =>
    intro n k hk hd hle
    obtain ⟨n, rfl⟩ := fuel_step hd
    have : k = ps.length := by omega
    subst this
    unfold slices_Concat_byte_byte.l1
    rw [if_neg (by omega), List.take_length]
  | succ d ih =>
    intro n k hk hd hle
    obtain ⟨n, rfl⟩ := fuel_step hd
    unfold slices_Concat_byte_byte.l1
    have hs := ih n (k + 1) (by omega) (by omega) (by omega)
    have ht : (ps.take (k + 1)).flatten = (ps.take k).flatten ++ ps.getD k [] := by
      rw [List.take_succ_eq_append_getElem (show k < ps.length by omega), List.flatten_append, List.getD_eq_getElem?_getD, List.getElem?_eq_getElem (show k < ps.length by omega)]
      simp
    have hb2 : (ps.take (k + 1)).flatten.length ≤ ps.flatten.length := by
      have : ps.flatten = (ps.take (k + 1)).flatten ++ (ps.drop (k + 1)).flatten := by rw [← List.flatten_append, List.take_append_drop]
      rw [this, List.length_append]
      omega
    rw [ht] at hs hb2
    rw [List.length_append] at hb2
    rw [if_pos (by omega), if_pos ⟨by omega, by omega⟩, toNat_nat, if_pos ⟨trivial, rfl, rfl, by omega, by omega⟩, wsucc (by omega), hs]
theorem grow_eq (n : Nat) (h : n ≤ 140737488355328) : slices_Grow_byte_byte.f (n : Int) = some [] := by
  unfold slices_Grow_byte_byte.f
  rw [if_neg (by omega), Int.sub_zero, wi64 (by omega) (by omega)]
  by_cases h0 : (n : Int) > 0
  · rw [if_pos h0, if_pos ⟨by omega, by omega, by omega⟩, if_pos ⟨⟨by omega, by omega⟩, trivial⟩]
  · rw [if_neg h0]
theorem concat_eq (ps : List (List Int)) (hb : ps.flatten.length ≤ 140737488355328) (hn : ps.length ≤ 1000) : slices_Concat_byte_byte.f ps = some ps.flatten := by
  unfold slices_Concat_byte_byte.f
  have h := sum_loop ps hb hn _ FUEL 0 rfl (fuel_gt (by omega)) (by omega)
  have h : slices_Concat_byte_byte.l0 ps FUEL (0 : Int) (0 : Int) = _ := h
  have h2 := concat_loop ps hb hn _ FUEL 0 rfl (fuel_gt (by omega)) (by omega)
  have h2 : slices_Concat_byte_byte.l1 ps FUEL [] (0 : Int) = _ := h2
  rw [h, bind_go, grow_eq _ hb, bind_go, h2, bind_go]

def encS (s : Sg) : List Int := le 2 s.1 ++ (le 2 s.2.1 ++ ([s.2.2.1] ++ (le 2 ((s.2.2.2.length : Nat) : Int) ++ s.2.2.2)))
def heads (e : Int) (l : List Sg) : List Int := [104, 120, 48, 49] ++ (le 4 e ++ [((l.length : Nat) : Int) % 256])
def img (e : Int) (l : List Sg) : List Int := heads e l ++ l.flatMap encS
theorem encS_len (s : Sg) (h : MayS s) : (encS s).length ≤ 65542 := by
  have := h.2.2.2.2.1
  unfold encS
  simp only [List.length_append, le_length, List.length_cons, List.length_nil]
  omega
theorem enc_len : ∀ (l : List Sg), (∀ s ∈ l, MayS s) → (l.flatMap encS).length ≤ l.length * 65542
  | [], _ => by simp
  | s :: l, h => by
    have h1 := encS_len s (h s (by simp))
    have h2 := enc_len l (fun z hz => h z (by simp [hz]))
    rw [List.flatMap_cons, List.length_append, List.length_cons]
    omega
theorem heads_len (e : Int) (l : List Sg) : (heads e l).length = 9 := by simp [heads, le_length]
theorem take_enc (l : List Sg) (k : Nat) (h : k < l.length) : (l.take (k + 1)).flatMap encS = (l.take k).flatMap encS ++ encS (l.getD k dS) := by
  rw [List.take_succ_eq_append_getElem h, List.flatMap_append, List.getD_eq_getElem?_getD, List.getElem?_eq_getElem h]
  simp
theorem enc_loop (t3 : List Int × Option Int) (e : Int) (l : List Sg) (hm : ∀ s ∈ l, MayS s) (hn : l.length ≤ 8) (hd0 : List Int) (hh : hd0.length = 9) : ∀ (d n k : Nat), l.length - k = d → d < n → k ≤ l.length → image_Encode.l0 t3 e l n (hd0 ++ (l.take k).flatMap encS) (k : Int) = some (hd0 ++ l.flatMap encS) := by
  intro d
  induction d with
  | zero =>
    intro n k hk hd hle
    obtain ⟨n, rfl⟩ := fuel_step hd
    have : k = l.length := by omega
    subst this
    unfold image_Encode.l0
    rw [if_neg (by omega), List.take_length]
  | succ d ih =>
    intro n k hk hd hle
    obtain ⟨n, rfl⟩ := fuel_step hd
    unfold image_Encode.l0
    have hs := ih n (k + 1) (by omega) (by omega) (by omega)
    rw [take_enc l k (by omega)] at hs
    have hM := hm _ (getD_mem l k dS (by omega))
    have hl := enc_len (l.take k) (fun s hs => hm s (List.mem_of_mem_take hs))
    have hl2 := encS_len _ hM
    rw [List.length_take, Nat.min_eq_left (by omega)] at hl
    rw [if_pos (by omega), if_pos ⟨by omega, by omega⟩, toNat_nat]
    generalize l.getD k dS = s at hM hl2 hs ⊢
    unfold MayS at hM
    have hf : (List.take 6 [hd0 ++ (l.take k).flatMap encS, le 2 s.1, le 2 s.2.1, [s.2.2.1], le 2 ((s.2.2.2.length : Nat) : Int), s.2.2.2]).flatten = hd0 ++ ((l.take k).flatMap encS ++ encS s) := by
      simp [encS, List.append_assoc]
    rw [two_eq s.1 (by omega), bind_go, two_eq s.2.1 (by omega), bind_go, two_eq _ (by omega), bind_go, concat_eq _ (by rw [hf, List.length_append, List.length_append]; omega) (by simp), bind_go, hf, wsucc (by omega), hs]
theorem Encode_eq (e : Int) (he : 0 ≤ e ∧ e < 4294967296) (l : List Sg) (hl : ∀ s ∈ l, PermB s) (hn : l.length ≤ 9223372036854775807) : image_Encode.f e l = some (if okI e l then (img e l, none) else ([], some 8)) := by
  cases hok : okI e l with
  | false => rw [encode_bad e he l hl hn hok]; rfl
  | true =>
    obtain ⟨p1, p2, p3, p4, p5⟩ := okI_parts hok
    have hm := chk_may l 0 p4
    unfold image_Encode.f
    rw [check_eq e he l hl hn, hok, bind_go, if_pos rfl, if_neg (by simp), store_eq e he, bind_go, if_neg (by simp)]
    have hf : (List.take 3 [[(104 : Int), 120, 48, 49], le 4 e, [IntKind.wrap .u8 ((l.length : Nat) : Int)]]).flatten = heads e l := by
      rw [wu8]; simp [heads]
    rw [concat_eq _ (by rw [hf, heads_len]; omega) (by simp), bind_go, hf]
    have h := enc_loop (le 4 e, none) e l hm p2 (heads e l) (heads_len e l) _ FUEL 0 rfl (fuel_gt (by omega)) (by omega)
    rw [List.take_zero, List.flatMap_nil, List.append_nil] at h
    have h : image_Encode.l0 (le 4 e, none) e l FUEL (heads e l) (0 : Int) = _ := h
    rw [h]
    rfl
theorem renc_loop (e : Int) (l : List Sg) (hm : ∀ s ∈ l, MayS s) (hn : l.length ≤ 8) (hd0 : List Int) (hh : hd0.length = 9) : ∀ (d n k : Nat), l.length - k = d → d < n → k ≤ l.length → halterref21_Encode.l0 e l n (hd0 ++ (l.take k).flatMap encS) (k : Int) = some (hd0 ++ l.flatMap encS) := by
  intro d
  induction d with
  | zero =>
    intro n k hk hd hle
    obtain ⟨n, rfl⟩ := fuel_step hd
    have : k = l.length := by omega
    subst this
    unfold halterref21_Encode.l0
    rw [if_neg (by omega), List.take_length]
  | succ d ih =>
    intro n k hk hd hle
    obtain ⟨n, rfl⟩ := fuel_step hd
    unfold halterref21_Encode.l0
    have hs := ih n (k + 1) (by omega) (by omega) (by omega)
    rw [take_enc l k (by omega)] at hs
    have hM := hm _ (getD_mem l k dS (by omega))
    have hl := enc_len (l.take k) (fun s hs => hm s (List.mem_of_mem_take hs))
    rw [List.length_take, Nat.min_eq_left (by omega)] at hl
    rw [if_pos (by omega), if_pos ⟨by omega, by omega⟩, toNat_nat]
    generalize l.getD k dS = s at hM hs ⊢
    unfold MayS at hM
    have n2 : ∀ v : Int, 0 ≤ v ∧ v < 9223372036854775808 → halterref21_number.f v (2 : Int) = some (le 2 v) := fun v hv => number_eq v 2 (by omega) hv
    generalize hx : (l.take k).flatMap encS = x at hl hs ⊢
    have l2 : ∀ v, (le 2 v).length = 2 := fun v => le_length 2 v
    have fin : ((((hd0 ++ x ++ le 2 s.1) ++ le 2 s.2.1) ++ [s.2.2.1]) ++ le 2 ((s.2.2.2.length : Nat) : Int)) ++ s.2.2.2 = hd0 ++ (x ++ encS s) := by
      simp [encS, List.append_assoc]
    rw [n2 _ (by omega), bind_go, if_pos ⟨trivial, rfl, rfl, by simp only [List.length_append, hh, l2, List.length_take, List.length_cons, List.length_nil]; omega, by simp only [List.length_append, hh, l2, List.length_take, List.length_cons, List.length_nil]; omega⟩, n2 _ (by omega), bind_go,
      if_pos ⟨trivial, rfl, rfl, by simp only [List.length_append, hh, l2, List.length_take, List.length_cons, List.length_nil]; omega, by simp only [List.length_append, hh, l2, List.length_take, List.length_cons, List.length_nil]; omega⟩,
      if_pos ⟨by trivial, rfl, rfl, by simp only [List.length_append, hh, l2, List.length_take, List.length_cons, List.length_nil]; omega, by simp only [List.length_append, hh, l2, List.length_take, List.length_cons, List.length_nil]; omega⟩, n2 _ (by omega), bind_go,
      if_pos ⟨trivial, rfl, rfl, by simp only [List.length_append, hh, l2, List.length_take, List.length_cons, List.length_nil]; omega, by simp only [List.length_append, hh, l2, List.length_take, List.length_cons, List.length_nil]; omega⟩,
      if_pos ⟨trivial, rfl, rfl, by simp only [List.length_append, hh, l2, List.length_take, List.length_cons, List.length_nil]; omega, by simp only [List.length_append, hh, l2, List.length_take, List.length_cons, List.length_nil]; omega⟩, wsucc (by omega), fin, hs]
theorem REncode_eq (e : Int) (he : 0 ≤ e ∧ e < 4294967296) (l : List Sg) (hl : ∀ s ∈ l, PermB s) : halterref21_Encode.f e l = some (if okI e l then (img e l, 0) else ([], 8)) := by
  unfold halterref21_Encode.f
  rw [May_eq e he l hl, bind_go]
  cases hok : okI e l with
  | false => rfl
  | true =>
    obtain ⟨p1, p2, p3, p4, p5⟩ := okI_parts hok
    have hm := chk_may l 0 p4
    have n4 : halterref21_number.f (IntKind.wrap .i64 e) (4 : Int) = some (le 4 e) := by
      rw [wi64 (by omega) (by omega)]
      exact number_eq e 4 (by omega) (by omega)
    have l4 : (le 4 e).length = 4 := le_length 4 e
    rw [if_neg (by simp), n4, bind_go, if_pos ⟨trivial, by omega, by omega, by omega⟩, if_pos ⟨by simp, rfl, rfl, by simp only [List.length_append, l4, List.length_cons, List.length_nil]; omega, by simp only [List.length_append, l4, List.length_cons, List.length_nil]; omega⟩]
    have h := renc_loop e l hm p2 (heads e l) (heads_len e l) _ FUEL 0 rfl (fuel_gt (by omega)) (by omega)
    rw [List.take_zero, List.flatMap_nil, List.append_nil] at h
    have h : halterref21_Encode.l0 e l FUEL (heads e l) (0 : Int) = _ := h
    have hf : ([(104 : Int), 120, 48, 49] ++ le 4 e) ++ [IntKind.wrap .u8 ((l.length : Nat) : Int)] = heads e l := by
      rw [wu8]; simp [heads]
    rw [hf, h]
    rfl

theorem bytes_of (l : List Int) (h : ∀ z ∈ l, 0 ≤ z ∧ z < 256) : bytesOf (strOfNums l) = l := by
  unfold bytesOf
  rw [strOfNums_data, List.map_map]
  conv => rhs; rw [← List.map_id l]
  apply List.map_congr_left
  intro z hz
  have := h z hz
  show ((UInt8.ofNat z.toNat).toNat : Int) = z
  rw [UInt8.toNat_ofNat']
  omega

def levN : List Int → Nat
  | [] => 0
  | c :: r => c.toNat + 256 * levN r
def Bytes (l : List Int) : Prop := ∀ z ∈ l, 0 ≤ z ∧ z < 256
theorem Bytes.take {l : List Int} (h : Bytes l) (n : Nat) : Bytes (l.take n) := fun z hz => h z (List.mem_of_mem_take hz)
theorem Bytes.drop {l : List Int} (h : Bytes l) (n : Nat) : Bytes (l.drop n) := fun z hz => h z (List.mem_of_mem_drop hz)
theorem levN_lt : ∀ (l : List Int), Bytes l → levN l < 256 ^ l.length
  | [], _ => by simp [levN]
  | c :: r, h => by
    have h1 := h c (by simp)
    have h2 := levN_lt r (fun z hz => h z (by simp [hz]))
    simp only [levN, List.length_cons, Nat.pow_succ]
    omega
theorem levN_lt4 {l : List Int} (h : Bytes l) (hl : l.length ≤ 4) : levN l < 4294967296 :=
  Nat.lt_of_lt_of_le (levN_lt l h) (Nat.le_trans (Nat.pow_le_pow_right (by decide) hl) (by decide))
theorem levN_lt2 {l : List Int} (h : Bytes l) (hl : l.length ≤ 2) : levN l < 65536 :=
  Nat.lt_of_lt_of_le (levN_lt l h) (Nat.le_trans (Nat.pow_le_pow_right (by decide) hl) (by decide))
theorem levN_lt3 {l : List Int} (h : Bytes l) (hl : l.length ≤ 3) : levN l < 16777216 :=
  Nat.lt_of_lt_of_le (levN_lt l h) (Nat.le_trans (Nat.pow_le_pow_right (by decide) hl) (by decide))
theorem levN_snoc : ∀ (l : List Int) (c : Int), levN (l ++ [c]) = levN l + c.toNat * 256 ^ l.length
  | [], c => by simp [levN]
  | x :: l, c => by
    simp only [List.cons_append, levN, levN_snoc l c, List.length_cons, Nat.pow_succ, Nat.mul_add]
    rw [show c.toNat * (256 ^ l.length * 256) = 256 * (c.toNat * 256 ^ l.length) by rw [← Nat.mul_assoc, Nat.mul_comm]]
    omega
theorem levN_zeros : ∀ n, levN (List.replicate n (0 : Int)) = 0
  | 0 => rfl
  | n + 1 => by simp [List.replicate_succ, levN, levN_zeros n]
theorem or_add (a c k : Nat) (ha : a < 2 ^ k) : a ||| (c * 2 ^ k) = a + c * 2 ^ k := by
  rw [Nat.or_comm, ← Nat.shiftLeft_eq, ← Nat.shiftLeft_add_eq_or_of_lt ha, Nat.add_comm]
theorem num_loop (t1 : List Int × List Int × Bool) (L : List Int) (hL : t1.1 = L) (hb : Bytes L) (h4 : L.length ≤ 4) : ∀ (d n k : Nat), L.length - k = d → d < n → k ≤ L.length → image_reader_number.l0 t1 n ((levN (L.take k) : Nat) : Int) (k : Int) = some ((levN L : Nat) : Int) := by
  intro d
  induction d with
  | zero =>
    intro n k hk hd hle
    obtain ⟨n, rfl⟩ := fuel_step hd
    have : k = L.length := by omega
    subst this
    unfold image_reader_number.l0
    rw [hL, if_neg (by omega), List.take_length]
  | succ d ih =>
    intro n k hk hd hle
    obtain ⟨n, rfl⟩ := fuel_step hd
    unfold image_reader_number.l0
    have hs := ih n (k + 1) (by omega) (by omega) (by omega)
    have hc := hb _ (getD_mem L k 0 (by omega))
    have ht : L.take (k + 1) = L.take k ++ [L.getD k 0] := by
      rw [List.take_succ_eq_append_getElem (show k < L.length by omega), List.getD_eq_getElem?_getD, List.getElem?_eq_getElem (show k < L.length by omega)]
      rfl
    have hlen : (L.take k).length = k := by rw [List.length_take]; omega
    have hlt := levN_lt (L.take k) (hb.take k)
    rw [hlen] at hlt
    rw [ht, levN_snoc, hlen] at hs
    rw [hL, if_pos (by omega), if_pos ⟨by omega, by omega⟩, toNat_nat, wi64 (x := 8 * (k : Int)) (by omega) (by omega), if_pos (by omega)]
    generalize L.getD k 0 = c at hc hs ⊢
    have hP : 256 ^ k = 2 ^ (8 * k) := by rw [show (256 : Nat) = 2 ^ 8 from rfl, ← Nat.pow_mul]
    have hPb : 2 ^ (8 * k) ≤ 2 ^ 24 := Nat.pow_le_pow_right (by decide) (by omega)
    rw [hP] at hlt hs
    have hcn : c.toNat * 2 ^ (8 * k) ≤ 255 * 2 ^ (8 * k) := Nat.mul_le_mul_right _ (by omega)
    have hshl : shl .i64 (IntKind.wrap .i64 c) (8 * (k : Int)) = ((c.toNat * 2 ^ (8 * k) : Nat) : Int) := by
      rw [wi64 (x := c) (by omega) (by omega)]
      unfold shl
      have hm : min (Int.toNat (8 * (k : Int))) (IntKind.bits .i64) = 8 * k := by
        rw [show Int.toNat (8 * (k : Int)) = 8 * k by omega, show IntKind.bits .i64 = 64 from rfl]
        omega
      rw [hm, show c * 2 ^ (8 * k) = ((c.toNat * 2 ^ (8 * k) : Nat) : Int) by
        rw [Int.natCast_mul, Int.toNat_of_nonneg hc.1, Int.natCast_pow]; rfl]
      rw [wi64 (by omega) (by omega)]
    rw [hshl, i64_or _ _ (by omega) (by omega), or_add _ _ _ hlt, wsucc (by omega), hs]
theorem clone_eq (l : List Int) (h : l.length ≤ 140737488355328) : slices_Clone_byte_byte.f l = some l := by
  unfold slices_Clone_byte_byte.f
  by_cases h0 : l.length = 0
  · rw [if_pos h0]
    unfold same
    have : l = [] := List.length_eq_zero_iff.1 h0
    subst this
    rfl
  · rw [if_neg h0, if_pos ⟨trivial, rfl, rfl, by omega, by omega⟩, List.nil_append]
theorem take_bad (n : Nat) (b : List Int) (bad : Bool) (hn : n ≤ 65535) (h : bad = true ∨ b.length < n) : image_reader_take.f (n : Int) b bad = some (List.replicate n 0, b, true) := by
  unfold image_reader_take.f
  have e : List.take n (List.replicate n (0 : Int)) = List.replicate n 0 := List.take_of_length_le (by simp)
  cases bad with
  | true => rw [if_pos rfl, if_pos ⟨by omega, rfl, by omega, by omega⟩, toNat_nat, if_pos ⟨by omega, trivial⟩, e]
  | false =>
    have h : b.length < n := by simpa using h
    rw [if_neg (by simp), if_pos (by omega), if_pos ⟨by omega, rfl, by omega, by omega⟩, toNat_nat, if_pos ⟨by omega, trivial⟩, e]
theorem take_ok (n : Nat) (b : List Int) (hb : b.length ≤ 140737488355328) (h : n ≤ b.length) : image_reader_take.f (n : Int) b false = some (b.take n, b.drop n, false) := by
  unfold image_reader_take.f
  rw [if_neg (by simp), if_neg (by omega), if_pos ⟨by omega, by omega⟩, toNat_nat, clone_eq _ (by rw [List.length_take]; omega), bind_go, if_pos ⟨trivial, by omega, by omega⟩]
theorem num_bad (n : Nat) (b : List Int) (bad : Bool) (hn : n ≤ 4) (h : bad = true ∨ b.length < n) : image_reader_number.f (n : Int) b bad = some (0, b, true) := by
  unfold image_reader_number.f
  rw [take_bad n b bad (by omega) h, bind_go]
  have h := num_loop (List.replicate n 0, b, true) (List.replicate n 0) rfl (fun z hz => by have := List.eq_of_mem_replicate hz; omega) (by rw [List.length_replicate]; exact hn) _ FUEL 0 rfl (fuel_gt (by rw [List.length_replicate]; omega)) (by omega)
  rw [levN_zeros, List.take_zero] at h
  have h : image_reader_number.l0 (List.replicate n 0, b, true) FUEL (0 : Int) (0 : Int) = some 0 := h
  rw [h]
  rfl
theorem num_ok (n : Nat) (b : List Int) (hb : b.length ≤ 140737488355328) (hB : Bytes b) (hn : n ≤ 4) (h : n ≤ b.length) : image_reader_number.f (n : Int) b false = some (((levN (b.take n) : Nat) : Int), b.drop n, false) := by
  unfold image_reader_number.f
  rw [take_ok n b hb h, bind_go]
  have h := num_loop (b.take n, b.drop n, false) (b.take n) rfl (hB.take n) (by rw [List.length_take]; omega) _ FUEL 0 rfl (fuel_gt (by rw [List.length_take]; omega)) (by omega)
  rw [List.take_zero] at h
  have h : image_reader_number.l0 (b.take n, b.drop n, false) FUEL (0 : Int) (0 : Int) = _ := h
  rw [h]
  rfl
theorem seg_ok (b : List Int) (hb : b.length ≤ 140737488355328) (hB : Bytes b) (h7 : 7 ≤ b.length) (hn : levN ((b.drop 5).take 2) ≤ b.length - 7) :
    image_reader_seg.f b false = some (((levN (b.take 2) : Nat) : Int), ((levN ((b.drop 2).take 2) : Nat) : Int), IntKind.wrap .u8 ((levN ((b.drop 4).take 1) : Nat) : Int), (b.drop 7).take (levN ((b.drop 5).take 2)), b.drop (7 + levN ((b.drop 5).take 2)), false) := by
  unfold image_reader_seg.f
  have e1 := num_ok 2 b hb hB (by omega) (by omega)
  have e2 := num_ok 2 (b.drop 2) (by rw [List.length_drop]; omega) (hB.drop 2) (by omega) (by rw [List.length_drop]; omega)
  have e3 := num_ok 1 (b.drop 4) (by rw [List.length_drop]; omega) (hB.drop 4) (by omega) (by rw [List.length_drop]; omega)
  have e4 := num_ok 2 (b.drop 5) (by rw [List.length_drop]; omega) (hB.drop 5) (by omega) (by rw [List.length_drop]; omega)
  have e5 := take_ok (levN ((b.drop 5).take 2)) (b.drop 7) (by rw [List.length_drop]; omega) (by rw [List.length_drop]; omega)
  rw [List.drop_drop] at e2 e3 e4 e5
  have e1 : image_reader_number.f (2 : Int) b false = _ := e1
  have e2 : image_reader_number.f (2 : Int) (b.drop 2) false = _ := e2
  have e3 : image_reader_number.f (1 : Int) (b.drop 4) false = _ := e3
  have e4 : image_reader_number.f (2 : Int) (b.drop 5) false = _ := e4
  rw [e1, bind_go]
  simp only
  rw [e2, bind_go]
  simp only
  rw [e3, bind_go]
  simp only
  rw [e4, bind_go]
  simp only
  rw [e5, bind_go]
theorem seg_bad (b : List Int) (hb : b.length ≤ 140737488355328) (hB : Bytes b) (h : b.length < 7 ∨ b.length - 7 < levN ((b.drop 5).take 2)) :
    ∃ x1 x2 x3 x4 x5, image_reader_seg.f b false = some (x1, x2, x3, x4, x5, true) := by
  have B : ∀ (x : List Int), image_reader_number.f (2 : Int) x true = some (0, x, true) := fun x => num_bad 2 x true (by omega) (.inl rfl)
  have B1 : ∀ (x : List Int), image_reader_number.f (1 : Int) x true = some (0, x, true) := fun x => num_bad 1 x true (by omega) (.inl rfl)
  have T : ∀ (x : List Int), image_reader_take.f (0 : Int) x true = some ([], x, true) := fun x => take_bad 0 x true (by omega) (.inl rfl)
  unfold image_reader_seg.f
  by_cases h2 : b.length < 2
  · have e1 : image_reader_number.f (2 : Int) b false = _ := num_bad 2 b false (by omega) (.inr h2)
    rw [e1, bind_go]; simp only; rw [B, bind_go]; simp only; rw [B1, bind_go]; simp only; rw [B, bind_go]; simp only; rw [T]
    exact ⟨_, _, _, _, _, rfl⟩
  have e1 : image_reader_number.f (2 : Int) b false = _ := num_ok 2 b hb hB (by omega) (by omega)
  rw [e1, bind_go]; simp only
  by_cases h4 : b.length < 4
  · have e2 : image_reader_number.f (2 : Int) (b.drop 2) false = _ := num_bad 2 (b.drop 2) false (by omega) (.inr (by rw [List.length_drop]; omega))
    rw [e2, bind_go]; simp only; rw [B1, bind_go]; simp only; rw [B, bind_go]; simp only; rw [T]
    exact ⟨_, _, _, _, _, rfl⟩
  have e2 : image_reader_number.f (2 : Int) (b.drop 2) false = _ := num_ok 2 (b.drop 2) (by rw [List.length_drop]; omega) (hB.drop 2) (by omega) (by rw [List.length_drop]; omega)
  rw [List.drop_drop] at e2
  rw [e2, bind_go]; simp only
  by_cases h5 : b.length < 5
  · have e3 : image_reader_number.f (1 : Int) (b.drop 4) false = _ := num_bad 1 (b.drop 4) false (by omega) (.inr (by rw [List.length_drop]; omega))
    rw [e3, bind_go]; simp only; rw [B, bind_go]; simp only; rw [T]
    exact ⟨_, _, _, _, _, rfl⟩
  have e3 : image_reader_number.f (1 : Int) (b.drop 4) false = _ := num_ok 1 (b.drop 4) (by rw [List.length_drop]; omega) (hB.drop 4) (by omega) (by rw [List.length_drop]; omega)
  rw [List.drop_drop] at e3
  rw [e3, bind_go]; simp only
  by_cases h7 : b.length < 7
  · have e4 : image_reader_number.f (2 : Int) (b.drop 5) false = _ := num_bad 2 (b.drop 5) false (by omega) (.inr (by rw [List.length_drop]; omega))
    rw [e4, bind_go]; simp only; rw [T]
    exact ⟨_, _, _, _, _, rfl⟩
  have e4 : image_reader_number.f (2 : Int) (b.drop 5) false = _ := num_ok 2 (b.drop 5) (by rw [List.length_drop]; omega) (hB.drop 5) (by omega) (by rw [List.length_drop]; omega)
  rw [List.drop_drop] at e4
  rw [e4, bind_go]; simp only
  have hlt := levN_lt2 ((hB.drop 5).take 2) (by rw [List.length_take]; omega)
  have e5 : image_reader_take.f ((levN ((b.drop 5).take 2) : Nat) : Int) (b.drop 7) false = _ := take_bad (levN ((b.drop 5).take 2)) (b.drop 7) false (by omega) (.inr (by rw [List.length_drop]; omega))
  rw [e5]
  exact ⟨_, _, _, _, _, rfl⟩
theorem whole_loop (b : List Int) (hB : Bytes b) (at_ m : Nat) (hm : m ≤ 4) (hb : b.length ≤ 140737488355328) (ha : at_ + m ≤ b.length) : ∀ (j n : Nat), j < n → j ≤ m → halterref21_whole.l0 b (at_ : Int) n ((levN ((b.drop (at_ + j)).take (m - j)) : Nat) : Int) ((j : Int) - 1) = some ((levN ((b.drop at_).take m) : Nat) : Int) := by
  intro j
  induction j with
  | zero =>
    intro n hn _
    obtain ⟨n, rfl⟩ := fuel_step hn
    unfold halterref21_whole.l0
    rw [if_neg (by omega)]
    rfl
  | succ j ih =>
    intro n hn hj
    obtain ⟨n, rfl⟩ := fuel_step hn
    unfold halterref21_whole.l0
    have hs := ih n (by omega) (by omega)
    have hc := hB _ (getD_mem b (at_ + j) 0 (by omega))
    have hd : (b.drop (at_ + j)).take (m - j) = b.getD (at_ + j) 0 :: (b.drop (at_ + (j + 1))).take (m - (j + 1)) := by
      rw [drop_getD b (at_ + j) 0 (by omega), show m - j = (m - (j + 1)) + 1 by omega, List.take_succ_cons]
      rfl
    have hlt := levN_lt3 ((hB.drop (at_ + (j + 1))).take (m - (j + 1))) (by rw [List.length_take]; omega)
    rw [hd, levN] at hs
    have hi : IntKind.wrap .i64 ((at_ : Int) + (((j + 1 : Nat) : Int) - 1)) = ((at_ + j : Nat) : Int) := by rw [wi64 (by omega) (by omega)]; omega
    rw [if_pos (by omega), hi, if_pos ⟨by omega, by omega⟩, toNat_nat]
    generalize b.getD (at_ + j) 0 = c at hc hs ⊢
    generalize levN ((b.drop (at_ + (j + 1))).take (m - (j + 1))) = x at hlt hs ⊢
    rw [wi64 (x := c) (by omega) (by omega), wi64 (x := 256 * (x : Int)) (by omega) (by omega), wi64 (x := 256 * (x : Int) + c) (by omega) (by omega), wi64 (x := ((j + 1 : Nat) : Int) - 1 - 1) (by omega) (by omega),
      show 256 * (x : Int) + c = ((c.toNat + 256 * x : Nat) : Int) by omega, show ((j + 1 : Nat) : Int) - 1 - 1 = (j : Int) - 1 by omega, hs]
theorem whole_eq (b : List Int) (hB : Bytes b) (at_ m : Nat) (hm : m ≤ 4) (hb : b.length ≤ 140737488355328) (ha : at_ + m ≤ b.length) : halterref21_whole.f b (at_ : Int) (m : Int) = some ((levN ((b.drop at_).take m) : Nat) : Int) := by
  unfold halterref21_whole.f
  have h := whole_loop b hB at_ m hm hb ha m FUEL (fuel_gt (by omega)) (Nat.le_refl _)
  rw [Nat.sub_self, List.take_zero] at h
  have h : halterref21_whole.l0 b (at_ : Int) FUEL 0 ((m : Int) - 1) = _ := h
  rw [wi64 (by omega) (by omega), h]
  rfl

theorem dec_loop (t3 : Int × List Int × Bool) (t6 : Int) (b : List Int) (hB : Bytes b) (hb : b.length ≤ 140737488355328) (h9 : 9 ≤ b.length) (N : Nat) (hN : b.getD 8 0 = (N : Int)) (hN2 : N < 256) : ∀ (d n m k at_ : Nat) (out : List Sg), N - k = d → d < n → d + 1 < m → k ≤ N → at_ ≤ b.length → out.length = k → (∀ s ∈ out, PermB s) →
    ((∃ out2 at2, at2 ≤ b.length ∧ (∀ s ∈ out2, PermB s) ∧ out2.length ≤ 255 ∧ halterref21_Decode.l0 t6 b n out (at_ : Int) (k : Int) = some (.inl (out2, ((at2 : Nat) : Int))) ∧ image_Decode.l0 t3 m (b.drop at_) false out ((N : Int) - k) = some (b.drop at2, false, out2)) ∨
     ((∃ o, halterref21_Decode.l0 t6 b n out (at_ : Int) (k : Int) = some (.inr o)) ∧ ∃ x y, image_Decode.l0 t3 m (b.drop at_) false out ((N : Int) - k) = some (x, true, y))) := by
  intro d
  induction d with
  | zero =>
    intro n m k at_ out hk hn hm hle ha ho hP
    obtain ⟨n, rfl⟩ := fuel_step hn
    obtain ⟨m, rfl⟩ := fuel_step hm
    left
    refine ⟨out, at_, ha, hP, by omega, ?_, ?_⟩
    · unfold halterref21_Decode.l0
      rw [if_pos ⟨by omega, by omega⟩, hN, wi64 (by omega) (by omega), if_neg (by omega)]
    · unfold image_Decode.l0
      rw [if_neg (by omega)]
  | succ d ih =>
    intro n m k at_ out hk hn hm hle ha ho hP
    obtain ⟨n, rfl⟩ := fuel_step hn
    obtain ⟨m, rfl⟩ := fuel_step hm
    obtain ⟨m, rfl⟩ := fuel_step (show d + 1 < m by omega)
    have hDB := hB.drop at_
    have hDl : (b.drop at_).length = b.length - at_ := List.length_drop
    -- the reader's fault ends the loop
    have bad : (b.drop at_).length < 7 ∨ (b.drop at_).length - 7 < levN (((b.drop at_).drop 5).take 2) → ∃ x y, image_Decode.l0 t3 (m + 1 + 1) (b.drop at_) false out ((N : Int) - k) = some (x, true, y) := fun h => by
      obtain ⟨x1, x2, x3, x4, x5, hsg⟩ := seg_bad (b.drop at_) (by omega) hDB h
      unfold image_Decode.l0
      rw [if_pos (by omega), if_pos (by simp), hsg, bind_go]
      simp only
      rw [if_pos ⟨by simp, by simp, by simp, by simp only [List.length_take, List.length_cons, List.length_nil]; omega, by simp only [List.length_take, List.length_cons, List.length_nil]; omega⟩]
      unfold image_Decode.l0
      rw [wi64 (by omega) (by omega)]
      by_cases hz : (N : Int) - k - 1 > 0
      · rw [if_pos hz, if_neg (by simp)]
        exact ⟨_, _, rfl⟩
      · rw [if_neg hz]
        exact ⟨_, _, rfl⟩
    have hd5 : (b.drop at_).drop 5 = b.drop (at_ + 5) := by rw [List.drop_drop]
    rw [hd5] at bad
    have hl0 : ∀ r, (if (IntKind.wrap .i64 (((b.length : Nat) : Int) - at_)) < (7 : Int) then (some (Sum.inr out) : Option ((List Sg × Int) ⊕ List Sg)) else r) = if b.length - at_ < 7 then some (Sum.inr out) else r := fun r => by
      rw [wi64 (by omega) (by omega)]
      by_cases h : b.length - at_ < 7
      · rw [if_pos h, if_pos (by omega)]
      · rw [if_neg h, if_neg (by omega)]
    by_cases h7 : b.length - at_ < 7
    · right
      refine ⟨⟨out, ?_⟩, bad (.inl (by omega))⟩
      unfold halterref21_Decode.l0
      rw [if_pos ⟨by omega, by omega⟩, hN, wi64 (x := (N : Int)) (by omega) (by omega), if_pos (by omega), hl0, if_pos h7]
    have w5 : halterref21_whole.f b (IntKind.wrap .i64 ((at_ : Int) + 5)) 2 = some ((levN ((b.drop (at_ + 5)).take 2) : Nat) : Int) := by
      rw [wi64 (by omega) (by omega)]
      exact whole_eq b hB (at_ + 5) 2 (by omega) hb (by omega)
    have hlt := levN_lt2 ((hB.drop (at_ + 5)).take 2) (by rw [List.length_take]; omega)
    by_cases hn7 : b.length - at_ - 7 < levN ((b.drop (at_ + 5)).take 2)
    · right
      refine ⟨⟨out, ?_⟩, bad (.inr (by omega))⟩
      unfold halterref21_Decode.l0
      rw [if_pos ⟨by omega, by omega⟩, hN, wi64 (x := (N : Int)) (by omega) (by omega), if_pos (by omega), hl0, if_neg h7, w5, bind_go, wi64 (x := ((b.length : Nat) : Int) - at_) (by omega) (by omega), wi64 (x := ((b.length : Nat) : Int) - at_ - 7) (by omega) (by omega), if_pos (by omega)]
    have w0 : halterref21_whole.f b (at_ : Int) 2 = some ((levN ((b.drop at_).take 2) : Nat) : Int) := whole_eq b hB at_ 2 (by omega) hb (by omega)
    have w2 : halterref21_whole.f b (IntKind.wrap .i64 ((at_ : Int) + 2)) 2 = some ((levN ((b.drop (at_ + 2)).take 2) : Nat) : Int) := by
      rw [wi64 (by omega) (by omega)]
      exact whole_eq b hB (at_ + 2) 2 (by omega) hb (by omega)
    have sg := seg_ok (b.drop at_) (by omega) hDB (by omega) (by rw [hd5]; omega)
    rw [hd5, List.drop_drop, List.drop_drop, List.drop_drop, List.drop_drop] at sg
    generalize hLL : levN ((b.drop (at_ + 5)).take 2) = L at w5 hn7 sg hlt
    have hc := hB _ (getD_mem b (at_ + 4) 0 (by omega))
    have h4 : IntKind.wrap .u8 ((levN ((b.drop (at_ + 4)).take 1) : Nat) : Int) = b.getD (at_ + 4) 0 := by
      rw [drop_getD b (at_ + 4) 0 (by omega), List.take_succ_cons, List.take_zero]
      simp only [levN]
      rw [wu8_id (by omega)]
      omega
    rw [h4] at sg
    have hdt : List.drop (at_ + 7) (List.take (at_ + 7 + L) b) = (b.drop (at_ + 7)).take L := by
      rw [List.drop_take, Nat.add_sub_cancel_left]
    have ho2 : (out ++ [(((levN ((b.drop at_).take 2) : Nat) : Int), (((levN ((b.drop (at_ + 2)).take 2) : Nat) : Int), (b.getD (at_ + 4) 0, (b.drop (at_ + 7)).take L)))]).length = k + 1 := by simp [ho]
    have := ih n (m + 1) (k + 1) (at_ + 7 + L) (out ++ [(((levN ((b.drop at_).take 2) : Nat) : Int), (((levN ((b.drop (at_ + 2)).take 2) : Nat) : Int), (b.getD (at_ + 4) 0, (b.drop (at_ + 7)).take L)))]) (by omega) (by omega) (by omega) (by omega) (by omega) ho2 (fun s hs => by
      rcases List.mem_append.1 hs with hs | hs
      · exact hP s hs
      · obtain rfl := List.mem_singleton.1 hs
        exact hc)
    have eR : halterref21_Decode.l0 t6 b (n + 1) out (at_ : Int) (k : Int) = halterref21_Decode.l0 t6 b n (out ++ [(((levN ((b.drop at_).take 2) : Nat) : Int), (((levN ((b.drop (at_ + 2)).take 2) : Nat) : Int), (b.getD (at_ + 4) 0, (b.drop (at_ + 7)).take L)))]) ((at_ + 7 + L : Nat) : Int) ((k + 1 : Nat) : Int) := by
      conv => lhs; unfold halterref21_Decode.l0
      rw [if_pos ⟨by omega, by omega⟩, hN, wi64 (x := (N : Int)) (by omega) (by omega), if_pos (by omega), hl0, if_neg h7, w5, bind_go, wi64 (x := ((b.length : Nat) : Int) - at_) (by omega) (by omega), wi64 (x := ((b.length : Nat) : Int) - at_ - 7) (by omega) (by omega), if_neg (by omega),
        wi64 (x := (at_ : Int) + 4) (by omega) (by omega), if_pos ⟨by omega, by omega⟩, w0, bind_go, w2, bind_go, wi64 (x := (at_ : Int) + 7) (by omega) (by omega), wi64 (x := (at_ : Int) + 7 + L) (by omega) (by omega),
        show (at_ : Int) + 4 = ((at_ + 4 : Nat) : Int) by omega, show (at_ : Int) + 7 + L = ((at_ + 7 + L : Nat) : Int) by omega, show (at_ : Int) + 7 = ((at_ + 7 : Nat) : Int) by omega, toNat_nat, toNat_nat, toNat_nat, if_pos ⟨⟨by omega, by omega⟩, by omega, by omega⟩, hdt,
        if_pos ⟨by simp, by simp, by simp, by simp only [List.length_take, List.length_cons, List.length_nil]; omega, by simp only [List.length_take, List.length_cons, List.length_nil]; omega⟩, wsucc (by omega)]
      rfl
    have eP : image_Decode.l0 t3 (m + 1 + 1) (b.drop at_) false out ((N : Int) - k) = image_Decode.l0 t3 (m + 1) (b.drop (at_ + 7 + L)) false (out ++ [(((levN ((b.drop at_).take 2) : Nat) : Int), (((levN ((b.drop (at_ + 2)).take 2) : Nat) : Int), (b.getD (at_ + 4) 0, (b.drop (at_ + 7)).take L)))]) ((N : Int) - ((k + 1 : Nat) : Int)) := by
      conv => lhs; unfold image_Decode.l0
      rw [if_pos (by omega), if_pos (by simp), sg, bind_go]
      simp only
      rw [if_pos ⟨by simp, by simp, by simp, by simp only [List.length_take, List.length_cons, List.length_nil]; omega, by simp only [List.length_take, List.length_cons, List.length_nil]; omega⟩, wi64 (by omega) (by omega), show (N : Int) - k - 1 = (N : Int) - ((k + 1 : Nat) : Int) by omega, Nat.add_assoc]
      rfl
    rw [eR, eP]
    exact this
theorem Decode_eq (b : List Int) (hB : Bytes b) (hb : b.length ≤ 140737488355328) : ∃ e l er, image_Decode.f b = some (e, l, er) ∧ halterref21_Decode.f b = some (e, l, er.getD 0) ∧ l.length ≤ 255 := by
  unfold image_Decode.f halterref21_Decode.f
  by_cases h4 : b.length < 4
  · have e1 : image_reader_take.f (4 : Int) b false = _ := take_bad 4 b false (by omega) (.inr h4)
    rw [e1, bind_go, if_pos (show ¬ strOfNums (List.replicate 4 (0 : Int)) = (⟨#[104, 120, 48, 49]⟩ : ByteArray) by decide +kernel), if_pos (by omega)]
    exact ⟨_, _, _, rfl, rfl, by simp⟩
  have e1 : image_reader_take.f (4 : Int) b false = _ := take_ok 4 b hb (by omega)
  rw [e1, bind_go]
  simp only
  by_cases hm : strOfNums (b.take 4) = (⟨#[104, 120, 48, 49]⟩ : ByteArray)
  · rw [if_neg (by simpa using hm)]
    have ht : b.take 4 = [104, 120, 48, 49] := by
      rw [← bytes_of (b.take 4) (hB.take 4), hm]
      rfl
    have g : ∀ i : Nat, i < 4 → b.getD i 0 = [(104 : Int), 120, 48, 49].getD i 0 := fun i hi => by
      rw [← ht, List.getD_eq_getElem?_getD, List.getD_eq_getElem?_getD, List.getElem?_take_of_lt hi]
    have g0 := g 0 (by omega)
    have g1 := g 1 (by omega)
    have g2 := g 2 (by omega)
    have g3 := g 3 (by omega)
    by_cases h8 : b.length < 8
    · have e2 : image_reader_number.f (4 : Int) (b.drop 4) false = _ := num_bad 4 (b.drop 4) false (by omega) (.inr (by rw [List.length_drop]; omega))
      have e3 : image_reader_number.f (1 : Int) (b.drop 4) true = _ := num_bad 1 (b.drop 4) true (by omega) (.inl rfl)
      rw [e2, bind_go]; simp only; rw [e3, bind_go]; simp only
      obtain ⟨m, hm⟩ : ∃ m, FUEL = m + 1 := ⟨18446744073709551615, rfl⟩
      rw [hm]
      unfold image_Decode.l0
      rw [if_neg (by omega), bind_go, if_pos rfl, if_pos (by omega)]
      exact ⟨_, _, _, rfl, rfl, by simp⟩
    have e2 : image_reader_number.f (4 : Int) (b.drop 4) false = _ := num_ok 4 (b.drop 4) (by rw [List.length_drop]; omega) (hB.drop 4) (by omega) (by rw [List.length_drop]; omega)
    rw [List.drop_drop] at e2
    rw [e2, bind_go]; simp only
    by_cases h9 : b.length < 9
    · have e3 : image_reader_number.f (1 : Int) (b.drop 8) false = _ := num_bad 1 (b.drop 8) false (by omega) (.inr (by rw [List.length_drop]; omega))
      rw [e3, bind_go]; simp only
      obtain ⟨m, hm⟩ : ∃ m, FUEL = m + 1 := ⟨18446744073709551615, rfl⟩
      rw [hm]
      unfold image_Decode.l0
      rw [if_neg (by omega), bind_go, if_pos rfl, if_pos (by omega)]
      exact ⟨_, _, _, rfl, rfl, by simp⟩
    have e3 : image_reader_number.f (1 : Int) (b.drop 8) false = _ := num_ok 1 (b.drop 8) (by rw [List.length_drop]; omega) (hB.drop 8) (by omega) (by rw [List.length_drop]; omega)
    rw [List.drop_drop] at e3
    have hc := hB _ (getD_mem b 8 0 (by omega))
    obtain ⟨N, hN⟩ : ∃ N : Nat, b.getD 8 0 = (N : Int) := ⟨(b.getD 8 0).toNat, by omega⟩
    have h1 : levN ((b.drop 8).take 1) = N := by
      rw [drop_getD b 8 0 (by omega), List.take_succ_cons, List.take_zero]
      simp only [levN]
      omega
    rw [h1] at e3
    rw [e3, bind_go]; simp only
    have w4 : halterref21_whole.f b 4 4 = _ := whole_eq b hB 4 4 (by omega) hb (by omega)
    rw [if_neg (by omega), if_pos ⟨by omega, by omega⟩, if_neg (by rw [g0]; decide), if_pos ⟨by omega, by omega⟩, if_neg (by rw [g1]; decide), if_pos ⟨by omega, by omega⟩, if_neg (by rw [g2]; decide), if_pos ⟨by omega, by omega⟩, if_neg (by rw [g3]; decide), w4, bind_go]
    have hlt := levN_lt4 ((hB.drop 4).take 4) (by rw [List.length_take]; omega)
    generalize levN ((b.drop 4).take 4) = E at hlt ⊢
    have hl := dec_loop (((E : Nat) : Int), b.drop 8, false) ((E : Nat) : Int) b hB hb (by omega) N hN (by omega) N FUEL FUEL 0 9 [] (by omega) (fuel_gt (by omega)) (by show N + 1 < 18446744073709551616; omega) (by omega) (by omega) rfl (fun s hs => (List.not_mem_nil hs).elim)
    rw [show (N : Int) - ((0 : Nat) : Int) = (N : Int) by omega] at hl
    have hw : IntKind.wrap .u32 ((E : Nat) : Int) = (E : Int) := wu32_id (by omega)
    rcases hl with ⟨out2, at2, q1, q2, q5, q3, q4⟩ | ⟨⟨o, q3⟩, x, y, q4⟩
    · have q3 : halterref21_Decode.l0 ((E : Nat) : Int) b FUEL [] (9 : Int) (0 : Int) = _ := q3
      rw [q3, bind_go, q4, bind_go]
      simp only
      rw [if_neg (by simp), hw]
      have hdl : (b.drop at2).length = b.length - at2 := List.length_drop
      by_cases hz : b.length = at2
      · rw [if_neg (by omega), if_neg (by omega), check_eq _ (by omega) out2 q2 (by omega), bind_go, May_eq _ (by omega) out2 q2, bind_go]
        cases okI ((E : Nat) : Int) out2 with
        | true => exact ⟨_, _, _, rfl, rfl, q5⟩
        | false => exact ⟨_, _, _, rfl, rfl, by simp⟩
      · rw [if_pos (by omega), if_pos (by omega)]
        exact ⟨_, _, _, rfl, rfl, by simp⟩
    · have q3 : halterref21_Decode.l0 ((E : Nat) : Int) b FUEL [] (9 : Int) (0 : Int) = _ := q3
      rw [q3, bind_go, q4, bind_go]
      exact ⟨_, _, _, rfl, rfl, by simp⟩
  · rw [if_pos hm]
    refine ⟨_, _, _, rfl, ?_, by simp⟩
    by_cases h9 : ((b.length : Nat) : Int) < 9
    · rw [if_pos h9]; rfl
    rw [if_neg h9, if_pos ⟨by omega, by omega⟩]
    by_cases g0 : b.getD 0 0 = 104
    · rw [if_neg (by simpa using g0), if_pos ⟨by omega, by omega⟩]
      by_cases g1 : b.getD 1 0 = 120
      · rw [if_neg (by simpa using g1), if_pos ⟨by omega, by omega⟩]
        by_cases g2 : b.getD 2 0 = 48
        · rw [if_neg (by simpa using g2), if_pos ⟨by omega, by omega⟩]
          by_cases g3 : b.getD 3 0 = 49
          · exfalso
            apply hm
            have e : b.take 4 = [b.getD 0 0, b.getD 1 0, b.getD 2 0, b.getD 3 0] := by
              have e0 := drop_getD b 0 0 (by omega)
              have e1 := drop_getD b 1 0 (by omega)
              have e2 := drop_getD b 2 0 (by omega)
              have e3 := drop_getD b 3 0 (by omega)
              rw [List.drop_zero] at e0
              rw [e1, e2, e3] at e0
              conv => lhs; rw [e0]
              rfl
            rw [e, g0, g1, g2, g3]
            decide +kernel
          · rw [if_pos g3]; rfl
        · rw [if_pos g2]; rfl
      · rw [if_pos g1]; rfl
    · rw [if_pos g0]; rfl

theorem forms_loop (e : Int) (l : List Sg) (b : List Int) (hn : l.length ≤ 20) : ∀ (d n k : Nat), l.length - k = d → d < n → k ≤ l.length → ∃ r : Unit ⊕ Bool, halterlaw21_ImageForms.l0 e l b n (k : Int) = some r ∧ (∀ q, r = .inr q → q = true) := by
  intro d
  induction d with
  | zero =>
    intro n k hk hd hle
    obtain ⟨n, rfl⟩ := fuel_step hd
    unfold halterlaw21_ImageForms.l0
    rw [if_neg (by omega)]
    exact ⟨_, rfl, fun q e => by cases e⟩
  | succ d ih =>
    intro n k hk hd hle
    obtain ⟨n, rfl⟩ := fuel_step hd
    unfold halterlaw21_ImageForms.l0
    rw [if_pos (by omega), if_pos ⟨by omega, by omega⟩, wsucc (by omega)]
    split
    · rw [sure_ok, bind_go]
      exact ⟨_, rfl, fun q e => by cases e; rfl⟩
    · exact ih n (k + 1) (by omega) (by omega) (by omega)
theorem isImage_loop (e : Int) (l : List Sg) (hn : l.length ≤ 9223372036854775806) : ∀ (d n k : Nat), l.length - k = d → d < n → k ≤ l.length → halterlaw21_isImage.l0 e l e l n (k : Int) = some (.inl ()) := by
  intro d
  induction d with
  | zero =>
    intro n k hk hd hle
    obtain ⟨n, rfl⟩ := fuel_step hd
    unfold halterlaw21_isImage.l0
    rw [if_neg (by omega)]
  | succ d ih =>
    intro n k hk hd hle
    obtain ⟨n, rfl⟩ := fuel_step hd
    unfold halterlaw21_isImage.l0
    rw [if_pos (by omega), if_pos ⟨by omega, by omega⟩, if_pos ⟨by omega, by omega⟩, if_neg (fun h => h rfl), if_neg (fun h => h rfl), if_neg (fun h => h rfl), if_neg (fun h => h rfl), wsucc (by omega)]
    exact ih n (k + 1) (by omega) (by omega) (by omega)
theorem isImage_eq (e : Int) (l : List Sg) (hn : l.length ≤ 9223372036854775806) : halterlaw21_isImage.f e l e l = some true := by
  unfold halterlaw21_isImage.f
  have h := isImage_loop e l hn _ FUEL 0 rfl (fuel_gt (by omega)) (by omega)
  have h : halterlaw21_isImage.l0 e l e l FUEL (0 : Int) = _ := h
  rw [if_neg (fun h => h rfl), if_neg (fun h => h rfl), h]
  rfl
theorem ImageForms (a0 : Int) (a1 : (List (Int × (Int × (Int × (List Int)))))) (a2 : (List Int)) (h0 : (Lit.int .u32 a0).wf = true) (h1 : List.length a1 * 48 ≤ reachBytes) (h2 : ∀ z : (Int × (Int × (Int × (List Int)))), z ∈ a1 → goodT (.pair (.int .i64) (.pair (.int .i64) (.pair (.int .u8) (.sl (.int .u8))))) z) (h3 : List.length a2 * 1 ≤ reachBytes) (h4 : ∀ z ∈ a2, (Lit.int .u8 z).wf = true) : halterlaw21_ImageForms.f a0 a1 a2 = some true := by
  have e0 := u32_bd h0
  have hP : ∀ s ∈ a1, PermB s := fun s hs => by
    have := h2 s hs
    exact u8_bd this.2.2.1
  have h48 : a1.length * 48 ≤ 140737488351232 := h1
  have hb : a2.length ≤ 140737488355328 := by
    have h3 : a2.length * 1 ≤ 140737488351232 := h3
    omega
  have hB : Bytes a2 := fun z hz => u8_bd (h4 z hz)
  unfold halterlaw21_ImageForms.f
  by_cases h20 : ((a1.length : Nat) : Int) > 20
  · rw [if_pos h20, sure_ok]; rfl
  rw [if_neg h20]
  obtain ⟨r, hr, hq⟩ := forms_loop a0 a1 a2 (by omega) _ FUEL 0 rfl (fuel_gt (by omega)) (by omega)
  have hr : halterlaw21_ImageForms.l0 a0 a1 a2 FUEL (0 : Int) = _ := hr
  rw [hr, bind_go]
  cases r with
  | inr q => simp only; rw [hq q rfl]
  | inl u =>
    simp only
    obtain ⟨e, l, er, d1, d2, d3⟩ := Decode_eq a2 hB hb
    have hlen : l.length ≤ 9223372036854775806 := by omega
    rw [give_eq a0 a1 h48, bind_go]
    simp only
    rw [Encode_eq a0 e0 a1 hP (by omega), bind_go, REncode_eq a0 e0 a1 hP, bind_go, d1, bind_go, d2, bind_go]
    simp only
    have hI := isImage_eq e l hlen
    have hC := check_eq a0 e0 a1 hP (by omega)
    cases hok : okI a0 a1 with
    | true =>
      rw [hok] at hC
      simp only [if_true]
      simp only [num.f, Option.bind_some, Option.getD_none, if_true, hI]
      simp only [hC, sure_ok]
      rfl
    | false =>
      rw [hok] at hC
      simp only [Bool.false_eq_true, if_false] at hC ⊢
      simp only [num.f, Option.bind_some, Option.getD_some, if_true, hI]
      simp only [hC, sure_ok]
      rfl

end Go.Proofs.YtaiedgjhgkhigaaDoor.Pure
