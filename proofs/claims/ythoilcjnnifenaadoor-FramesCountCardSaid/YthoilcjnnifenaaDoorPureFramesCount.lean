/- The plain law: what the law computes is true, whatever it is handed. -/
import Derived.Test.YthoilcjnnifenaaDoorGFramesCount
import Derived.Test.YthoilcjnnifenaaDoorE16
set_option linter.unusedVariables false
set_option linter.unusedSimpArgs false
set_option linter.unnecessarySimpa false
namespace Go.Proofs.YthoilcjnnifenaaDoor.Pure
open Go Go.Proofs.YthoilcjnnifenaaDoorE Go.Proofs.YthoilcjnnifenaaDoorGFramesCount
theorem wu8 (x : Int) : IntKind.wrap .u8 x = x % 256 := by simp [IntKind.wrap, IntKind.bits, IntKind.signed]
theorem wu16 (x : Int) : IntKind.wrap .u16 x = x % 65536 := by simp [IntKind.wrap, IntKind.bits, IntKind.signed]
theorem wu32 (x : Int) : IntKind.wrap .u32 x = x % 4294967296 := by simp [IntKind.wrap, IntKind.bits, IntKind.signed]
theorem wu64 (x : Int) : IntKind.wrap .u64 x = x % 18446744073709551616 := by simp [IntKind.wrap, IntKind.bits, IntKind.signed]
theorem wi64 {x : Int} (h : -9223372036854775808 ≤ x) (h' : x ≤ 9223372036854775807) : IntKind.wrap .i64 x = x := by
  simp [IntKind.wrap, IntKind.bits, IntKind.signed]
  omega
theorem wu8_id {x : Int} (h : 0 ≤ x ∧ x < 256) : IntKind.wrap .u8 x = x := by rw [wu8]; omega
theorem wu32_id {x : Int} (h : 0 ≤ x ∧ x < 4294967296) : IntKind.wrap .u32 x = x := by rw [wu32]; omega
theorem wu64_id {x : Int} (h : 0 ≤ x ∧ x < 18446744073709551616) : IntKind.wrap .u64 x = x := by rw [wu64]; omega
theorem wsucc {i : Nat} (h : i < 9223372036854775807) : IntKind.wrap .i64 ((i : Int) + 1) = ((i + 1 : Nat) : Int) := by rw [wi64 (by omega) (by omega)]; omega
theorem u8_bd {a : Int} (h : (Lit.int .u8 a).wf = true) : 0 ≤ a ∧ a < 256 := by
  simpa [Lit.wf, IntKind.min, IntKind.max, IntKind.signed, IntKind.bits, ← Int.lt_add_one_iff] using h
theorem u32_bd {a : Int} (h : (Lit.int .u32 a).wf = true) : 0 ≤ a ∧ a < 4294967296 := by
  simpa [Lit.wf, IntKind.min, IntKind.max, IntKind.signed, IntKind.bits, ← Int.lt_add_one_iff] using h
theorem u64_bd {a : Int} (h : (Lit.int .u64 a).wf = true) : 0 ≤ a ∧ a < 18446744073709551616 := by
  simpa [Lit.wf, IntKind.min, IntKind.max, IntKind.signed, IntKind.bits, ← Int.lt_add_one_iff] using h
theorem i64_bd {a : Int} (h : (Lit.int .i64 a).wf = true) : -9223372036854775808 ≤ a ∧ a < 9223372036854775808 := by
  simpa [Lit.wf, IntKind.min, IntKind.max, IntKind.signed, IntKind.bits, ← Int.lt_add_one_iff] using h
theorem fuel_gt {n : Nat} (h : n < 18446744073709551616) : n < FUEL := h
theorem bind_go {α β : Type} (a : α) (f : α → Option β) : (some a).bind f = f a := by rw [Option.bind_some]
theorem drop_getD {α : Type} (l : List α) (i : Nat) (d : α) (h : i < l.length) : l.drop i = l.getD i d :: l.drop (i + 1) := by
  rw [List.drop_eq_getElem_cons h, List.getD_eq_getElem?_getD, List.getElem?_eq_getElem h, Option.getD_some]
theorem getD_mem {α : Type} (l : List α) (i : Nat) (d : α) (h : i < l.length) : l.getD i d ∈ l := by
  rw [List.getD_eq_getElem?_getD, List.getElem?_eq_getElem h, Option.getD_some]; exact List.getElem_mem _
theorem toNat_nat (i : Nat) : Int.toNat (i : Int) = i := rfl
/-- A number behind another one: a round of a loop. -/
theorem fuel_step {d n : Nat} (h : d < n) : ∃ m, n = m + 1 := ⟨n - 1, by omega⟩
/-- Where something stands first. -/
def first (v : Int) : List Int → Option Nat
  | [] => none
  | x :: xs => if x = v then some 0 else (first v xs).map (· + 1)
theorem first_none {v : Int} : ∀ {l : List Int}, first v l = none → ∀ z ∈ l, z ≠ v
  | [], _, z, hz => by cases hz
  | x :: xs, h, z, hz => by
    unfold first at h
    split at h
    · cases h
    · rename_i hx
      rcases List.mem_cons.1 hz with rfl | hz
      · exact hx
      · exact first_none (by simpa using h) z hz
theorem first_some {v : Int} : ∀ {l : List Int} {k : Nat}, first v l = some k → k < l.length ∧ l.getD k 0 = v ∧ ∀ j, j < k → l.getD j 0 ≠ v
  | [], _, h => by cases h
  | x :: xs, k, h => by
    unfold first at h
    split at h
    · cases h
      rename_i hx
      exact ⟨by simp, by simpa using hx, fun j hj => by omega⟩
    · rename_i hx
      cases hf : first v xs with
      | none => simp [hf] at h
      | some m =>
        simp [hf] at h
        subst h
        obtain ⟨h1, h2, h3⟩ := first_some hf
        refine ⟨by simp; omega, by simpa using h2, fun j hj => ?_⟩
        cases j with
        | zero => simpa using hx
        | succ j => simpa using h3 j (by omega)

/-! What frames do. -/
theorem num_some (e : Int) : num.f (some e) = some e := rfl
theorem num_none : num.f none = some 0 := rfl
theorem idx_l0 (l : List Int) (v : Int) (hl : l.length ≤ 100000) : ∀ (d i n : Nat), i + d = l.length → d < n →
    slices_Index_int_int.l0 l v n (i : Int) = some (match first v (l.drop i) with | none => .inl () | some k => .inr ((i + k : Nat) : Int)) := by
  intro d
  induction d with
  | zero =>
    intro i n hi hn
    obtain ⟨m, rfl⟩ := fuel_step hn
    rw [slices_Index_int_int.l0, if_neg (by omega), List.drop_eq_nil_of_le (by omega)]
    rfl
  | succ d ih =>
    intro i n hi hn
    obtain ⟨m, rfl⟩ := fuel_step hn
    have hlt : i < l.length := by omega
    rw [slices_Index_int_int.l0, if_pos (by omega), if_pos ⟨by omega, by omega⟩, toNat_nat, drop_getD l i 0 hlt, first]
    by_cases hv : v = l.getD i 0
    · rw [if_pos hv, if_pos hv.symm]; rfl
    · rw [if_neg hv, if_neg (fun h => hv h.symm), wsucc (by omega), ih (i + 1) m (by omega) (by omega)]
      cases first v (l.drop (i + 1)) with
      | none => rfl
      | some k => simp only [Option.map_some]; congr 3; omega
theorem Index_eq (l : List Int) (v : Int) (hl : l.length ≤ 100000) : slices_Index_int_int.f l v = some (match first v l with | none => -1 | some k => (k : Int)) := by
  unfold slices_Index_int_int.f
  have := idx_l0 l v hl l.length 0 FUEL (by omega) (fuel_gt (by omega))
  have z0 : ((0 : Nat) : Int) = 0 := rfl
  rw [z0, List.drop_zero] at this
  rw [this, bind_go]
  cases first v l with
  | none => rfl
  | some k => simp
def allocS (l : List Int) : Int × Option Int × List Int := match first 0 l with
  | none => (0, some 12, l)
  | some k => ((k : Int), none, l.set k 1)
theorem Alloc_eq (l : List Int) (n : Nat) (hn : n = l.length) (hl : l.length ≤ 100000) : frames_Frames_Alloc.f n n l = some (allocS l) := by
  subst hn
  unfold frames_Frames_Alloc.f allocS
  rw [if_pos (by omega), List.take_length, Index_eq l 0 hl, bind_go]
  cases hf : first 0 l with
  | none => simp only; rw [if_pos (by omega)]
  | some k =>
    obtain ⟨h1, h2, h3⟩ := first_some hf
    simp only
    rw [if_neg (by omega), if_pos ⟨by omega, by omega⟩, toNat_nat, if_pos (by omega), Nat.zero_add]
def refsS (l : List Int) (k : Int) : Int := if 0 ≤ k ∧ k < (l.length : Int) then l.getD k.toNat 0 else 0
theorem Refs_eq (l : List Int) (n : Nat) (hn : n = l.length) (k : Int) : frames_Frames_Refs.f k n n l = some (refsS l k) := by
  subst hn
  unfold frames_Frames_Refs.f refsS
  by_cases h0 : k < 0
  · rw [if_pos h0, if_neg (by omega)]
  · rw [if_neg h0]
    by_cases h1 : k ≥ (l.length : Int)
    · rw [if_pos h1, if_neg (by omega)]
    · rw [if_neg h1, if_pos ⟨by omega, by omega⟩, if_pos (by omega), if_pos ⟨by omega, by omega⟩, Nat.zero_add]
theorem taken_eq (l : List Int) (n : Nat) (hn : n = l.length) (k : Int) : frames_Frames_taken.f k n n l = some (decide (refsS l k > 0)) := by
  unfold frames_Frames_taken.f
  rw [Refs_eq l n hn k, bind_go]
theorem refs_in {l : List Int} {k : Int} (h : refsS l k > 0) : 0 ≤ k ∧ k < (l.length : Int) ∧ refsS l k = l.getD k.toNat 0 := by
  unfold refsS at h ⊢
  split at h
  · rename_i hk; rw [if_pos hk]; exact ⟨hk.1, hk.2, rfl⟩
  · omega
def unrefS (l : List Int) (k : Int) : Bool × Option Int × List Int :=
  if refsS l k > 0 then (decide (refsS l k = 1), none, l.set k.toNat (refsS l k - 1)) else (false, some 22, l)
def refS (l : List Int) (k : Int) : Option Int × List Int :=
  if refsS l k > 0 ∧ refsS l k < 1073741824 then (none, l.set k.toNat (refsS l k + 1)) else (some 22, l)
theorem getD_set (l : List Int) (i : Nat) (x : Int) (h : i < l.length) : (l.set i x).getD i 0 = x := by
  rw [List.getD_eq_getElem?_getD, List.getElem?_set]; simp [h]
theorem getD_set_ne (l : List Int) (i j : Nat) (x : Int) (h : i ≠ j) : (l.set i x).getD j 0 = l.getD j 0 := by
  rw [List.getD_eq_getElem?_getD, List.getElem?_set, List.getD_eq_getElem?_getD]; simp [h]
theorem Unref_eq (l : List Int) (n : Nat) (hn : n = l.length) (k : Int) (hb : refsS l k ≤ 2000000000) : frames_Frames_Unref.f k n n l = some (unrefS l k) := by
  unfold frames_Frames_Unref.f unrefS
  rw [taken_eq l n hn k, bind_go]
  subst hn
  by_cases h : refsS l k > 0
  · obtain ⟨h1, h2, h3⟩ := refs_in h
    have hk : k.toNat < l.length := by omega
    have hg : 0 ≤ k ∧ k < ((l.length : Nat) : Int) := ⟨h1, h2⟩
    have hk2 : 0 + k.toNat < l.length := by omega
    rw [if_neg (by simpa using h), if_pos h]
    simp only [if_pos hg, if_pos hk2]
    rw [Nat.zero_add, ← h3, wi64 (by omega) (by omega), getD_set _ _ _ hk]
    congr 2
    rw [Bool.eq_iff_iff]
    simp
    omega
  · rw [if_pos (by simpa using h), if_neg h]
theorem Ref_eq (l : List Int) (n : Nat) (hn : n = l.length) (k : Int) (hb : refsS l k ≤ 2000000000) : frames_Frames_Ref.f k n n l = some (refS l k) := by
  unfold frames_Frames_Ref.f refS
  rw [taken_eq l n hn k, bind_go]
  subst hn
  by_cases h : refsS l k > 0
  · obtain ⟨h1, h2, h3⟩ := refs_in h
    have hk : k.toNat < l.length := by omega
    have hg : 0 ≤ k ∧ k < ((l.length : Nat) : Int) := ⟨h1, h2⟩
    have hk2 : 0 + k.toNat < l.length := by omega
    rw [if_neg (by simpa using h), if_pos hg, if_pos hk2, Nat.zero_add, ← h3]
    by_cases hm : refsS l k ≥ 1073741824
    · rw [if_pos hm, if_neg (by omega)]
    · rw [if_neg hm, if_pos hg, if_pos (by omega), if_pos hg, if_pos (by omega), if_pos ⟨h, by omega⟩, wi64 (by omega) (by omega)]
  · rw [if_pos (by simpa using h), if_neg (by omega)]
/-- The numbers of those that are above 0. -/
def tk : List Int → Nat → List Int
  | [], _ => []
  | x :: xs, i => if x > 0 then (i : Int) :: tk xs (i + 1) else tk xs (i + 1)
theorem tk_len : ∀ (l : List Int) (i : Nat), (tk l i).length ≤ l.length
  | [], _ => Nat.le_refl _
  | x :: xs, i => by
    have := tk_len xs (i + 1)
    unfold tk
    split <;> simp <;> omega
theorem Taken_l0 (l : List Int) (hl : l.length ≤ 100000) : ∀ (d i n : Nat) (acc : List Int), i + d = l.length → d < n → acc.length ≤ i →
    frames_Frames_Taken.l0 l.length l.length l n acc (i : Int) = some (acc ++ tk (l.drop i) i) := by
  intro d
  induction d with
  | zero =>
    intro i n acc hi hn ha
    obtain ⟨m, rfl⟩ := fuel_step hn
    rw [frames_Frames_Taken.l0, if_neg (by omega), List.drop_eq_nil_of_le (by omega)]
    simp [tk]
  | succ d ih =>
    intro i n acc hi hn ha
    obtain ⟨m, rfl⟩ := fuel_step hn
    have hlt : i < l.length := by omega
    rw [frames_Frames_Taken.l0, if_pos (by omega), if_pos ⟨by omega, by omega⟩, toNat_nat, if_pos (by omega), Nat.zero_add, drop_getD l i 0 hlt, tk, wsucc (by omega)]
    by_cases h : l.getD i 0 > 0
    · rw [if_pos h, if_pos h, if_pos ⟨⟨rfl, rfl⟩, rfl, rfl, by omega, by omega⟩, ih (i + 1) m _ (by omega) (by omega) (by rw [List.length_append]; simp; omega), List.append_assoc]
      rfl
    · rw [if_neg h, if_neg h, ih (i + 1) m _ (by omega) (by omega) (by omega)]
theorem Taken_eq (l : List Int) (n : Nat) (hn : n = l.length) (hl : l.length ≤ 100000) : frames_Frames_Taken.f n n l = some (tk l 0) := by
  subst hn
  unfold frames_Frames_Taken.f
  have := Taken_l0 l hl l.length 0 FUEL [] (by omega) (fuel_gt (by omega)) (by simp)
  have z0 : ((0 : Nat) : Int) = 0 := rfl
  rw [z0, List.drop_zero, List.nil_append] at this
  rw [this, bind_go]
theorem Free_eq (l : List Int) (n : Nat) (hn : n = l.length) (hl : l.length ≤ 100000) : frames_Frames_Free.f n n l = some ((l.length : Int) - ((tk l 0).length : Int)) := by
  unfold frames_Frames_Free.f
  rw [Taken_eq l n hn hl, bind_go]
  have := tk_len l 0
  subst hn
  rw [wi64 (by omega) (by omega)]
theorem New_eq (k : Int) (h : 1 ≤ k) (h2 : k ≤ 1024) : frames_New.f k = some (.inr (k.toNat, k.toNat, List.replicate k.toNat 0)) := by
  unfold frames_New.f
  rw [if_neg (by omega), if_neg (by omega), if_pos ⟨by omega, rfl, by omega, by omega⟩]
theorem sure_t : halterlaw04_sure.f = some true := by
  unfold halterlaw04_sure.f
  rw [New_eq 2 (by omega) (by omega), bind_go]
  dsimp only
  have e0 : (2 : Int).toNat = 2 := rfl
  rw [e0, Alloc_eq _ 2 rfl (by simp), bind_go]
  have e1 : allocS (List.replicate 2 0) = (0, none, [1, 0]) := by decide
  rw [e1]
  dsimp only
  rw [Alloc_eq _ 2 rfl (by simp), bind_go]
  have e2 : allocS [1, 0] = (1, none, [1, 1]) := by decide
  rw [e2]
  dsimp only
  rw [Alloc_eq _ 2 rfl (by simp), bind_go]
  have e3 : allocS [1, 1] = (0, some 12, [1, 1]) := by decide
  rw [e3]
  dsimp only
  rw [Ref_eq _ 2 rfl 1 (by decide), bind_go]
  have e4 : refS [1, 1] 1 = (none, [1, 2]) := by decide
  rw [e4]
  dsimp only
  rw [if_pos rfl, if_pos rfl, if_pos rfl, num_some, bind_go, if_pos rfl, if_pos rfl, if_pos rfl, Refs_eq _ 2 rfl, bind_go, if_pos (by decide), Free_eq _ 2 rfl (by simp), bind_go, if_pos (by decide), Taken_eq _ 2 rfl (by simp), bind_go]
  decide

def cpos : List Int → Nat
  | [] => 0
  | x :: xs => (if x > 0 then 1 else 0) + cpos xs
theorem tk_cpos : ∀ (l : List Int) (i : Nat), (tk l i).length = cpos l
  | [], _ => rfl
  | x :: xs, i => by
    have := tk_cpos xs (i + 1)
    unfold tk cpos
    split <;> simp <;> omega
theorem cpos_le : ∀ (l : List Int), cpos l ≤ l.length
  | [] => Nat.le_refl _
  | x :: xs => by
    have := cpos_le xs
    unfold cpos
    split <;> simp <;> omega
theorem cpos_full : ∀ (l : List Int), (∀ z ∈ l, 0 ≤ z) → (∀ z ∈ l, z ≠ 0) → cpos l = l.length
  | [], _, _ => rfl
  | x :: xs, h, h2 => by
    have := cpos_full xs (fun z hz => h z (by simp [hz])) (fun z hz => h2 z (by simp [hz]))
    have h3 := h x (by simp)
    have h4 := h2 x (by simp)
    unfold cpos
    rw [if_pos (by omega)]
    simp; omega
theorem cpos_set : ∀ (l : List Int) (k : Nat), k < l.length → l.getD k 0 = 0 → cpos (l.set k 1) = cpos l + 1
  | [], k, h, _ => by simp at h
  | x :: xs, 0, _, h0 => by
    have : x = 0 := by simpa using h0
    subst this
    simp [cpos]; omega
  | x :: xs, k + 1, h, h0 => by
    have := cpos_set xs k (by simpa using h) (by simpa using h0)
    simp only [List.set_cons_succ, cpos]
    omega
def sumL : List Int → Int
  | [] => 0
  | x :: xs => x + sumL xs
theorem sum_set : ∀ (l : List Int) (k : Nat) (x : Int), k < l.length → sumL (l.set k x) = sumL l - l.getD k 0 + x
  | [], k, x, h => by simp at h
  | y :: ys, 0, x, _ => by simp [sumL]; omega
  | y :: ys, k + 1, x, h => by
    have := sum_set ys k x (by simpa using h)
    simp only [List.set_cons_succ, sumL, this]
    have e : (y :: ys).getD (k + 1) 0 = ys.getD k 0 := by simp
    rw [e]; omega
theorem sum_ge : ∀ (l : List Int), (∀ z ∈ l, 0 ≤ z) → 0 ≤ sumL l ∧ ∀ z ∈ l, z ≤ sumL l
  | [], _ => ⟨by simp [sumL], fun z hz => by cases hz⟩
  | x :: xs, h => by
    obtain ⟨h1, h2⟩ := sum_ge xs (fun z hz => h z (by simp [hz]))
    have h3 := h x (by simp)
    refine ⟨by simp only [sumL]; omega, fun z hz => ?_⟩
    simp only [sumL]
    rcases List.mem_cons.1 hz with rfl | hz
    · omega
    · have := h2 z hz; omega
theorem set_nonneg (l : List Int) (k : Nat) (x : Int) (h : ∀ z ∈ l, 0 ≤ z) (hx : 0 ≤ x) : ∀ z ∈ l.set k x, 0 ≤ z := fun z hz => by
  rcases List.mem_or_eq_of_mem_set hz with h1 | h1
  · exact h z h1
  · rw [h1]; exact hx
theorem refs_le (l : List Int) (k : Int) (h : ∀ z ∈ l, 0 ≤ z) : 0 ≤ refsS l k ∧ refsS l k ≤ sumL l := by
  obtain ⟨h1, h2⟩ := sum_ge l h
  unfold refsS
  split
  · rename_i hk
    have hm := getD_mem l k.toNat 0 (by omega)
    exact ⟨h _ hm, h2 _ hm⟩
  · omega
theorem refs_at (l : List Int) (k : Nat) (h : k < l.length) : refsS l (k : Int) = l.getD k 0 := by
  unfold refsS; rw [if_pos ⟨by omega, by omega⟩, toNat_nat]
section
variable (N : Nat) (r0 : List Int) (a0 : Int) (a1 : List (Int × Int)) (hN : IntKind.wrap .i64 ((1 : Int) + (IntKind.wrap .i64 ((Int.tmod (IntKind.wrap .u64 (a0)) (12 : Int))))) = (N : Int)) (hN1 : 1 ≤ N) (hN2 : N ≤ 12)
theorem sum_loop (hN : IntKind.wrap .i64 ((1 : Int) + (IntKind.wrap .i64 ((Int.tmod (IntKind.wrap .u64 (a0)) (12 : Int))))) = (N : Int)) (x95 : Int) (l : List Int) (hl : l.length = N) (T : Int) (hp : ∀ z ∈ l, 0 ≤ z) (hs : sumL l ≤ 1000) (hN2 : N ≤ 12) : ∀ (d i n : Nat) (acc : Int), i + d = N → d < n → 0 ≤ acc → acc + sumL (l.drop i) = sumL l →
    halterlaw04_FramesCount.l6 (N, N, r0) x95 (l, T) a0 a1 n acc (i : Int) = some (sumL l) := by
  intro d
  induction d with
  | zero =>
    intro i n acc hi hn ha hacc
    obtain ⟨m, rfl⟩ := fuel_step hn
    rw [halterlaw04_FramesCount.l6, hN, if_neg (by omega)]
    rw [List.drop_eq_nil_of_le (by omega)] at hacc
    simp only [sumL] at hacc
    congr 1; omega
  | succ d ih =>
    intro i n acc hi hn ha hacc
    obtain ⟨m, rfl⟩ := fuel_step hn
    rw [halterlaw04_FramesCount.l6, hN, if_pos (by omega)]
    dsimp only
    rw [Refs_eq l N hl.symm, bind_go, refs_at l i (by omega)]
    rw [drop_getD l i 0 (by omega)] at hacc
    simp only [sumL] at hacc
    have h1 := hp _ (getD_mem l i 0 (by omega))
    have h2 := (sum_ge (l.drop (i + 1)) (fun z hz => hp z (List.mem_of_mem_drop hz))).1
    rw [wi64 (by omega) (by omega), wsucc (by omega)]
    exact ih (i + 1) m _ (by omega) (by omega) (by omega) (by omega)
/-- All below the first that is free are taken. -/
theorem below_loop (lp : (Nat × Nat × (List Int)) → Int → Int → (Int × (Option Int) × (List Int)) → Int → (List (Int × Int)) → Nat → Int → Option ((Unit) ⊕ (Unit)))
    (hlp : ∀ t3 x94 x95 t a0 a1 n x, lp t3 x94 x95 t a0 a1 (n + 1) x = if x < t.1 then (if t.2.1 = none then (frames_Frames_Refs.f x t3.1 t3.2.1 t.2.2).bind fun t269 => if t269 = (0 : Int) then some (.inr ()) else lp t3 x94 x95 t a0 a1 n (IntKind.wrap .i64 (x + (1 : Int))) else some (.inl ())) else some (.inl ()))
    (x94 x95 : Int) (l : List Int) (hl : l.length = N) (p : Int) (hpN : p ≤ N) (hN2 : N ≤ 12) (e : Option Int) (hnz : e = none → ∀ j : Nat, (j : Int) < p → l.getD j 0 ≠ 0) : ∀ (d i n : Nat), i + d = N → d < n →
    lp (N, N, r0) x94 x95 (p, e, l) a0 a1 n (i : Int) = some (.inl ()) := by
  intro d
  induction d with
  | zero =>
    intro i n hi hn
    obtain ⟨m, rfl⟩ := fuel_step hn
    rw [hlp, if_neg (by dsimp only; omega)]
  | succ d ih =>
    intro i n hi hn
    obtain ⟨m, rfl⟩ := fuel_step hn
    rw [hlp]
    dsimp only
    by_cases h : (i : Int) < p
    · rw [if_pos h]
      by_cases he : e = none
      · rw [if_pos he, Refs_eq l N hl.symm, bind_go, refs_at l i (by omega), if_neg (hnz he i h), wsucc (by omega)]
        exact ih (i + 1) m (by omega) (by omega)
      · rw [if_neg he]
    · rw [if_neg h]
theorem lp2 : ∀ t3 x94 x95 t a0 a1 n x, halterlaw04_FramesCount.l2 t3 x94 x95 t a0 a1 (n + 1) x = if x < t.1 then (if t.2.1 = none then (frames_Frames_Refs.f x t3.1 t3.2.1 t.2.2).bind fun t269 => if t269 = (0 : Int) then some (.inr ()) else halterlaw04_FramesCount.l2 t3 x94 x95 t a0 a1 n (IntKind.wrap .i64 (x + (1 : Int))) else some (.inl ())) else some (.inl ()) := fun _ _ _ _ _ _ _ _ => rfl
theorem lp3 : ∀ t3 x94 x95 t a0 a1 n x, halterlaw04_FramesCount.l3 t3 x94 x95 t a0 a1 (n + 1) x = if x < t.1 then (if t.2.1 = none then (frames_Frames_Refs.f x t3.1 t3.2.1 t.2.2).bind fun t269 => if t269 = (0 : Int) then some (.inr ()) else halterlaw04_FramesCount.l3 t3 x94 x95 t a0 a1 n (IntKind.wrap .i64 (x + (1 : Int))) else some (.inl ())) else some (.inl ()) := fun _ _ _ _ _ _ _ _ => rfl
theorem lp4 : ∀ t3 x94 x95 t a0 a1 n x, halterlaw04_FramesCount.l4 t3 x94 x95 t a0 a1 (n + 1) x = if x < t.1 then (if t.2.1 = none then (frames_Frames_Refs.f x t3.1 t3.2.1 t.2.2).bind fun t269 => if t269 = (0 : Int) then some (.inr ()) else halterlaw04_FramesCount.l4 t3 x94 x95 t a0 a1 n (IntKind.wrap .i64 (x + (1 : Int))) else some (.inl ())) else some (.inl ()) := fun _ _ _ _ _ _ _ _ => rfl
theorem lp5 : ∀ t3 x94 x95 t a0 a1 n x, halterlaw04_FramesCount.l5 t3 x94 x95 t a0 a1 (n + 1) x = if x < t.1 then (if t.2.1 = none then (frames_Frames_Refs.f x t3.1 t3.2.1 t.2.2).bind fun t269 => if t269 = (0 : Int) then some (.inr ()) else halterlaw04_FramesCount.l5 t3 x94 x95 t a0 a1 n (IntKind.wrap .i64 (x + (1 : Int))) else some (.inl ())) else some (.inl ()) := fun _ _ _ _ _ _ _ _ => rfl

/-- A step: what is counted stays true. -/
theorem step_ok (hN : IntKind.wrap .i64 ((1 : Int) + (IntKind.wrap .i64 ((Int.tmod (IntKind.wrap .u64 (a0)) (12 : Int))))) = (N : Int)) (hN1 : 1 ≤ N) (hN2 : N ≤ 12) (l : List Int) (hl : l.length = N) (i : Nat) (hp : ∀ z ∈ l, 0 ≤ z) (hs : sumL l ≤ i) (hi : i < 60) :
    ∃ l' : List Int, l'.length = N ∧ (∀ z ∈ l', 0 ≤ z) ∧ sumL l' ≤ i + 1 ∧ halterlaw04_FramesCount.j1 (N, N, r0) l (sumL l) (i : Int) ((l.length : Int) - ((tk l 0).length : Int)) a0 a1 = some (.inl (l', sumL l')) := by
  unfold halterlaw04_FramesCount.j1
  rw [toNat_nat, hN]
  have hu : IntKind.wrap .u64 (N : Int) = N := wu64_id ⟨by omega, by omega⟩
  rw [hu]
  have hx : ∀ a : Int, ∃ x : Nat, IntKind.wrap .i64 (Int.tmod (IntKind.wrap .u64 a) (N : Int)) = (x : Int) ∧ x < N := by
    intro a
    have ha : 0 ≤ a % 18446744073709551616 := by omega
    rw [wu64, Int.tmod_eq_emod_of_nonneg ha]
    have h1 := Int.emod_nonneg (a % 18446744073709551616) (show (N : Int) ≠ 0 by omega)
    have h2 := Int.emod_lt_of_pos (a % 18446744073709551616) (show (0 : Int) < N by omega)
    generalize a % 18446744073709551616 % (N : Int) = q at h1 h2
    rw [wi64 (by omega) (by omega)]
    exact ⟨q.toNat, by omega, by omega⟩
  obtain ⟨x, hx1, hx2⟩ := hx (a1.getD i ((0 : Int), (0 : Int))).2
  rw [hx1]
  obtain ⟨hs0, hsz⟩ := sum_ge l hp
  have hc := cpos_le l
  generalize IntKind.wrap .i64 (Int.tmod (IntKind.wrap .u64 (a1.getD i ((0 : Int), (0 : Int))).1) (4 : Int)) = kd
  -- a frame is taken
  have al : first 0 l = none ∧ allocS l = (0, some 12, l) ∧ cpos l = l.length ∨ ∃ k, first 0 l = some k ∧ allocS l = ((k : Int), none, l.set k 1) ∧ k < l.length ∧ l.getD k 0 = 0 ∧ ∀ j, j < k → l.getD j 0 ≠ 0 := by
    cases hf : first 0 l with
    | none => exact .inl ⟨rfl, by unfold allocS; rw [hf], cpos_full l hp (first_none hf)⟩
    | some k =>
      obtain ⟨h1, h2, h3⟩ := first_some hf
      exact .inr ⟨k, rfl, by unfold allocS; rw [hf], h1, h2, h3⟩
  have allocOK : ∀ (lpa lpb : (Nat × Nat × (List Int)) → Int → Int → (Int × (Option Int) × (List Int)) → Int → (List (Int × Int)) → Nat → Int → Option ((Unit) ⊕ (Unit))),
      (∀ t3 x94 x95 t a0 a1 n x, lpa t3 x94 x95 t a0 a1 (n + 1) x = if x < t.1 then (if t.2.1 = none then (frames_Frames_Refs.f x t3.1 t3.2.1 t.2.2).bind fun t269 => if t269 = (0 : Int) then some (.inr ()) else lpa t3 x94 x95 t a0 a1 n (IntKind.wrap .i64 (x + (1 : Int))) else some (.inl ())) else some (.inl ())) →
      (∀ t3 x94 x95 t a0 a1 n x, lpb t3 x94 x95 t a0 a1 (n + 1) x = if x < t.1 then (if t.2.1 = none then (frames_Frames_Refs.f x t3.1 t3.2.1 t.2.2).bind fun t269 => if t269 = (0 : Int) then some (.inr ()) else lpb t3 x94 x95 t a0 a1 n (IntKind.wrap .i64 (x + (1 : Int))) else some (.inl ())) else some (.inl ())) →
      ∃ l' : List Int, l'.length = N ∧ (∀ z ∈ l', 0 ≤ z) ∧ sumL l' ≤ i + 1 ∧
      ((frames_Frames_Alloc.f N N l).bind fun t254 =>
        if ¬ ((Option.isNone t254.2.1) = (decide (((l.length : Int) - ((tk l 0).length : Int)) > (0 : Int)))) then
          some (.inr t254.2.2)
        else
          if t254.2.1 = none then
            (frames_Frames_Refs.f t254.1 N N t254.2.2).bind fun t257 =>
            if ¬ t257 = (1 : Int) then
              some (.inr t254.2.2)
            else
              (frames_Frames_Free.f N N t254.2.2).bind fun t259 =>
              if ¬ t259 = (IntKind.wrap .i64 (((l.length : Int) - ((tk l 0).length : Int)) - (1 : Int))) then
                some (.inr t254.2.2)
              else
                (lpa (N, N, r0) (sumL l) (i : Int) t254 a0 a1 FUEL (0 : Int)).bind fun t266 =>
                match t266 with
                | .inl t271 =>
                  if t254.2.1 = none then
                    some (.inl (t254.2.2, (IntKind.wrap .i64 (sumL l + (1 : Int)))))
                  else
                    some (.inl (t254.2.2, sumL l))
                | .inr t273 =>
                  some (.inr t254.2.2)
          else
            (lpb (N, N, r0) (sumL l) (i : Int) t254 a0 a1 FUEL (0 : Int)).bind fun t279 =>
            match t279 with
            | .inl t284 =>
              if t254.2.1 = none then
                some (.inl (t254.2.2, (IntKind.wrap .i64 (sumL l + (1 : Int)))))
              else
                some (.inl (t254.2.2, sumL l))
            | .inr t286 =>
              some (.inr t254.2.2) : Option (((List Int) × Int) ⊕ ((List Int)))) = some (.inl (l', sumL l')) := by
    intro lpa lpb ha hb
    rw [Alloc_eq l N hl.symm (by omega), bind_go]
    have z0 : ((0 : Nat) : Int) = 0 := rfl
    rcases al with ⟨h1, h2, h3⟩ | ⟨k, h1, h2, h3, h4, h5⟩
    · refine ⟨l, hl, hp, by omega, ?_⟩
      rw [h2]
      dsimp only
      rw [tk_cpos, h3, if_neg (fun h => h (by simp)), if_neg (by simp)]
      have := below_loop N r0 a0 a1 lpb hb (sumL l) (i : Int) l hl 0 (by omega) hN2 (some 12) (fun h => by cases h) N 0 FUEL (by omega) (fuel_gt (by omega))
      rw [z0] at this
      rw [this, bind_go]
      dsimp only
      rw [if_neg (by simp)]
    · have hl' : (l.set k 1).length = N := by rw [List.length_set]; exact hl
      have hsum : sumL (l.set k 1) = sumL l + 1 := by rw [sum_set l k 1 h3, h4]; omega
      have hcs := cpos_set l k h3 h4
      have hcl := cpos_le (l.set k 1)
      rw [List.length_set] at hcl
      refine ⟨l.set k 1, hl', set_nonneg l k 1 hp (by omega), by omega, ?_⟩
      rw [h2]
      dsimp only
      rw [tk_cpos, if_neg (fun h => h (by simp; omega)), if_pos rfl, Refs_eq _ N hl'.symm, bind_go, refs_at _ k (by rw [List.length_set]; exact h3), getD_set l k 1 h3, if_neg (fun h => h rfl), Free_eq _ N hl'.symm (by omega), bind_go, tk_cpos, hcs, List.length_set, wi64 (by omega) (by omega), if_neg (fun h => h (by omega))]
      have := below_loop N r0 a0 a1 lpa ha (sumL l) (i : Int) (l.set k 1) hl' (k : Int) (by omega) hN2 none (fun _ j hj => by rw [getD_set_ne _ _ _ _ (by omega)]; exact h5 j (by omega)) N 0 FUEL (by omega) (fuel_gt (by omega))
      rw [z0] at this
      rw [this, bind_go]
      dsimp only
      rw [if_pos rfl, hsum, wi64 (by omega) (by omega)]
  by_cases k0 : kd = 0
  · rw [if_pos k0]; exact allocOK _ _ lp2 lp3
  · rw [if_neg k0]
    by_cases k1 : kd = 1
    · rw [if_pos k1]; exact allocOK _ _ lp4 lp5
    · rw [if_neg k1]
      have hrl := refs_le l (x : Int) hp
      have hra := refs_at l x (by omega)
      by_cases k2 : kd = 2
      · rw [if_pos k2]
        dsimp only
        rw [Ref_eq l N hl.symm _ (by omega), bind_go]
        unfold refS
        by_cases h : refsS l (x : Int) > 0 ∧ refsS l (x : Int) < 1073741824
        · rw [if_pos h]
          dsimp only
          rw [if_pos rfl, toNat_nat]
          refine ⟨l.set x (refsS l (x : Int) + 1), by rw [List.length_set]; exact hl, set_nonneg l x _ hp (by omega), by rw [sum_set l x _ (by omega)]; omega, ?_⟩
          rw [sum_set l x _ (by omega), wi64 (by omega) (by omega)]
          congr 3; omega
        · rw [if_neg h]
          dsimp only
          rw [if_neg (by simp)]
          exact ⟨l, hl, hp, by omega, rfl⟩
      · rw [if_neg k2]
        dsimp only
        rw [Refs_eq l N hl.symm, bind_go, Unref_eq l N hl.symm _ (by omega), bind_go]
        unfold unrefS
        by_cases h : refsS l (x : Int) > 0
        · rw [if_pos h]
          dsimp only
          rw [if_neg (fun h2 => h2 (by simp; omega)), if_neg (fun h2 => h2 (by rw [Bool.eq_iff_iff]; simp)), if_pos rfl, toNat_nat]
          refine ⟨l.set x (refsS l (x : Int) - 1), by rw [List.length_set]; exact hl, set_nonneg l x _ hp (by omega), by rw [sum_set l x _ (by omega)]; omega, ?_⟩
          rw [sum_set l x _ (by omega), wi64 (by omega) (by omega)]
          congr 3; omega
        · rw [if_neg h]
          dsimp only
          have h00 : refsS l (x : Int) = 0 := by omega
          rw [h00, if_neg (fun h2 => h2 (by simp)), if_neg (fun h2 => h2 (by simp)), if_neg (by simp)]
          exact ⟨l, hl, hp, by omega, rfl⟩
theorem all_loop (hN : IntKind.wrap .i64 ((1 : Int) + (IntKind.wrap .i64 ((Int.tmod (IntKind.wrap .u64 (a0)) (12 : Int))))) = (N : Int)) (hN1 : 1 ≤ N) (hN2 : N ≤ 12) : ∀ (d i n : Nat) (l : List Int), i + d = min a1.length 60 → d < n → l.length = N → (∀ z ∈ l, 0 ≤ z) → sumL l ≤ i →
    ∃ r, halterlaw04_FramesCount.l0 (N, N, r0) a0 a1 n l (sumL l) (i : Int) = some (.inl r) := by
  intro d
  induction d with
  | zero =>
    intro i n l hi hn hl hp hs
    obtain ⟨m, rfl⟩ := fuel_step hn
    rw [halterlaw04_FramesCount.l0]
    by_cases h1 : (i : Int) < ((a1.length : Nat) : Int)
    · rw [if_pos h1, if_neg (by omega)]; exact ⟨_, rfl⟩
    · rw [if_neg h1]; exact ⟨_, rfl⟩
  | succ d ih =>
    intro i n l hi hn hl hp hs
    obtain ⟨m, rfl⟩ := fuel_step hn
    have hg : (0 : Int) ≤ (i : Int) ∧ (i : Int) < ((a1.length : Nat) : Int) := by omega
    have hu : IntKind.wrap .u64 (N : Int) = N := wu64_id ⟨by omega, by omega⟩
    rw [halterlaw04_FramesCount.l0, if_pos hg.2, if_pos (by omega), if_pos hg, hN, hu, if_pos (by omega)]
    dsimp only
    rw [Free_eq l N hl.symm (by omega), bind_go, if_pos hg]
    obtain ⟨l', h1, h2, h3, h4⟩ := step_ok N r0 a0 a1 hN hN1 hN2 l hl i hp hs (by omega)
    rw [h4, bind_go]
    dsimp only
    have h5 := sum_loop N r0 a0 a1 hN (i : Int) l' h1 (sumL l') h2 (by omega) hN2 N 0 FUEL 0 (by omega) (fuel_gt (by omega)) (by omega) (by simp)
    have z0 : ((0 : Nat) : Int) = 0 := rfl
    rw [z0] at h5
    rw [h5, bind_go, if_neg (fun h => h rfl), Free_eq l' N h1.symm (by omega), bind_go, Taken_eq l' N h1.symm (by omega), bind_go]
    have h6 := tk_len l' 0
    rw [wi64 (by omega) (by omega), if_neg (fun h => h (by omega)), wsucc (by omega)]
    exact ih (i + 1) m l' (by omega) (by omega) h1 h2 (by omega)
end
theorem sum_rep (n : Nat) : sumL (List.replicate n 0) = 0 := by
  induction n with
  | zero => rfl
  | succ n ih => rw [List.replicate_succ, sumL, ih]; rfl
theorem FramesCount (a0 : Int) (a1 : (List (Int × Int))) (h0 : (Lit.int .i64 a0).wf = true) (h1 : List.length a1 * 16 ≤ reachBytes) (h2 : ∀ z : (Int × Int), z ∈ a1 → goodT (.pair (.int .i64) (.int .i64)) z) : halterlaw04_FramesCount.f a0 a1 = some true := by
  unfold halterlaw04_FramesCount.f
  obtain ⟨N, hN, hN1, hN2⟩ : ∃ N : Nat, IntKind.wrap .i64 ((1 : Int) + (IntKind.wrap .i64 ((Int.tmod (IntKind.wrap .u64 (a0)) (12 : Int))))) = (N : Int) ∧ 1 ≤ N ∧ N ≤ 12 := by
    have m0 : 0 ≤ a0 % 18446744073709551616 := by omega
    rw [wu64, Int.tmod_eq_emod_of_nonneg m0]
    have hq : 0 ≤ a0 % 18446744073709551616 % 12 ∧ a0 % 18446744073709551616 % 12 < 12 := by omega
    generalize a0 % 18446744073709551616 % 12 = q at hq
    rw [wi64 (x := q) (by omega) (by omega), wi64 (by omega) (by omega)]
    exact ⟨(1 + q).toNat, by omega, by omega, by omega⟩
  rw [hN, New_eq _ (by omega) (by omega), bind_go]
  dsimp only
  rw [toNat_nat]
  obtain ⟨r, hr⟩ := all_loop N (List.replicate N 0) a0 a1 hN hN1 hN2 (min a1.length 60) 0 FUEL (List.replicate N 0) (by omega) (fuel_gt (by omega)) (by simp) (fun z hz => by rw [(List.mem_replicate.1 hz).2]; omega) (by rw [sum_rep]; omega)
  rw [sum_rep] at hr
  have z0 : ((0 : Nat) : Int) = 0 := rfl
  rw [z0] at hr
  rw [hr, bind_go]
  dsimp only
  rw [sure_t, bind_go]

end Go.Proofs.YthoilcjnnifenaaDoor.Pure
