/- The plain law: what the law computes is true, whatever it is handed. -/
import Derived.Test.YthoilcjnnifenaaDoorGFramesRun
import Derived.Test.YthoilcjnnifenaaDoorE16
set_option linter.unusedVariables false
set_option linter.unusedSimpArgs false
set_option linter.unnecessarySimpa false
namespace Go.Proofs.YthoilcjnnifenaaDoor.Pure
open Go Go.Proofs.YthoilcjnnifenaaDoorE Go.Proofs.YthoilcjnnifenaaDoorGFramesRun
theorem wu8 (x : Int) : IntKind.wrap .u8 x = x % 256 := by simp [IntKind.wrap, IntKind.bits, IntKind.signed]
theorem wu16 (x : Int) : IntKind.wrap .u16 x = x % 65536 := by simp [IntKind.wrap, IntKind.bits, IntKind.signed]
theorem wu32 (x : Int) : IntKind.wrap .u32 x = x % 4294967296 := by simp [IntKind.wrap, IntKind.bits, IntKind.signed]
theorem wu64 (x : Int) : IntKind.wrap .u64 x = x % 18446744073709551616 := by simp [IntKind.wrap, IntKind.bits, IntKind.signed]
theorem wi64 {x : Int} (h : -9223372036854775808 ≤ x) (h' : x ≤ 9223372036854775807) : IntKind.wrap .i64 x = x := by
  simp [IntKind.wrap, IntKind.bits, IntKind.signed]
  omega
theorem wu8_id {x : Int} (h : 0 ≤ x ∧ x < 256) : IntKind.wrap .u8 x = x := by rw [wu8]; omega
theorem wu32_id {x : Int} (h : 0 ≤ x ∧ x < 4294967296) : IntKind.wrap .u32 x = x := by rw [wu32]; omega
theorem wu64_id {x : Int} (h : 0 ≤ x ∧ x < 18446744073709551616) : IntKind.wrap .u64 x = x := by rw [wu64]; omega
theorem wsucc {i : Nat} (h : i < 9223372036854775807) : IntKind.wrap .i64 ((i : Int) + 1) = ((i + 1 : Nat) : Int) := by rw [wi64 (by omega) (by omega)]; omega
theorem u8_bd {a : Int} (h : (Lit.int .u8 a).wf = true) : 0 ≤ a ∧ a < 256 := by
  simpa [Lit.wf, IntKind.min, IntKind.max, IntKind.signed, IntKind.bits, ← Int.lt_add_one_iff] using h
theorem u32_bd {a : Int} (h : (Lit.int .u32 a).wf = true) : 0 ≤ a ∧ a < 4294967296 := by
  simpa [Lit.wf, IntKind.min, IntKind.max, IntKind.signed, IntKind.bits, ← Int.lt_add_one_iff] using h
theorem u64_bd {a : Int} (h : (Lit.int .u64 a).wf = true) : 0 ≤ a ∧ a < 18446744073709551616 := by
  simpa [Lit.wf, IntKind.min, IntKind.max, IntKind.signed, IntKind.bits, ← Int.lt_add_one_iff] using h
theorem i64_bd {a : Int} (h : (Lit.int .i64 a).wf = true) : -9223372036854775808 ≤ a ∧ a < 9223372036854775808 := by
  simpa [Lit.wf, IntKind.min, IntKind.max, IntKind.signed, IntKind.bits, ← Int.lt_add_one_iff] using h
theorem fuel_gt {n : Nat} (h : n < 18446744073709551616) : n < FUEL := h
theorem bind_go {α β : Type} (a : α) (f : α → Option β) : (some a).bind f = f a := by rw [Option.bind_some]
theorem drop_getD {α : Type} (l : List α) (i : Nat) (d : α) (h : i < l.length) : l.drop i = l.getD i d :: l.drop (i + 1) := by
  rw [List.drop_eq_getElem_cons h, List.getD_eq_getElem?_getD, List.getElem?_eq_getElem h, Option.getD_some]
theorem getD_mem {α : Type} (l : List α) (i : Nat) (d : α) (h : i < l.length) : l.getD i d ∈ l := by
  rw [List.getD_eq_getElem?_getD, List.getElem?_eq_getElem h, Option.getD_some]; exact List.getElem_mem _
theorem toNat_nat (i : Nat) : Int.toNat (i : Int) = i := rfl
/-- A number behind another one: a round of a loop. -/
theorem fuel_step {d n : Nat} (h : d < n) : ∃ m, n = m + 1 := ⟨n - 1, by omega⟩
/-- Where something stands first. -/
def first (v : Int) : List Int → Option Nat
  | [] => none
  | x :: xs => if x = v then some 0 else (first v xs).map (· + 1)
theorem first_none {v : Int} : ∀ {l : List Int}, first v l = none → ∀ z ∈ l, z ≠ v
  | [], _, z, hz => by cases hz
  | x :: xs, h, z, hz => by
    unfold first at h
    split at h
    · cases h
    · rename_i hx
      rcases List.mem_cons.1 hz with rfl | hz
      · exact hx
      · exact first_none (by simpa using h) z hz
theorem first_some {v : Int} : ∀ {l : List Int} {k : Nat}, first v l = some k → k < l.length ∧ l.getD k 0 = v ∧ ∀ j, j < k → l.getD j 0 ≠ v
  | [], _, h => by cases h
  | x :: xs, k, h => by
    unfold first at h
    split at h
    · cases h
      rename_i hx
      exact ⟨by simp, by simpa using hx, fun j hj => by omega⟩
    · rename_i hx
      cases hf : first v xs with
      | none => simp [hf] at h
      | some m =>
        simp [hf] at h
        subst h
        obtain ⟨h1, h2, h3⟩ := first_some hf
        refine ⟨by simp; omega, by simpa using h2, fun j hj => ?_⟩
        cases j with
        | zero => simpa using hx
        | succ j => simpa using h3 j (by omega)

/-! What frames do. -/
theorem num_some (e : Int) : num.f (some e) = some e := rfl
theorem num_none : num.f none = some 0 := rfl
theorem idx_l0 (l : List Int) (v : Int) (hl : l.length ≤ 100000) : ∀ (d i n : Nat), i + d = l.length → d < n →
    slices_Index_int_int.l0 l v n (i : Int) = some (match first v (l.drop i) with | none => .inl () | some k => .inr ((i + k : Nat) : Int)) := by
  intro d
  induction d with
  | zero =>
    intro i n hi hn
    obtain ⟨m, rfl⟩ := fuel_step hn
    rw [slices_Index_int_int.l0, if_neg (by omega), List.drop_eq_nil_of_le (by omega)]
    rfl
  | succ d ih =>
    intro i n hi hn
    obtain ⟨m, rfl⟩ := fuel_step hn
    have hlt : i < l.length := by omega
    rw [slices_Index_int_int.l0, if_pos (by omega), if_pos ⟨by omega, by omega⟩, toNat_nat, drop_getD l i 0 hlt, first]
    by_cases hv : v = l.getD i 0
    · rw [if_pos hv, if_pos hv.symm]; rfl
    · rw [if_neg hv, if_neg (fun h => hv h.symm), wsucc (by omega), ih (i + 1) m (by omega) (by omega)]
      cases first v (l.drop (i + 1)) with
      | none => rfl
      | some k => simp only [Option.map_some]; congr 3; omega
theorem Index_eq (l : List Int) (v : Int) (hl : l.length ≤ 100000) : slices_Index_int_int.f l v = some (match first v l with | none => -1 | some k => (k : Int)) := by
  unfold slices_Index_int_int.f
  have := idx_l0 l v hl l.length 0 FUEL (by omega) (fuel_gt (by omega))
  have z0 : ((0 : Nat) : Int) = 0 := rfl
  rw [z0, List.drop_zero] at this
  rw [this, bind_go]
  cases first v l with
  | none => rfl
  | some k => simp
def allocS (l : List Int) : Int × Option Int × List Int := match first 0 l with
  | none => (0, some 12, l)
  | some k => ((k : Int), none, l.set k 1)
theorem Alloc_eq (l : List Int) (n : Nat) (hn : n = l.length) (hl : l.length ≤ 100000) : frames_Frames_Alloc_v1.f n n l = some (allocS l) := by
  subst hn
  unfold frames_Frames_Alloc_v1.f allocS
  rw [if_pos (by omega), List.take_length, Index_eq l 0 hl, bind_go]
  cases hf : first 0 l with
  | none => simp only; rw [if_pos (by omega)]
  | some k =>
    obtain ⟨h1, h2, h3⟩ := first_some hf
    simp only
    rw [if_neg (by omega), if_pos ⟨by omega, by omega⟩, toNat_nat, if_pos (by omega), Nat.zero_add]
def refsS (l : List Int) (k : Int) : Int := if 0 ≤ k ∧ k < (l.length : Int) then l.getD k.toNat 0 else 0
theorem Refs_eq (l : List Int) (n : Nat) (hn : n = l.length) (k : Int) : frames_Frames_Refs_v1.f k n n l = some (refsS l k) := by
  subst hn
  unfold frames_Frames_Refs_v1.f refsS
  by_cases h0 : k < 0
  · rw [if_pos h0, if_neg (by omega)]
  · rw [if_neg h0]
    by_cases h1 : k ≥ (l.length : Int)
    · rw [if_pos h1, if_neg (by omega)]
    · rw [if_neg h1, if_pos ⟨by omega, by omega⟩, if_pos (by omega), if_pos ⟨by omega, by omega⟩, Nat.zero_add]
theorem taken_eq (l : List Int) (n : Nat) (hn : n = l.length) (k : Int) : frames_Frames_taken_v1.f k n n l = some (decide (refsS l k > 0)) := by
  unfold frames_Frames_taken_v1.f
  rw [Refs_eq l n hn k, bind_go]
theorem refs_in {l : List Int} {k : Int} (h : refsS l k > 0) : 0 ≤ k ∧ k < (l.length : Int) ∧ refsS l k = l.getD k.toNat 0 := by
  unfold refsS at h ⊢
  split at h
  · rename_i hk; rw [if_pos hk]; exact ⟨hk.1, hk.2, rfl⟩
  · omega
def unrefS (l : List Int) (k : Int) : Bool × Option Int × List Int :=
  if refsS l k > 0 then (decide (refsS l k = 1), none, l.set k.toNat (refsS l k - 1)) else (false, some 22, l)
def refS (l : List Int) (k : Int) : Option Int × List Int :=
  if refsS l k > 0 ∧ refsS l k < 1073741824 then (none, l.set k.toNat (refsS l k + 1)) else (some 22, l)
theorem getD_set (l : List Int) (i : Nat) (x : Int) (h : i < l.length) : (l.set i x).getD i 0 = x := by
  rw [List.getD_eq_getElem?_getD, List.getElem?_set]; simp [h]
theorem getD_set_ne (l : List Int) (i j : Nat) (x : Int) (h : i ≠ j) : (l.set i x).getD j 0 = l.getD j 0 := by
  rw [List.getD_eq_getElem?_getD, List.getElem?_set, List.getD_eq_getElem?_getD]; simp [h]
theorem Unref_eq (l : List Int) (n : Nat) (hn : n = l.length) (k : Int) (hb : refsS l k ≤ 2000000000) : frames_Frames_Unref_v1.f k n n l = some (unrefS l k) := by
  unfold frames_Frames_Unref_v1.f unrefS
  rw [taken_eq l n hn k, bind_go]
  subst hn
  by_cases h : refsS l k > 0
  · obtain ⟨h1, h2, h3⟩ := refs_in h
    have hk : k.toNat < l.length := by omega
    have hg : 0 ≤ k ∧ k < ((l.length : Nat) : Int) := ⟨h1, h2⟩
    have hk2 : 0 + k.toNat < l.length := by omega
    rw [if_neg (by simpa using h), if_pos h]
    simp only [if_pos hg, if_pos hk2]
    rw [Nat.zero_add, ← h3, wi64 (by omega) (by omega), getD_set _ _ _ hk]
    congr 2
    rw [Bool.eq_iff_iff]
    simp
    omega
  · rw [if_pos (by simpa using h), if_neg h]
theorem Ref_eq (l : List Int) (n : Nat) (hn : n = l.length) (k : Int) (hb : refsS l k ≤ 2000000000) : frames_Frames_Ref_v1.f k n n l = some (refS l k) := by
  unfold frames_Frames_Ref_v1.f refS
  rw [taken_eq l n hn k, bind_go]
  subst hn
  by_cases h : refsS l k > 0
  · obtain ⟨h1, h2, h3⟩ := refs_in h
    have hk : k.toNat < l.length := by omega
    have hg : 0 ≤ k ∧ k < ((l.length : Nat) : Int) := ⟨h1, h2⟩
    have hk2 : 0 + k.toNat < l.length := by omega
    rw [if_neg (by simpa using h), if_pos hg, if_pos hk2, Nat.zero_add, ← h3]
    by_cases hm : refsS l k ≥ 1073741824
    · rw [if_pos hm, if_neg (by omega)]
    · rw [if_neg hm, if_pos hg, if_pos (by omega), if_pos hg, if_pos (by omega), if_pos ⟨h, by omega⟩, wi64 (by omega) (by omega)]
  · rw [if_pos (by simpa using h), if_neg (by omega)]
/-- The numbers of those that are above 0. -/
def tk : List Int → Nat → List Int
  | [], _ => []
  | x :: xs, i => if x > 0 then (i : Int) :: tk xs (i + 1) else tk xs (i + 1)
theorem tk_len : ∀ (l : List Int) (i : Nat), (tk l i).length ≤ l.length
  | [], _ => Nat.le_refl _
  | x :: xs, i => by
    have := tk_len xs (i + 1)
    unfold tk
    split <;> simp <;> omega
theorem Taken_l0 (l : List Int) (hl : l.length ≤ 100000) : ∀ (d i n : Nat) (acc : List Int), i + d = l.length → d < n → acc.length ≤ i →
    frames_Frames_Taken_v1.l0 l.length l.length l n acc (i : Int) = some (acc ++ tk (l.drop i) i) := by
  intro d
  induction d with
  | zero =>
    intro i n acc hi hn ha
    obtain ⟨m, rfl⟩ := fuel_step hn
    rw [frames_Frames_Taken_v1.l0, if_neg (by omega), List.drop_eq_nil_of_le (by omega)]
    simp [tk]
  | succ d ih =>
    intro i n acc hi hn ha
    obtain ⟨m, rfl⟩ := fuel_step hn
    have hlt : i < l.length := by omega
    rw [frames_Frames_Taken_v1.l0, if_pos (by omega), if_pos ⟨by omega, by omega⟩, toNat_nat, if_pos (by omega), Nat.zero_add, drop_getD l i 0 hlt, tk, wsucc (by omega)]
    by_cases h : l.getD i 0 > 0
    · rw [if_pos h, if_pos h, if_pos ⟨⟨rfl, rfl⟩, rfl, rfl, by omega, by omega⟩, ih (i + 1) m _ (by omega) (by omega) (by rw [List.length_append]; simp; omega), List.append_assoc]
      rfl
    · rw [if_neg h, if_neg h, ih (i + 1) m _ (by omega) (by omega) (by omega)]
theorem Taken_eq (l : List Int) (n : Nat) (hn : n = l.length) (hl : l.length ≤ 100000) : frames_Frames_Taken_v1.f n n l = some (tk l 0) := by
  subst hn
  unfold frames_Frames_Taken_v1.f
  have := Taken_l0 l hl l.length 0 FUEL [] (by omega) (fuel_gt (by omega)) (by simp)
  have z0 : ((0 : Nat) : Int) = 0 := rfl
  rw [z0, List.drop_zero, List.nil_append] at this
  rw [this, bind_go]
theorem Free_eq (l : List Int) (n : Nat) (hn : n = l.length) (hl : l.length ≤ 100000) : frames_Frames_Free_v1.f n n l = some ((l.length : Int) - ((tk l 0).length : Int)) := by
  unfold frames_Frames_Free_v1.f
  rw [Taken_eq l n hn hl, bind_go]
  have := tk_len l 0
  subst hn
  rw [wi64 (by omega) (by omega)]
theorem New_eq (k : Int) (h : 1 ≤ k) (h2 : k ≤ 1024) : frames_New.f k = some (.inr (k.toNat, k.toNat, List.replicate k.toNat 0)) := by
  unfold frames_New.f
  rw [if_neg (by omega), if_neg (by omega), if_pos ⟨by omega, rfl, by omega, by omega⟩]
theorem sure_t : halterlaw04_sure.f = some true := by
  unfold halterlaw04_sure.f
  rw [New_eq 2 (by omega) (by omega), bind_go]
  dsimp only
  have e0 : (2 : Int).toNat = 2 := rfl
  rw [e0, Alloc_eq _ 2 rfl (by simp), bind_go]
  have e1 : allocS (List.replicate 2 0) = (0, none, [1, 0]) := by decide
  rw [e1]
  dsimp only
  rw [Alloc_eq _ 2 rfl (by simp), bind_go]
  have e2 : allocS [1, 0] = (1, none, [1, 1]) := by decide
  rw [e2]
  dsimp only
  rw [Alloc_eq _ 2 rfl (by simp), bind_go]
  have e3 : allocS [1, 1] = (0, some 12, [1, 1]) := by decide
  rw [e3]
  dsimp only
  rw [Ref_eq _ 2 rfl 1 (by decide), bind_go]
  have e4 : refS [1, 1] 1 = (none, [1, 2]) := by decide
  rw [e4]
  dsimp only
  rw [if_pos rfl, if_pos rfl, if_pos rfl, num_some, bind_go, if_pos rfl, if_pos rfl, if_pos rfl, Refs_eq _ 2 rfl, bind_go, if_pos (by decide), Free_eq _ 2 rfl (by simp), bind_go, if_pos (by decide), Taken_eq _ 2 rfl (by simp), bind_go]
  decide

def cnt : List Int → Int → Nat
  | [], _ => 0
  | x :: xs, k => (if x = k then 1 else 0) + cnt xs k
theorem cnt_app : ∀ (a b : List Int) (k : Int), cnt (a ++ b) k = cnt a k + cnt b k
  | [], b, k => by simp [cnt]
  | x :: xs, b, k => by simp only [List.cons_append, cnt, cnt_app xs b k]; omega
theorem cnt_len : ∀ (a : List Int) (k : Int), cnt a k ≤ a.length
  | [], _ => Nat.le_refl _
  | x :: xs, k => by have := cnt_len xs k; unfold cnt; split <;> simp <;> omega
theorem cnt_zero : ∀ {a : List Int} {k : Int}, (∀ z ∈ a, z ≠ k) → cnt a k = 0
  | [], _, _ => rfl
  | x :: xs, k, h => by
    have := cnt_zero (a := xs) (k := k) (fun z hz => h z (by simp [hz]))
    unfold cnt; rw [if_neg (h x (by simp)), this]
theorem cnt_cut (L : List Int) (p : Nat) (h : p < L.length) (k : Int) : cnt L k = cnt (L.take p ++ L.drop (p + 1)) k + (if L.getD p 0 = k then 1 else 0) := by
  have e : L = L.take p ++ (L.getD p 0 :: L.drop (p + 1)) := by
    rw [← drop_getD L p 0 h, List.take_append_drop]
  rw [cnt_app]
  conv => lhs; rw [e, cnt_app, cnt]
  omega
theorem first_cnt {k : Int} : ∀ {L : List Int}, first k L = none → cnt L k = 0 := fun {L} h => cnt_zero (first_none h)
theorem first_cnt2 {k : Int} {L : List Int} {p : Nat} (h : first k L = some p) : 0 < cnt L k := by
  obtain ⟨h1, h2, _⟩ := first_some h
  have := cnt_cut L p h1 k
  rw [if_pos h2] at this
  omega
theorem rrefs (m : Int) (L : List Int) (k : Int) (hl : L.length ≤ 1000) : ∀ (d i n acc : Nat), i + d = L.length → d < n → acc ≤ i →
    halterref04_Refs.l0 m L k n (acc : Int) (i : Int) = some ((acc + cnt (L.drop i) k : Nat) : Int) := by
  intro d
  induction d with
  | zero =>
    intro i n acc hi hn ha
    obtain ⟨q, rfl⟩ := fuel_step hn
    rw [halterref04_Refs.l0, if_neg (by omega), List.drop_eq_nil_of_le (by omega)]
    simp [cnt]
  | succ d ih =>
    intro i n acc hi hn ha
    obtain ⟨q, rfl⟩ := fuel_step hn
    rw [halterref04_Refs.l0, if_pos (by omega), if_pos ⟨by omega, by omega⟩, toNat_nat, drop_getD L i 0 (by omega), cnt, wsucc (by omega), wsucc (by omega)]
    by_cases h : L.getD i 0 = k
    · rw [if_pos h, if_pos h, ih (i + 1) q (acc + 1) (by omega) (by omega) (by omega)]
      congr 2; omega
    · rw [if_neg h, if_neg h, ih (i + 1) q acc (by omega) (by omega) (by omega)]
      congr 2; omega
theorem Refs_r (m : Int) (L : List Int) (k : Int) (hl : L.length ≤ 1000) : halterref04_Refs.f m L k = some ((cnt L k : Nat) : Int) := by
  unfold halterref04_Refs.f
  have := rrefs m L k hl L.length 0 FUEL 0 (by omega) (fuel_gt (by omega)) (by omega)
  have z0 : ((0 : Nat) : Int) = 0 := rfl
  rw [z0, Nat.zero_add, List.drop_zero] at this
  rw [this, bind_go]
/-- The two say the same. -/
structure Alike (N : Nat) (l L : List Int) : Prop where
  len : l.length = N
  cnt : ∀ k : Nat, k < N → l.getD k 0 = ((cnt L (k : Int) : Nat) : Int)
  rng : ∀ z ∈ L, 0 ≤ z ∧ z < (N : Int)
theorem Alike.refs {N : Nat} {l L : List Int} (h : Alike N l L) (k : Int) : refsS l k = ((Pure.cnt L k : Nat) : Int) := by
  unfold refsS
  by_cases hk : 0 ≤ k ∧ k < (l.length : Int)
  · rw [if_pos hk]
    have h1 := h.len
    have := h.cnt k.toNat (by omega)
    rw [this]
    congr 2; omega
  · rw [if_neg hk, cnt_zero]
    · rfl
    · intro z hz e
      have := h.rng z hz
      have h1 := h.len
      omega
theorem Alike.add {N : Nat} {l L : List Int} (h : Alike N l L) (k : Nat) (hk : k < N) : Alike N (l.set k (l.getD k 0 + 1)) (L ++ [(k : Int)]) := by
  refine ⟨by rw [List.length_set]; exact h.len, fun j hj => ?_, fun z hz => ?_⟩
  · rw [cnt_app]
    have hl := h.len
    by_cases e : k = j
    · subst e
      rw [getD_set _ _ _ (by omega), h.cnt k hk]
      simp [Pure.cnt]
    · rw [getD_set_ne _ _ _ _ e, h.cnt j hj]
      have : ¬ (k : Int) = (j : Int) := by omega
      simp [Pure.cnt, this]
  · rcases List.mem_append.1 hz with hz | hz
    · exact h.rng z hz
    · have := List.mem_singleton.1 hz; omega
theorem Alike.cut {N : Nat} {l L : List Int} (h : Alike N l L) (k : Nat) (hk : k < N) (p : Nat) (hp : p < L.length) (he : L.getD p 0 = (k : Int)) : Alike N (l.set k (l.getD k 0 - 1)) (L.take p ++ L.drop (p + 1)) := by
  refine ⟨by rw [List.length_set]; exact h.len, fun j hj => ?_, fun z hz => ?_⟩
  · have hl := h.len
    have hc := cnt_cut L p hp (j : Int)
    rw [he] at hc
    by_cases e : k = j
    · subst e
      rw [getD_set _ _ _ (by omega), h.cnt k hk, hc, if_pos rfl]
      omega
    · rw [getD_set_ne _ _ _ _ e, h.cnt j hj, hc, if_neg (by omega)]
      rfl
  · rcases List.mem_append.1 hz with hz | hz
    · exact h.rng z (List.mem_of_mem_take hz)
    · exact h.rng z (List.mem_of_mem_drop hz)
theorem ralloc (N : Nat) (l L : List Int) (h : Alike N l L) (hl : L.length ≤ 900) (hN : N ≤ 2000) : ∀ (d i n : Nat), i + d = N → d < n →
    halterref04_Alloc.l0 (N : Int) L n (i : Int) = some (match first 0 (l.drop i) with | none => .inl () | some k => .inr (L ++ [((i + k : Nat) : Int)], L ++ [((i + k : Nat) : Int)], ((i + k : Nat) : Int))) := by
  intro d
  induction d with
  | zero =>
    intro i n hi hn
    obtain ⟨q, rfl⟩ := fuel_step hn
    have := h.len
    rw [halterref04_Alloc.l0, if_neg (by omega), List.drop_eq_nil_of_le (by omega)]
    rfl
  | succ d ih =>
    intro i n hi hn
    obtain ⟨q, rfl⟩ := fuel_step hn
    have hlen := h.len
    rw [halterref04_Alloc.l0, if_pos (by omega), Refs_r _ _ _ (by omega), bind_go, drop_getD l i 0 (by omega), first, h.cnt i (by omega), toNat_nat, List.take_length]
    by_cases h0 : ((Pure.cnt L (i : Int) : Nat) : Int) = 0
    · rw [if_pos h0, if_pos h0, if_pos ⟨⟨rfl, rfl⟩, by omega, by omega, by omega⟩]
      rfl
    · rw [if_neg h0, if_neg h0, wsucc (by omega), ih (i + 1) q (by omega) (by omega)]
      cases first 0 (l.drop (i + 1)) with
      | none => rfl
      | some k =>
        simp only [Option.map_some]
        have e : i + 1 + k = i + (k + 1) := by omega
        rw [e]
theorem runref (m : Int) (L : List Int) (k : Int) (hl : L.length ≤ 900) : ∀ (d i n : Nat), i + d = L.length → d < n →
    halterref04_Unref.l0 m L k n (i : Int) = some (match first k (L.drop i) with | none => .inl () | some p => .inr (L.take (i + p) ++ L.drop (i + p + 1), L.take (i + p) ++ L.drop (i + p + 1), (((Pure.cnt (L.take (i + p) ++ L.drop (i + p + 1)) k : Nat) : Int) == 0))) := by
  intro d
  induction d with
  | zero =>
    intro i n hi hn
    obtain ⟨q, rfl⟩ := fuel_step hn
    rw [halterref04_Unref.l0, if_neg (by omega), List.drop_eq_nil_of_le (by omega)]
    rfl
  | succ d ih =>
    intro i n hi hn
    obtain ⟨q, rfl⟩ := fuel_step hn
    rw [halterref04_Unref.l0, if_pos (by omega), if_pos ⟨by omega, by omega⟩, toNat_nat, drop_getD L i 0 (by omega), first]
    have ht : (L.take i).length = i := by rw [List.length_take]; omega
    by_cases h : L.getD i 0 = k
    · rw [if_pos h, if_pos h, if_pos ⟨by omega, by omega⟩, if_pos ⟨trivial, by omega, by omega⟩, wsucc (by omega), if_pos ⟨trivial, by omega, by omega⟩, toNat_nat, if_pos ⟨trivial, rfl, rfl, by rw [List.length_drop]; omega, by rw [List.length_drop]; omega⟩, Refs_r _ _ _ (by rw [List.length_append, List.length_drop]; omega), bind_go]
      rfl
    · rw [if_neg h, if_neg h, wsucc (by omega), ih (i + 1) q (by omega) (by omega)]
      cases first k (L.drop (i + 1)) with
      | none => rfl
      | some p =>
        simp only [Option.map_some]
        have e : i + 1 + p = i + (p + 1) := by omega
        rw [e]
theorem rtaken (N : Nat) (l L : List Int) (h : Alike N l L) (hl : L.length ≤ 900) (hN : N ≤ 2000) : ∀ (d i n : Nat) (acc : List Int), i + d = N → d < n → acc.length ≤ i →
    halterref04_Taken.l0 (N : Int) L n acc (i : Int) = some (acc ++ tk (l.drop i) i) := by
  intro d
  induction d with
  | zero =>
    intro i n acc hi hn ha
    obtain ⟨q, rfl⟩ := fuel_step hn
    have := h.len
    rw [halterref04_Taken.l0, if_neg (by omega), List.drop_eq_nil_of_le (by omega)]
    simp [tk]
  | succ d ih =>
    intro i n acc hi hn ha
    obtain ⟨q, rfl⟩ := fuel_step hn
    have hlen := h.len
    rw [halterref04_Taken.l0, if_pos (by omega), Refs_r _ _ _ (by omega), bind_go, drop_getD l i 0 (by omega), tk, h.cnt i (by omega), wsucc (by omega)]
    by_cases h0 : ((Pure.cnt L (i : Int) : Nat) : Int) > 0
    · rw [if_pos h0, if_pos h0, if_pos ⟨⟨rfl, rfl⟩, rfl, rfl, by omega, by omega⟩, ih (i + 1) q _ (by omega) (by omega) (by rw [List.length_append]; simp; omega), List.append_assoc]
      rfl
    · rw [if_neg h0, if_neg h0, ih (i + 1) q _ (by omega) (by omega) (by omega)]
theorem ints_l0 (a : List Int) (ha : a.length ≤ 5000) : ∀ (d i n : Nat), i + d = a.length → d < n → halterlaw04_ints.l0 a a n (i : Int) = some (.inl ()) := by
  intro d
  induction d with
  | zero =>
    intro i n hi hn
    obtain ⟨q, rfl⟩ := fuel_step hn
    rw [halterlaw04_ints.l0, if_neg (by omega)]
  | succ d ih =>
    intro i n hi hn
    obtain ⟨q, rfl⟩ := fuel_step hn
    rw [halterlaw04_ints.l0, if_pos (by omega), if_pos ⟨by omega, by omega⟩, if_pos ⟨by omega, by omega⟩, if_neg (fun h => h rfl), wsucc (by omega)]
    exact ih (i + 1) q (by omega) (by omega)
theorem ints_eq (a : List Int) (ha : a.length ≤ 5000) : halterlaw04_ints.f a a = some true := by
  unfold halterlaw04_ints.f
  have := ints_l0 a ha a.length 0 FUEL (by omega) (fuel_gt (by omega))
  have z0 : ((0 : Nat) : Int) = 0 := rfl
  rw [z0] at this
  rw [if_neg (fun h => h rfl), this, bind_go]
theorem step_ok (N : Nat) (hN : N ≤ 1024) (r0 : List Int) (a1 : List (Int × Int)) (l L : List Int) (i : Nat) (h : Alike N l L) (hi : i < 30) (hL : L.length ≤ i) :
    ∃ l' L', Alike N l' L' ∧ L'.length ≤ i + 1 ∧ halterlaw04_FramesRun.j1 (N, N, r0) l (N : Int) L (i : Int) (N : Int) a1 = some (.inl (l', (N : Int), L')) := by
  unfold halterlaw04_FramesRun.j1
  rw [toNat_nat]
  have hlen := h.len
  obtain ⟨kd0, x⟩ := a1.getD i ((0 : Int), (0 : Int))
  dsimp only
  generalize IntKind.wrap .i64 (Int.tmod (IntKind.wrap .u64 kd0) (4 : Int)) = kd
  have hr := h.refs x
  have hc := cnt_len L x
  have z0 : ((0 : Nat) : Int) = 0 := rfl
  by_cases k0 : kd < 2
  · rw [if_pos k0, Alloc_eq l N hlen.symm (by omega), bind_go]
    have hal := ralloc N l L h (by omega) (by omega) N 0 FUEL (by omega) (fuel_gt (by omega))
    rw [z0, List.drop_zero] at hal
    unfold halterref04_Alloc.f allocS
    rw [hal, bind_go]
    cases hf : first 0 l with
    | none =>
      dsimp only
      rw [bind_go]
      dsimp only
      rw [if_neg (fun h => h rfl), num_some, bind_go, if_neg (fun h => h rfl)]
      exact ⟨l, L, h, by omega, rfl⟩
    | some k =>
      obtain ⟨h1, h2, h3⟩ := first_some hf
      dsimp only
      rw [Nat.zero_add, bind_go]
      dsimp only
      rw [if_neg (fun h => h rfl), num_none, bind_go, if_neg (fun h => h rfl)]
      have ha := h.add k (by omega)
      rw [h2] at ha
      exact ⟨l.set k 1, L ++ [(k : Int)], ha, by rw [List.length_append]; simp; omega, rfl⟩
  · rw [if_neg k0]
    by_cases k2 : kd = 2
    · rw [if_pos k2]
      unfold halterref04_Ref.f
      rw [Refs_r _ _ _ (by omega), bind_go, toNat_nat, List.take_length, Ref_eq l N hlen.symm x (by omega)]
      unfold refS
      rw [hr]
      by_cases hz : ((Pure.cnt L x : Nat) : Int) = 0
      · rw [if_pos hz, bind_go, if_neg (by omega), bind_go]
        dsimp only
        rw [num_some, bind_go, if_neg (fun h => h rfl)]
        exact ⟨l, L, h, by omega, rfl⟩
      · rw [if_neg hz, if_pos ⟨⟨rfl, rfl⟩, by omega, by omega, by omega⟩, bind_go, if_pos ⟨by omega, by omega⟩, bind_go]
        dsimp only
        rw [num_none, bind_go, if_neg (fun h => h rfl)]
        obtain ⟨g1, g2, g3⟩ := refs_in (l := l) (k := x) (by omega)
        have ha := h.add x.toNat (by omega)
        rw [← g3, hr] at ha
        have e : ((x.toNat : Nat) : Int) = x := by omega
        rw [e] at ha
        exact ⟨_, _, ha, by rw [List.length_append]; simp; omega, rfl⟩
    · rw [if_neg k2, Unref_eq l N hlen.symm x (by omega), bind_go]
      have hu := runref (N : Int) L x (by omega) L.length 0 FUEL (by omega) (fuel_gt (by omega))
      rw [z0, List.drop_zero] at hu
      cases hf : first x L with
      | none =>
        have hz := first_cnt hf
        rw [hf] at hu
        have eR : halterref04_Unref.f (N : Int) L x = some ((N : Int), L, false, 22) := by
          unfold halterref04_Unref.f
          rw [hu, bind_go]
        have eU : unrefS l x = (false, some 22, l) := by
          unfold unrefS; rw [hr, hz, if_neg (by omega)]
        rw [eR, eU, bind_go]
        dsimp only
        rw [if_neg (fun h => h rfl), num_some, bind_go, if_neg (fun h => h rfl)]
        exact ⟨l, L, h, by omega, rfl⟩
      | some p =>
        have hz := first_cnt2 hf
        obtain ⟨p1, p2, p3⟩ := first_some hf
        rw [hf] at hu
        dsimp only at hu
        rw [Nat.zero_add] at hu
        have hcc := cnt_cut L p p1 x
        rw [if_pos p2] at hcc
        have eR : halterref04_Unref.f (N : Int) L x = some ((N : Int), L.take p ++ L.drop (p + 1), (((Pure.cnt (L.take p ++ L.drop (p + 1)) x : Nat) : Int) == 0), 0) := by
          unfold halterref04_Unref.f
          rw [hu, bind_go]
        have eU : unrefS l x = (decide (((Pure.cnt L x : Nat) : Int) = 1), none, l.set x.toNat (((Pure.cnt L x : Nat) : Int) - 1)) := by
          unfold unrefS; rw [hr, if_pos (by omega)]
        rw [eR, eU, bind_go]
        dsimp only
        rw [if_neg (fun h2 => h2 (by rw [Bool.eq_iff_iff]; simp; omega)), num_none, bind_go, if_neg (fun h => h rfl)]
        obtain ⟨g1, g2, g3⟩ := refs_in (l := l) (k := x) (by omega)
        have ha := h.cut x.toNat (by omega) p p1 (by rw [p2]; omega)
        rw [← g3, hr] at ha
        exact ⟨_, _, ha, by rw [List.length_append, List.length_take, List.length_drop]; omega, rfl⟩
theorem all_loop (N : Nat) (hN : N ≤ 1024) (r0 : List Int) (a1 : List (Int × Int)) : ∀ (d i n : Nat) (l L : List Int), i + d = min a1.length 30 → d < n → Alike N l L → L.length ≤ i →
    ∃ l' L', Alike N l' L' ∧ L'.length ≤ 30 ∧ halterlaw04_FramesRun.l0 (N, N, r0) (N : Int) a1 n l (N : Int) L (i : Int) = some (.inl (l', (N : Int), L')) := by
  intro d
  induction d with
  | zero =>
    intro i n l L hi hn h hL
    obtain ⟨q, rfl⟩ := fuel_step hn
    rw [halterlaw04_FramesRun.l0]
    by_cases h1 : (i : Int) < ((a1.length : Nat) : Int)
    · rw [if_pos h1, if_neg (by omega)]; exact ⟨l, L, h, by omega, rfl⟩
    · rw [if_neg h1]; exact ⟨l, L, h, by omega, rfl⟩
  | succ d ih =>
    intro i n l L hi hn h hL
    obtain ⟨q, rfl⟩ := fuel_step hn
    have hg : (0 : Int) ≤ (i : Int) ∧ (i : Int) < ((a1.length : Nat) : Int) := by omega
    rw [halterlaw04_FramesRun.l0, if_pos hg.2, if_pos (by omega), if_pos hg, if_pos hg]
    obtain ⟨l', L', h1, h2, h3⟩ := step_ok N hN r0 a1 l L i h (by omega) hL
    rw [h3, bind_go]
    dsimp only
    rw [Refs_eq l' N h1.len.symm, bind_go, Refs_r _ _ _ (by omega), bind_go, h1.refs, if_neg (fun h => h rfl), wsucc (by omega)]
    exact ih (i + 1) q l' L' (by omega) (by omega) h1 h2
theorem FramesRun (a0 : Int) (a1 : (List (Int × Int))) (h0 : (Lit.int .i64 a0).wf = true) (h1 : List.length a1 * 16 ≤ reachBytes) (h2 : ∀ z : (Int × Int), z ∈ a1 → goodT (.pair (.int .i64) (.int .i64)) z) : halterlaw04_FramesRun.f a0 a1 = some true := by
  have e1 : frames_Frames_Alloc.f = some (0, some 22) := rfl
  have e2 : frames_Frames_Unref.f 0 = some (false, some 22) := by decide
  have e3 : frames_Frames_Ref.f 0 = some (some 22) := by decide
  have e4 : frames_Frames_Refs.f 0 = some 0 := rfl
  have e5 : frames_Frames_Free.f = some 0 := rfl
  have e6 : frames_Frames_Taken.f = some [] := rfl
  unfold halterlaw04_FramesRun.f
  rw [e1, bind_go, e2, bind_go]
  dsimp only
  rw [num_some, bind_go, if_neg (fun h => h rfl), bind_go, if_neg (fun h => h rfl), e3, bind_go, num_some, bind_go, if_neg (fun h => h rfl), e4, bind_go, if_neg (fun h => h rfl), e5, bind_go, if_neg (fun h => h rfl), e6, bind_go, if_neg (fun h => h rfl)]
  by_cases hlo : a0 < 1
  · have en : frames_New.f a0 = some (.inl 22) := by unfold frames_New.f; rw [if_pos hlo]
    rw [en, bind_go]
    dsimp only
    rw [if_pos hlo, num_some, bind_go, if_pos rfl, sure_t, bind_go]
  · by_cases hhi : a0 > 1024
    · have en : frames_New.f a0 = some (.inl 22) := by unfold frames_New.f; rw [if_neg hlo, if_pos hhi]
      rw [en, bind_go]
      dsimp only
      rw [if_neg hlo, if_pos hhi, num_some, bind_go, if_pos rfl, sure_t, bind_go]
    · rw [New_eq a0 (by omega) (by omega), bind_go]
      dsimp only
      rw [if_neg hlo, if_neg hhi]
      obtain ⟨N, rfl⟩ : ∃ N : Nat, a0 = N := ⟨a0.toNat, by omega⟩
      rw [toNat_nat]
      have h00 : Alike N (List.replicate N 0) [] := ⟨by simp, fun k hk => by rw [List.getD_eq_getElem?_getD, List.getElem?_replicate]; simp [hk, Pure.cnt], fun z hz => by cases hz⟩
      obtain ⟨l, L, h1, h2, h3⟩ := all_loop N (by omega) (List.replicate N 0) a1 (min a1.length 30) 0 FUEL (List.replicate N 0) [] (by omega) (fuel_gt (by omega)) h00 (by simp)
      have z0 : ((0 : Nat) : Int) = 0 := rfl
      rw [z0] at h3
      rw [h3, bind_go]
      dsimp only
      have hlen := h1.len
      have ht := rtaken N l L h1 (by omega) (by omega) N 0 FUEL [] (by omega) (fuel_gt (by omega)) (by simp)
      rw [z0, List.drop_zero, List.nil_append] at ht
      have eT : halterref04_Taken.f (N : Int) L = some (tk l 0) := by unfold halterref04_Taken.f; rw [ht, bind_go]
      have htl := tk_len l 0
      rw [eT, bind_go, Taken_eq l N hlen.symm (by omega), bind_go, ints_eq _ (by omega), bind_go, if_pos rfl, Free_eq l N hlen.symm (by omega), bind_go, wi64 (by omega) (by omega), if_pos (by omega), sure_t, bind_go]

end Go.Proofs.YthoilcjnnifenaaDoor.Pure
