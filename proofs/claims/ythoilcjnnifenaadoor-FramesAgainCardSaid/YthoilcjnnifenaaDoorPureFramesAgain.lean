/- The plain law: what the law computes is true, whatever it is handed. -/
import Derived.Test.YthoilcjnnifenaaDoorGFramesAgain
import Derived.Test.YthoilcjnnifenaaDoorE16
set_option linter.unusedVariables false
set_option linter.unusedSimpArgs false
set_option linter.unnecessarySimpa false
namespace Go.Proofs.YthoilcjnnifenaaDoor.Pure
open Go Go.Proofs.YthoilcjnnifenaaDoorE Go.Proofs.YthoilcjnnifenaaDoorGFramesAgain
theorem wu8 (x : Int) : IntKind.wrap .u8 x = x % 256 := by simp [IntKind.wrap, IntKind.bits, IntKind.signed]
theorem wu16 (x : Int) : IntKind.wrap .u16 x = x % 65536 := by simp [IntKind.wrap, IntKind.bits, IntKind.signed]
theorem wu32 (x : Int) : IntKind.wrap .u32 x = x % 4294967296 := by simp [IntKind.wrap, IntKind.bits, IntKind.signed]
theorem wu64 (x : Int) : IntKind.wrap .u64 x = x % 18446744073709551616 := by simp [IntKind.wrap, IntKind.bits, IntKind.signed]
theorem wi64 {x : Int} (h : -9223372036854775808 ≤ x) (h' : x ≤ 9223372036854775807) : IntKind.wrap .i64 x = x := by
  simp [IntKind.wrap, IntKind.bits, IntKind.signed]
  omega
theorem wu8_id {x : Int} (h : 0 ≤ x ∧ x < 256) : IntKind.wrap .u8 x = x := by rw [wu8]; omega
theorem wu32_id {x : Int} (h : 0 ≤ x ∧ x < 4294967296) : IntKind.wrap .u32 x = x := by rw [wu32]; omega
theorem wu64_id {x : Int} (h : 0 ≤ x ∧ x < 18446744073709551616) : IntKind.wrap .u64 x = x := by rw [wu64]; omega
theorem wsucc {i : Nat} (h : i < 9223372036854775807) : IntKind.wrap .i64 ((i : Int) + 1) = ((i + 1 : Nat) : Int) := by rw [wi64 (by omega) (by omega)]; omega
theorem u8_bd {a : Int} (h : (Lit.int .u8 a).wf = true) : 0 ≤ a ∧ a < 256 := by
  simpa [Lit.wf, IntKind.min, IntKind.max, IntKind.signed, IntKind.bits, ← Int.lt_add_one_iff] using h
theorem u32_bd {a : Int} (h : (Lit.int .u32 a).wf = true) : 0 ≤ a ∧ a < 4294967296 := by
  simpa [Lit.wf, IntKind.min, IntKind.max, IntKind.signed, IntKind.bits, ← Int.lt_add_one_iff] using h
theorem u64_bd {a : Int} (h : (Lit.int .u64 a).wf = true) : 0 ≤ a ∧ a < 18446744073709551616 := by
  simpa [Lit.wf, IntKind.min, IntKind.max, IntKind.signed, IntKind.bits, ← Int.lt_add_one_iff] using h
theorem i64_bd {a : Int} (h : (Lit.int .i64 a).wf = true) : -9223372036854775808 ≤ a ∧ a < 9223372036854775808 := by
  simpa [Lit.wf, IntKind.min, IntKind.max, IntKind.signed, IntKind.bits, ← Int.lt_add_one_iff] using h
theorem fuel_gt {n : Nat} (h : n < 18446744073709551616) : n < FUEL := h
theorem bind_go {α β : Type} (a : α) (f : α → Option β) : (some a).bind f = f a := by rw [Option.bind_some]
theorem drop_getD {α : Type} (l : List α) (i : Nat) (d : α) (h : i < l.length) : l.drop i = l.getD i d :: l.drop (i + 1) := by
  rw [List.drop_eq_getElem_cons h, List.getD_eq_getElem?_getD, List.getElem?_eq_getElem h, Option.getD_some]
theorem getD_mem {α : Type} (l : List α) (i : Nat) (d : α) (h : i < l.length) : l.getD i d ∈ l := by
  rw [List.getD_eq_getElem?_getD, List.getElem?_eq_getElem h, Option.getD_some]; exact List.getElem_mem _
theorem toNat_nat (i : Nat) : Int.toNat (i : Int) = i := rfl
/-- A number behind another one: a round of a loop. -/
theorem fuel_step {d n : Nat} (h : d < n) : ∃ m, n = m + 1 := ⟨n - 1, by omega⟩
/-- Where something stands first. -/
def first (v : Int) : List Int → Option Nat
  | [] => none
  | x :: xs => if x = v then some 0 else (first v xs).map (· + 1)
theorem first_none {v : Int} : ∀ {l : List Int}, first v l = none → ∀ z ∈ l, z ≠ v
  | [], _, z, hz => by cases hz
  | x :: xs, h, z, hz => by
    unfold first at h
    split at h
    · cases h
    · rename_i hx
      rcases List.mem_cons.1 hz with rfl | hz
      · exact hx
      · exact first_none (by simpa using h) z hz
theorem first_some {v : Int} : ∀ {l : List Int} {k : Nat}, first v l = some k → k < l.length ∧ l.getD k 0 = v ∧ ∀ j, j < k → l.getD j 0 ≠ v
  | [], _, h => by cases h
  | x :: xs, k, h => by
    unfold first at h
    split at h
    · cases h
      rename_i hx
      exact ⟨by simp, by simpa using hx, fun j hj => by omega⟩
    · rename_i hx
      cases hf : first v xs with
      | none => simp [hf] at h
      | some m =>
        simp [hf] at h
        subst h
        obtain ⟨h1, h2, h3⟩ := first_some hf
        refine ⟨by simp; omega, by simpa using h2, fun j hj => ?_⟩
        cases j with
        | zero => simpa using hx
        | succ j => simpa using h3 j (by omega)

/-! What frames do. -/
theorem num_some (e : Int) : num.f (some e) = some e := rfl
theorem num_none : num.f none = some 0 := rfl
theorem idx_l0 (l : List Int) (v : Int) (hl : l.length ≤ 100000) : ∀ (d i n : Nat), i + d = l.length → d < n →
    slices_Index_int_int.l0 l v n (i : Int) = some (match first v (l.drop i) with | none => .inl () | some k => .inr ((i + k : Nat) : Int)) := by
  intro d
  induction d with
  | zero =>
    intro i n hi hn
    obtain ⟨m, rfl⟩ := fuel_step hn
    rw [slices_Index_int_int.l0, if_neg (by omega), List.drop_eq_nil_of_le (by omega)]
    rfl
  | succ d ih =>
    intro i n hi hn
    obtain ⟨m, rfl⟩ := fuel_step hn
    have hlt : i < l.length := by omega
    rw [slices_Index_int_int.l0, if_pos (by omega), if_pos ⟨by omega, by omega⟩, toNat_nat, drop_getD l i 0 hlt, first]
    by_cases hv : v = l.getD i 0
    · rw [if_pos hv, if_pos hv.symm]; rfl
    · rw [if_neg hv, if_neg (fun h => hv h.symm), wsucc (by omega), ih (i + 1) m (by omega) (by omega)]
      cases first v (l.drop (i + 1)) with
      | none => rfl
      | some k => simp only [Option.map_some]; congr 3; omega
theorem Index_eq (l : List Int) (v : Int) (hl : l.length ≤ 100000) : slices_Index_int_int.f l v = some (match first v l with | none => -1 | some k => (k : Int)) := by
  unfold slices_Index_int_int.f
  have := idx_l0 l v hl l.length 0 FUEL (by omega) (fuel_gt (by omega))
  have z0 : ((0 : Nat) : Int) = 0 := rfl
  rw [z0, List.drop_zero] at this
  rw [this, bind_go]
  cases first v l with
  | none => rfl
  | some k => simp
def allocS (l : List Int) : Int × Option Int × List Int := match first 0 l with
  | none => (0, some 12, l)
  | some k => ((k : Int), none, l.set k 1)
theorem Alloc_eq (l : List Int) (n : Nat) (hn : n = l.length) (hl : l.length ≤ 100000) : frames_Frames_Alloc.f n n l = some (allocS l) := by
  subst hn
  unfold frames_Frames_Alloc.f allocS
  rw [if_pos (by omega), List.take_length, Index_eq l 0 hl, bind_go]
  cases hf : first 0 l with
  | none => simp only; rw [if_pos (by omega)]
  | some k =>
    obtain ⟨h1, h2, h3⟩ := first_some hf
    simp only
    rw [if_neg (by omega), if_pos ⟨by omega, by omega⟩, toNat_nat, if_pos (by omega), Nat.zero_add]
def refsS (l : List Int) (k : Int) : Int := if 0 ≤ k ∧ k < (l.length : Int) then l.getD k.toNat 0 else 0
theorem Refs_eq (l : List Int) (n : Nat) (hn : n = l.length) (k : Int) : frames_Frames_Refs.f k n n l = some (refsS l k) := by
  subst hn
  unfold frames_Frames_Refs.f refsS
  by_cases h0 : k < 0
  · rw [if_pos h0, if_neg (by omega)]
  · rw [if_neg h0]
    by_cases h1 : k ≥ (l.length : Int)
    · rw [if_pos h1, if_neg (by omega)]
    · rw [if_neg h1, if_pos ⟨by omega, by omega⟩, if_pos (by omega), if_pos ⟨by omega, by omega⟩, Nat.zero_add]
theorem taken_eq (l : List Int) (n : Nat) (hn : n = l.length) (k : Int) : frames_Frames_taken.f k n n l = some (decide (refsS l k > 0)) := by
  unfold frames_Frames_taken.f
  rw [Refs_eq l n hn k, bind_go]
theorem refs_in {l : List Int} {k : Int} (h : refsS l k > 0) : 0 ≤ k ∧ k < (l.length : Int) ∧ refsS l k = l.getD k.toNat 0 := by
  unfold refsS at h ⊢
  split at h
  · rename_i hk; rw [if_pos hk]; exact ⟨hk.1, hk.2, rfl⟩
  · omega
def unrefS (l : List Int) (k : Int) : Bool × Option Int × List Int :=
  if refsS l k > 0 then (decide (refsS l k = 1), none, l.set k.toNat (refsS l k - 1)) else (false, some 22, l)
def refS (l : List Int) (k : Int) : Option Int × List Int :=
  if refsS l k > 0 ∧ refsS l k < 1073741824 then (none, l.set k.toNat (refsS l k + 1)) else (some 22, l)
theorem getD_set (l : List Int) (i : Nat) (x : Int) (h : i < l.length) : (l.set i x).getD i 0 = x := by
  rw [List.getD_eq_getElem?_getD, List.getElem?_set]; simp [h]
theorem getD_set_ne (l : List Int) (i j : Nat) (x : Int) (h : i ≠ j) : (l.set i x).getD j 0 = l.getD j 0 := by
  rw [List.getD_eq_getElem?_getD, List.getElem?_set, List.getD_eq_getElem?_getD]; simp [h]
theorem Unref_eq (l : List Int) (n : Nat) (hn : n = l.length) (k : Int) (hb : refsS l k ≤ 2000000000) : frames_Frames_Unref.f k n n l = some (unrefS l k) := by
  unfold frames_Frames_Unref.f unrefS
  rw [taken_eq l n hn k, bind_go]
  subst hn
  by_cases h : refsS l k > 0
  · obtain ⟨h1, h2, h3⟩ := refs_in h
    have hk : k.toNat < l.length := by omega
    have hg : 0 ≤ k ∧ k < ((l.length : Nat) : Int) := ⟨h1, h2⟩
    have hk2 : 0 + k.toNat < l.length := by omega
    rw [if_neg (by simpa using h), if_pos h]
    simp only [if_pos hg, if_pos hk2]
    rw [Nat.zero_add, ← h3, wi64 (by omega) (by omega), getD_set _ _ _ hk]
    congr 2
    rw [Bool.eq_iff_iff]
    simp
    omega
  · rw [if_pos (by simpa using h), if_neg h]
theorem Ref_eq (l : List Int) (n : Nat) (hn : n = l.length) (k : Int) (hb : refsS l k ≤ 2000000000) : frames_Frames_Ref.f k n n l = some (refS l k) := by
  unfold frames_Frames_Ref.f refS
  rw [taken_eq l n hn k, bind_go]
  subst hn
  by_cases h : refsS l k > 0
  · obtain ⟨h1, h2, h3⟩ := refs_in h
    have hk : k.toNat < l.length := by omega
    have hg : 0 ≤ k ∧ k < ((l.length : Nat) : Int) := ⟨h1, h2⟩
    have hk2 : 0 + k.toNat < l.length := by omega
    rw [if_neg (by simpa using h), if_pos hg, if_pos hk2, Nat.zero_add, ← h3]
    by_cases hm : refsS l k ≥ 1073741824
    · rw [if_pos hm, if_neg (by omega)]
    · rw [if_neg hm, if_pos hg, if_pos (by omega), if_pos hg, if_pos (by omega), if_pos ⟨h, by omega⟩, wi64 (by omega) (by omega)]
  · rw [if_pos (by simpa using h), if_neg (by omega)]
/-- The numbers of those that are above 0. -/
def tk : List Int → Nat → List Int
  | [], _ => []
  | x :: xs, i => if x > 0 then (i : Int) :: tk xs (i + 1) else tk xs (i + 1)
theorem tk_len : ∀ (l : List Int) (i : Nat), (tk l i).length ≤ l.length
  | [], _ => Nat.le_refl _
  | x :: xs, i => by
    have := tk_len xs (i + 1)
    unfold tk
    split <;> simp <;> omega
theorem Taken_l0 (l : List Int) (hl : l.length ≤ 100000) : ∀ (d i n : Nat) (acc : List Int), i + d = l.length → d < n → acc.length ≤ i →
    frames_Frames_Taken.l0 l.length l.length l n acc (i : Int) = some (acc ++ tk (l.drop i) i) := by
  intro d
  induction d with
  | zero =>
    intro i n acc hi hn ha
    obtain ⟨m, rfl⟩ := fuel_step hn
    rw [frames_Frames_Taken.l0, if_neg (by omega), List.drop_eq_nil_of_le (by omega)]
    simp [tk]
  | succ d ih =>
    intro i n acc hi hn ha
    obtain ⟨m, rfl⟩ := fuel_step hn
    have hlt : i < l.length := by omega
    rw [frames_Frames_Taken.l0, if_pos (by omega), if_pos ⟨by omega, by omega⟩, toNat_nat, if_pos (by omega), Nat.zero_add, drop_getD l i 0 hlt, tk, wsucc (by omega)]
    by_cases h : l.getD i 0 > 0
    · rw [if_pos h, if_pos h, if_pos ⟨⟨rfl, rfl⟩, rfl, rfl, by omega, by omega⟩, ih (i + 1) m _ (by omega) (by omega) (by rw [List.length_append]; simp; omega), List.append_assoc]
      rfl
    · rw [if_neg h, if_neg h, ih (i + 1) m _ (by omega) (by omega) (by omega)]
theorem Taken_eq (l : List Int) (n : Nat) (hn : n = l.length) (hl : l.length ≤ 100000) : frames_Frames_Taken.f n n l = some (tk l 0) := by
  subst hn
  unfold frames_Frames_Taken.f
  have := Taken_l0 l hl l.length 0 FUEL [] (by omega) (fuel_gt (by omega)) (by simp)
  have z0 : ((0 : Nat) : Int) = 0 := rfl
  rw [z0, List.drop_zero, List.nil_append] at this
  rw [this, bind_go]
theorem Free_eq (l : List Int) (n : Nat) (hn : n = l.length) (hl : l.length ≤ 100000) : frames_Frames_Free.f n n l = some ((l.length : Int) - ((tk l 0).length : Int)) := by
  unfold frames_Frames_Free.f
  rw [Taken_eq l n hn hl, bind_go]
  have := tk_len l 0
  subst hn
  rw [wi64 (by omega) (by omega)]
theorem New_eq (k : Int) (h : 1 ≤ k) (h2 : k ≤ 1024) : frames_New.f k = some (.inr (k.toNat, k.toNat, List.replicate k.toNat 0)) := by
  unfold frames_New.f
  rw [if_neg (by omega), if_neg (by omega), if_pos ⟨by omega, rfl, by omega, by omega⟩]
theorem sure_t : halterlaw04_sure.f = some true := by
  unfold halterlaw04_sure.f
  rw [New_eq 2 (by omega) (by omega), bind_go]
  dsimp only
  have e0 : (2 : Int).toNat = 2 := rfl
  rw [e0, Alloc_eq _ 2 rfl (by simp), bind_go]
  have e1 : allocS (List.replicate 2 0) = (0, none, [1, 0]) := by decide
  rw [e1]
  dsimp only
  rw [Alloc_eq _ 2 rfl (by simp), bind_go]
  have e2 : allocS [1, 0] = (1, none, [1, 1]) := by decide
  rw [e2]
  dsimp only
  rw [Alloc_eq _ 2 rfl (by simp), bind_go]
  have e3 : allocS [1, 1] = (0, some 12, [1, 1]) := by decide
  rw [e3]
  dsimp only
  rw [Ref_eq _ 2 rfl 1 (by decide), bind_go]
  have e4 : refS [1, 1] 1 = (none, [1, 2]) := by decide
  rw [e4]
  dsimp only
  rw [if_pos rfl, if_pos rfl, if_pos rfl, num_some, bind_go, if_pos rfl, if_pos rfl, if_pos rfl, Refs_eq _ 2 rfl, bind_go, if_pos (by decide), Free_eq _ 2 rfl (by simp), bind_go, if_pos (by decide), Taken_eq _ 2 rfl (by simp), bind_go]
  decide

theorem first_fill (i n : Nat) (h : i < n) : first 0 (List.replicate i 1 ++ List.replicate (n - i) 0) = some i := by
  induction i generalizing n with
  | zero =>
    obtain ⟨m, rfl⟩ : ∃ m, n = m + 1 := ⟨n - 1, by omega⟩
    simp [List.replicate_succ, first]
  | succ i ih =>
    obtain ⟨m, rfl⟩ : ∃ m, n = m + 1 := ⟨n - 1, by omega⟩
    rw [List.replicate_succ, List.cons_append, first, if_neg (by decide), show m + 1 - (i + 1) = m - i by omega, ih m (by omega)]
    rfl
theorem set_fill (i n : Nat) (h : i < n) : (List.replicate i (1 : Int) ++ List.replicate (n - i) 0).set i 1 = List.replicate (i + 1) 1 ++ List.replicate (n - (i + 1)) 0 := by
  obtain ⟨m, hm⟩ : ∃ m, n - i = m + 1 := ⟨n - i - 1, by omega⟩
  have e2 : n - (i + 1) = m := by omega
  have e3 : List.replicate (i + 1) (1 : Int) = List.replicate i 1 ++ [1] := List.replicate_succ'
  rw [hm, e2, e3, List.replicate_succ, List.set_append_right _ _ (by simp)]
  simp
theorem first_full (n : Nat) : first 0 (List.replicate n 1) = none := by
  induction n with
  | zero => rfl
  | succ n ih => rw [List.replicate_succ, first, if_neg (by decide), ih]; rfl
theorem first_hole (l : List Int) (k : Nat) (hk : k < l.length) (h0 : l.getD k 0 = 0) (hj : ∀ j, j < k → l.getD j 0 ≠ 0) : first 0 l = some k := by
  cases hf : first 0 l with
  | none => exact absurd h0 (first_none hf _ (getD_mem l k 0 hk))
  | some m =>
    obtain ⟨h1, h2, h3⟩ := first_some hf
    congr 1
    rcases Nat.lt_trichotomy m k with h | h | h
    · exact absurd h2 (hj m h)
    · exact h
    · exact absurd h0 (h3 k h)
theorem fill_loop (a0 a1 a2 : Int) (N : Nat) (hN : IntKind.wrap .i64 ((2 : Int) + (IntKind.wrap .i64 ((Int.tmod (IntKind.wrap .u64 (a0)) (40 : Int))))) = (N : Int)) (hb : N ≤ 1000) (r : List Int) : ∀ (d i n : Nat), i + d = N → d < n →
    halterlaw04_FramesAgain.l0 (N, N, r) a0 a1 a2 n (List.replicate i 1 ++ List.replicate (N - i) 0) (i : Int) = some (.inl (List.replicate N 1)) := by
  intro d
  induction d with
  | zero =>
    intro i n hi hn
    obtain ⟨m, rfl⟩ := fuel_step hn
    have e : i = N := by omega
    subst e
    rw [halterlaw04_FramesAgain.l0, hN, if_neg (by omega), Nat.sub_self]
    simp
  | succ d ih =>
    intro i n hi hn
    obtain ⟨m, rfl⟩ := fuel_step hn
    have hlen : (List.replicate i (1 : Int) ++ List.replicate (N - i) 0).length = N := by simp; omega
    rw [halterlaw04_FramesAgain.l0, hN, if_pos (by omega)]
    dsimp only
    rw [Alloc_eq _ N hlen.symm (by omega), bind_go]
    unfold allocS
    rw [first_fill i N (by omega)]
    dsimp only
    rw [if_neg (fun h => h rfl), if_neg (fun h => h rfl), wsucc (by omega), set_fill i N (by omega)]
    exact ih (i + 1) m (by omega) (by omega)
theorem getD_rep (n j : Nat) (h : j < n) : (List.replicate n (1 : Int)).getD j 0 = 1 := by
  rw [List.getD_eq_getElem?_getD, List.getElem?_replicate]; simp [h]
theorem FramesAgain (a0 : Int) (a1 : Int) (a2 : Int) (h0 : (Lit.int .i64 a0).wf = true) (h1 : (Lit.int .i64 a1).wf = true) (h2 : (Lit.int .i64 a2).wf = true) : halterlaw04_FramesAgain.f a0 a1 a2 = some true := by
  unfold halterlaw04_FramesAgain.f
  have m0 : 0 ≤ a0 % 18446744073709551616 := by omega
  have m1 : 0 ≤ a1 % 18446744073709551616 := by omega
  have m2 : 0 ≤ a2 % 18446744073709551616 := by omega
  obtain ⟨N, hN, hN2, hN3⟩ : ∃ N : Nat, IntKind.wrap .i64 ((2 : Int) + (IntKind.wrap .i64 ((Int.tmod (IntKind.wrap .u64 (a0)) (40 : Int))))) = (N : Int) ∧ 2 ≤ N ∧ N ≤ 41 := by
    rw [wu64, Int.tmod_eq_emod_of_nonneg m0]
    have hq : 0 ≤ a0 % 18446744073709551616 % 40 ∧ a0 % 18446744073709551616 % 40 < 40 := by omega
    generalize a0 % 18446744073709551616 % 40 = q at hq
    rw [wi64 (x := q) (by omega) (by omega), wi64 (by omega) (by omega)]
    exact ⟨(2 + q).toNat, by omega, by omega, by omega⟩
  have hL : ∀ t : Nat × Nat × List Int, (halterlaw04_FramesAgain.l0 t a0 a1 a2) = halterlaw04_FramesAgain.l0 t a0 a1 a2 := fun _ => rfl
  rw [hN]
  have hu : IntKind.wrap .u64 (N : Int) = N := wu64_id ⟨by omega, by omega⟩
  rw [hu]
  have hx : ∀ a : Int, 0 ≤ a % 18446744073709551616 → ∃ x : Nat, IntKind.wrap .i64 (Int.tmod (IntKind.wrap .u64 a) (N : Int)) = (x : Int) ∧ x < N := by
    intro a ha
    rw [wu64, Int.tmod_eq_emod_of_nonneg ha]
    have h1 := Int.emod_nonneg (a % 18446744073709551616) (show (N : Int) ≠ 0 by omega)
    have h2 := Int.emod_lt_of_pos (a % 18446744073709551616) (show (0 : Int) < N by omega)
    generalize a % 18446744073709551616 % (N : Int) = q at h1 h2
    rw [wi64 (by omega) (by omega)]
    exact ⟨q.toNat, by omega, by omega⟩
  obtain ⟨x, hx1, hx2⟩ := hx a1 m1
  obtain ⟨y, hy1, hy2⟩ := hx a2 m2
  rw [hx1, hy1, New_eq _ (by omega) (by omega), bind_go]
  dsimp only
  rw [toNat_nat]
  have hl := fill_loop a0 a1 a2 N hN (by omega) (List.replicate N 0) N 0 FUEL (by omega) (fuel_gt (by omega))
  rw [List.replicate_zero, List.nil_append, Nat.sub_zero] at hl
  have z0 : ((0 : Nat) : Int) = 0 := rfl
  rw [z0] at hl
  rw [hl, bind_go]
  dsimp only
  have hlen : (List.replicate N (1 : Int)).length = N := by simp
  rw [Alloc_eq _ N hlen.symm (by omega), bind_go]
  have e1 : allocS (List.replicate N 1) = (0, some 12, List.replicate N 1) := by unfold allocS; rw [first_full]
  rw [e1]
  dsimp only
  rw [if_pos (by omega), if_pos (by omega)]
  have er : refsS (List.replicate N 1) (x : Int) = 1 := by
    unfold refsS; rw [if_pos ⟨by omega, by simp; omega⟩, toNat_nat, getD_rep N x hx2]
  rw [Unref_eq _ N hlen.symm _ (by rw [er]; omega), bind_go]
  have eu : unrefS (List.replicate N 1) (x : Int) = (true, none, (List.replicate N 1).set x 0) := by
    unfold unrefS; rw [er, if_pos (by omega), toNat_nat]; rfl
  rw [eu]
  dsimp only
  have hlen2 : ((List.replicate N (1 : Int)).set x 0).length = N := by simp
  have er2 : refsS ((List.replicate N 1).set x 0) (y : Int) = if x = y then 0 else 1 := by
    unfold refsS; rw [if_pos ⟨by omega, by rw [hlen2]; omega⟩, toNat_nat]
    by_cases h : x = y
    · subst h; rw [if_pos rfl, getD_set _ _ _ (by rw [hlen]; exact hx2)]
    · rw [if_neg h, getD_set_ne _ _ _ _ h, getD_rep N y hy2]
  rw [Unref_eq _ N hlen2.symm _ (by rw [er2]; split <;> omega), bind_go, num_some, bind_go, if_neg (fun h => h rfl), if_neg (fun h => h rfl), if_neg (fun h => h rfl)]
  by_cases h : x = y
  · subst h
    have eu2 : unrefS ((List.replicate N 1).set x 0) (x : Int) = (false, some 22, (List.replicate N 1).set x 0) := by
      unfold unrefS; rw [er2, if_pos rfl, if_neg (by omega)]
    rw [eu2]
    dsimp only
    rw [if_neg (by simp), if_neg (by simp), Alloc_eq _ N hlen2.symm (by omega), bind_go]
    have ef : first 0 ((List.replicate N 1).set x 0) = some x := first_hole _ x (by rw [hlen2]; exact hx2) (getD_set _ _ _ (by rw [hlen]; exact hx2)) (fun j hj => by
      rw [getD_set_ne _ _ _ _ (by omega), getD_rep N j (by omega)]; decide)
    unfold allocS
    rw [ef]
    dsimp only
    rw [if_pos rfl, if_pos (by split <;> rfl), sure_t, bind_go]
  · have eu2 : unrefS ((List.replicate N 1).set x 0) (y : Int) = (true, none, ((List.replicate N 1).set x 0).set y 0) := by
      unfold unrefS; rw [er2, if_neg h, if_pos (by omega), toNat_nat]; rfl
    rw [eu2]
    dsimp only
    have hne : ((x : Int) != (y : Int)) = true := by simp; omega
    have hlen3 : (((List.replicate N (1 : Int)).set x 0).set y 0).length = N := by simp
    rw [hne, if_neg (by simp), if_neg (by simp), Alloc_eq _ N hlen3.symm (by omega), bind_go]
    have gy : (((List.replicate N (1 : Int)).set x 0).set y 0).getD y 0 = 0 := getD_set _ _ _ (by rw [hlen2]; exact hy2)
    have gx : (((List.replicate N (1 : Int)).set x 0).set y 0).getD x 0 = 0 := by rw [getD_set_ne _ _ _ _ (fun e => h e.symm), getD_set _ _ _ (by rw [hlen]; exact hx2)]
    have ef : first 0 (((List.replicate N 1).set x 0).set y 0) = some (min x y) := first_hole _ (min x y) (by rw [hlen3]; omega) (by
      rcases Nat.lt_or_ge x y with h1 | h1
      · rw [Nat.min_eq_left (by omega)]; exact gx
      · rw [Nat.min_eq_right (by omega)]; exact gy) (fun j hj => by
      rw [getD_set_ne _ _ _ _ (by omega), getD_set_ne _ _ _ _ (by omega), getD_rep N j (by omega)]; decide)
    unfold allocS
    rw [ef]
    dsimp only
    rw [if_pos rfl, if_pos (by split <;> omega), sure_t, bind_go]

end Go.Proofs.YthoilcjnnifenaaDoor.Pure
