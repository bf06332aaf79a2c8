/- The plain law: what the law computes is true, whatever it is handed. -/
import Derived.Test.YtaiedgjhgkhigaaDoorGImageRuns
import Derived.Test.YtaiedgjhgkhigaaDoorE16
set_option linter.unusedVariables false
set_option linter.unusedSimpArgs false
set_option linter.unnecessarySimpa false
namespace Go.Proofs.YtaiedgjhgkhigaaDoor.Pure
open Go Go.Proofs.YtaiedgjhgkhigaaDoorE Go.Proofs.YtaiedgjhgkhigaaDoorGImageRuns
theorem wu8 (x : Int) : IntKind.wrap .u8 x = x % 256 := by simp [IntKind.wrap, IntKind.bits, IntKind.signed]
theorem wu16 (x : Int) : IntKind.wrap .u16 x = x % 65536 := by simp [IntKind.wrap, IntKind.bits, IntKind.signed]
theorem wu32 (x : Int) : IntKind.wrap .u32 x = x % 4294967296 := by simp [IntKind.wrap, IntKind.bits, IntKind.signed]
theorem wu64 (x : Int) : IntKind.wrap .u64 x = x % 18446744073709551616 := by simp [IntKind.wrap, IntKind.bits, IntKind.signed]
theorem wi64 {x : Int} (h : -9223372036854775808 ≤ x) (h' : x ≤ 9223372036854775807) : IntKind.wrap .i64 x = x := by
  simp [IntKind.wrap, IntKind.bits, IntKind.signed]
  omega
theorem wu8_id {x : Int} (h : 0 ≤ x ∧ x < 256) : IntKind.wrap .u8 x = x := by rw [wu8]; omega
theorem wu32_id {x : Int} (h : 0 ≤ x ∧ x < 4294967296) : IntKind.wrap .u32 x = x := by rw [wu32]; omega
theorem wu64_id {x : Int} (h : 0 ≤ x ∧ x < 18446744073709551616) : IntKind.wrap .u64 x = x := by rw [wu64]; omega
theorem wsucc {i : Nat} (h : i < 9223372036854775807) : IntKind.wrap .i64 ((i : Int) + 1) = ((i + 1 : Nat) : Int) := by rw [wi64 (by omega) (by omega)]; omega
theorem u8_bd {a : Int} (h : (Lit.int .u8 a).wf = true) : 0 ≤ a ∧ a < 256 := by
  simpa [Lit.wf, IntKind.min, IntKind.max, IntKind.signed, IntKind.bits, ← Int.lt_add_one_iff] using h
theorem u32_bd {a : Int} (h : (Lit.int .u32 a).wf = true) : 0 ≤ a ∧ a < 4294967296 := by
  simpa [Lit.wf, IntKind.min, IntKind.max, IntKind.signed, IntKind.bits, ← Int.lt_add_one_iff] using h
theorem u64_bd {a : Int} (h : (Lit.int .u64 a).wf = true) : 0 ≤ a ∧ a < 18446744073709551616 := by
  simpa [Lit.wf, IntKind.min, IntKind.max, IntKind.signed, IntKind.bits, ← Int.lt_add_one_iff] using h
theorem i64_bd {a : Int} (h : (Lit.int .i64 a).wf = true) : -9223372036854775808 ≤ a ∧ a < 9223372036854775808 := by
  simpa [Lit.wf, IntKind.min, IntKind.max, IntKind.signed, IntKind.bits, ← Int.lt_add_one_iff] using h
theorem fuel_gt {n : Nat} (h : n < 18446744073709551616) : n < FUEL := h
theorem bind_go {α β : Type} (a : α) (f : α → Option β) : (some a).bind f = f a := by rw [Option.bind_some]
theorem drop_getD {α : Type} (l : List α) (i : Nat) (d : α) (h : i < l.length) : l.drop i = l.getD i d :: l.drop (i + 1) := by
  rw [List.drop_eq_getElem_cons h, List.getD_eq_getElem?_getD, List.getElem?_eq_getElem h, Option.getD_some]
theorem getD_mem {α : Type} (l : List α) (i : Nat) (d : α) (h : i < l.length) : l.getD i d ∈ l := by
  rw [List.getD_eq_getElem?_getD, List.getElem?_eq_getElem h, Option.getD_some]; exact List.getElem_mem _
theorem toNat_nat (i : Nat) : Int.toNat (i : Int) = i := rfl
/-- A number behind another one: a round of a loop. -/
theorem fuel_step {d n : Nat} (h : d < n) : ∃ m, n = m + 1 := ⟨n - 1, by omega⟩
/-- Where something stands first. -/
def first (v : Int) : List Int → Option Nat
  | [] => none
  | x :: xs => if x = v then some 0 else (first v xs).map (· + 1)
theorem first_none {v : Int} : ∀ {l : List Int}, first v l = none → ∀ z ∈ l, z ≠ v
  | [], _, z, hz => by cases hz
  | x :: xs, h, z, hz => by
    unfold first at h
    split at h
    · cases h
    · rename_i hx
      rcases List.mem_cons.1 hz with rfl | hz
      · exact hx
      · exact first_none (by simpa using h) z hz
theorem first_some {v : Int} : ∀ {l : List Int} {k : Nat}, first v l = some k → k < l.length ∧ l.getD k 0 = v ∧ ∀ j, j < k → l.getD j 0 ≠ v
  | [], _, h => by cases h
  | x :: xs, k, h => by
    unfold first at h
    split at h
    · cases h
      rename_i hx
      exact ⟨by simp, by simpa using hx, fun j hj => by omega⟩
    · rename_i hx
      cases hf : first v xs with
      | none => simp [hf] at h
      | some m =>
        simp [hf] at h
        subst h
        obtain ⟨h1, h2, h3⟩ := first_some hf
        refine ⟨by simp; omega, by simpa using h2, fun j hj => ?_⟩
        cases j with
        | zero => simpa using hx
        | succ j => simpa using h3 j (by omega)

abbrev Sg := Int × (Int × (Int × (List Int)))
abbrev dS : Sg := ((0 : Int), ((0 : Int), ((0 : Int), ([] : List Int))))
def MayS (s : Sg) : Prop := 0 ≤ s.1 ∧ s.1 < s.2.1 ∧ s.2.1 ≤ 4080 ∧ s.2.2.1 ≤ 7 ∧ ((s.2.2.2.length : Nat) : Int) ≤ 65535 ∧ ((s.2.2.2.length : Nat) : Int) ≤ (s.2.1 - s.1) * 256
instance (s : Sg) : Decidable (MayS s) := by unfold MayS; infer_instance
def chk : Int → List Sg → Bool
  | _, [] => true
  | p, s :: r => decide (MayS s) && decide (p ≤ s.1) && chk s.2.1 r
theorem chk_cons (p : Int) (s : Sg) (r : List Sg) : chk p (s :: r) = (decide (MayS s) && decide (p ≤ s.1) && chk s.2.1 r) := rfl
def runsB (e : Int) (s : Sg) : Bool := decide (4 ≤ s.2.2.1 % 8 ∧ s.1 ≤ e / 256 ∧ e / 256 < s.2.1)
def okI (e : Int) (l : List Sg) : Bool := decide (1 ≤ l.length ∧ l.length ≤ 8 ∧ e % 4 = 0) && chk 0 l && l.any (runsB e)
/-- Uses are bytes. -/
def PermB (s : Sg) : Prop := 0 ≤ s.2.2.1 ∧ s.2.2.1 < 256
theorem may_eq (s : Sg) : image_Seg_may.f s.1 s.2.1 s.2.2.1 s.2.2.2 = some (decide (MayS s)) := by
  unfold image_Seg_may.f
  by_cases h1 : s.1 ≥ 0
  · by_cases h2 : s.1 < s.2.1
    · by_cases h3 : s.2.1 ≤ 4080
      · by_cases h4 : s.2.2.1 ≤ 7
        · rw [if_pos h1, if_pos h2, if_pos h3, if_pos h4, wi64 (x := s.2.1 - s.1) (by omega) (by omega), wi64 (by omega) (by omega)]
          congr 1
          refine decide_eq_decide.2 ?_
          unfold MayS
          split <;> omega
        · rw [if_pos h1, if_pos h2, if_pos h3, if_neg h4, decide_eq_false (show ¬ MayS s from fun h => by unfold MayS at h; omega)]
      · rw [if_pos h1, if_pos h2, if_neg h3, decide_eq_false (show ¬ MayS s from fun h => by unfold MayS at h; omega)]
    · rw [if_pos h1, if_neg h2, decide_eq_false (show ¬ MayS s from fun h => by unfold MayS at h; omega)]
  · rw [if_neg h1, decide_eq_false (show ¬ MayS s from fun h => by unfold MayS at h; omega)]
theorem and4 : ∀ n : Fin 256, (bits .and .u8 ((n.val : Nat) : Int) 4 = 0 ↔ n.val % 8 < 4) := by decide +kernel
theorem and4_i {x : Int} (h : 0 ≤ x ∧ x < 256) : (bits .and .u8 x 4 = 0 ↔ x % 8 < 4) := by
  have := and4 ⟨x.toNat, by omega⟩
  simp only at this
  rw [show ((x.toNat : Nat) : Int) = x by omega] at this
  rw [this]
  omega
theorem runs_eq (s : Sg) (hp : PermB s) (e : Int) (he : 0 ≤ e ∧ e < 4294967296) : image_Seg_runs.f s.1 s.2.1 s.2.2.1 s.2.2.2 e = some (runsB e s) := by
  unfold image_Seg_runs.f runsB
  have hd : Int.tdiv e 256 = e / 256 := Int.tdiv_eq_ediv_of_nonneg he.1
  have hw : IntKind.wrap .i64 (IntKind.wrap .u32 (Int.tdiv e 256)) = e / 256 := by rw [hd, wu32_id (by omega), wi64 (by omega) (by omega)]
  rw [hw]
  have h4 := and4_i hp
  by_cases h1 : bits .and .u8 s.2.2.1 4 = 0
  · rw [if_neg (by simpa using h1), decide_eq_false]
    have := h4.1 h1
    omega
  · have h8 : ¬ s.2.2.1 % 8 < 4 := fun h => h1 (h4.2 h)
    rw [if_pos h1]
    by_cases h2 : e / 256 ≥ s.1
    · rw [if_pos h2]
      congr 1
      rw [decide_eq_decide]
      omega
    · rw [if_neg h2, decide_eq_false (by omega)]
theorem index_loop (l : List Sg) (hl : ∀ s ∈ l, PermB s) (hn : l.length ≤ 9223372036854775807) (e : Int) (he : 0 ≤ e ∧ e < 4294967296) (z : List Sg) : ∀ (d n k : Nat), l.length - k = d → d < n → k ≤ l.length → ∃ r : Unit ⊕ Int, slices_IndexFunc_image_Seg_image_Seg.l0 l e z n (k : Int) = some r ∧ (match r with | .inl _ => (l.drop k).any (runsB e) = false | .inr j => (l.drop k).any (runsB e) = true ∧ 0 ≤ j) := by
  intro d
  induction d with
  | zero =>
    intro n k hk hd hle
    obtain ⟨n, rfl⟩ := fuel_step hd
    have : k = l.length := by omega
    subst this
    unfold slices_IndexFunc_image_Seg_image_Seg.l0
    rw [if_neg (by omega)]
    exact ⟨_, rfl, by rw [List.drop_length, List.any_nil]⟩
  | succ d ih =>
    intro n k hk hd hle
    obtain ⟨n, rfl⟩ := fuel_step hd
    unfold slices_IndexFunc_image_Seg_image_Seg.l0
    have hr : image_Check_1.f (List.getD l (Int.toNat (k : Int)) dS).1 (List.getD l (Int.toNat (k : Int)) dS).2.1 (List.getD l (Int.toNat (k : Int)) dS).2.2.1 (List.getD l (Int.toNat (k : Int)) dS).2.2.2 e z = some (runsB e (l.getD k dS)) := by
      unfold image_Check_1.f
      rw [toNat_nat, runs_eq _ (hl _ (getD_mem l k dS (by omega))) e he, bind_go]
    rw [if_pos (by omega), if_pos ⟨by omega, by omega⟩, hr, bind_go, drop_getD l k dS (by omega), List.any_cons, wsucc (by omega)]
    obtain ⟨r, h1, h2⟩ := ih n (k + 1) (by omega) (by omega) (by omega)
    cases hb : runsB e (l.getD k dS)
    · rw [if_neg (by simp)]
      refine ⟨r, h1, ?_⟩
      cases r with
      | inl u => simpa using h2
      | inr j => simpa using h2
    · rw [if_pos rfl]
      exact ⟨_, rfl, by simp⟩
theorem contains_eq (l : List Sg) (hl : ∀ s ∈ l, PermB s) (hn : l.length ≤ 9223372036854775807) (e : Int) (he : 0 ≤ e ∧ e < 4294967296) (z : List Sg) : slices_ContainsFunc_image_Seg_image_Seg.f l e z = some (l.any (runsB e)) := by
  obtain ⟨r, h, h2⟩ := index_loop l hl hn e he z _ FUEL 0 rfl (fuel_gt (by omega)) (by omega)
  rw [List.drop_zero] at h2
  have h : slices_IndexFunc_image_Seg_image_Seg.l0 l e z FUEL (0 : Int) = _ := h
  unfold slices_ContainsFunc_image_Seg_image_Seg.f slices_IndexFunc_image_Seg_image_Seg.f
  rw [h, bind_go]
  cases r with
  | inl u =>
    simp only at h2
    rw [h2]; rfl
  | inr j =>
    simp only at h2
    rw [h2.1]
    simp [h2.2]
def prevT (l : List Sg) : Nat → Int
  | 0 => 0
  | j + 1 => (l.getD j dS).2.1
theorem check_loop (e : Int) (l : List Sg) (hn : l.length ≤ 8) : ∀ (d n k : Nat), l.length - k = d → d < n → k ≤ l.length → image_Check.l0 e l n (k : Int) = some (if chk (prevT l k) (l.drop k) then .inl () else .inr ()) := by
  intro d
  induction d with
  | zero =>
    intro n k hk hd hle
    obtain ⟨n, rfl⟩ := fuel_step hd
    have : k = l.length := by omega
    subst this
    unfold image_Check.l0
    rw [if_neg (by omega), List.drop_length]
    rfl
  | succ d ih =>
    intro n k hk hd hle
    obtain ⟨n, rfl⟩ := fuel_step hd
    unfold image_Check.l0
    have hm := may_eq (l.getD k dS)
    have hs := ih n (k + 1) (by omega) (by omega) (by omega)
    rw [← wsucc (by omega)] at hs
    rw [if_pos (by omega), if_pos ⟨by omega, by omega⟩, toNat_nat, hm, bind_go, drop_getD l k dS (by omega), hs, chk_cons]
    by_cases h1 : MayS (l.getD k dS)
    · rw [decide_eq_true h1, if_neg (by simp)]
      simp only [Bool.true_and]
      cases k with
      | zero =>
        rw [if_neg (by simp)]
        have : (0 : Int) ≤ (l.getD 0 dS).1 := h1.1
        rw [show prevT l 0 = 0 from rfl, decide_eq_true this]
        rfl
      | succ j =>
        rw [if_pos (by omega)]
        have hj : IntKind.wrap .i64 (((j + 1 : Nat) : Int) - 1) = (j : Int) := by rw [wi64 (by omega) (by omega)]; omega
        rw [hj, if_pos ⟨by omega, by omega⟩, toNat_nat]
        by_cases h2 : (l.getD j dS).2.1 > (l.getD (j + 1) dS).1
        · rw [if_pos h2, show prevT l (j + 1) = (l.getD j dS).2.1 from rfl, decide_eq_false (by omega)]
          rfl
        · rw [if_neg h2, show prevT l (j + 1) = (l.getD j dS).2.1 from rfl, decide_eq_true (show (l.getD j dS).2.1 ≤ (l.getD (j + 1) dS).1 by omega)]
          rfl
    · rw [decide_eq_false h1, if_pos (by simp)]
      rfl
theorem check_eq (e : Int) (he : 0 ≤ e ∧ e < 4294967296) (l : List Sg) (hl : ∀ s ∈ l, PermB s) (hn : l.length ≤ 9223372036854775807) : image_Check.f e l = some (if okI e l then none else some 8) := by
  unfold image_Check.f okI
  have hm : Int.tmod e 4 = e % 4 := Int.tmod_eq_emod_of_nonneg he.1
  rw [hm]
  by_cases h1 : ((l.length : Nat) : Int) < 1
  · rw [if_pos h1, decide_eq_false (by omega)]; rfl
  by_cases h2 : ((l.length : Nat) : Int) > 8
  · rw [if_neg h1, if_pos h2, decide_eq_false (by omega)]; rfl
  by_cases h3 : e % 4 = 0
  · rw [if_neg h1, if_neg h2, if_neg (by simpa using h3), decide_eq_true (by omega)]
    have h := check_loop e l (by omega) _ FUEL 0 rfl (fuel_gt (by omega)) (by omega)
    have h : image_Check.l0 e l FUEL (0 : Int) = _ := h
    rw [h, bind_go, List.drop_zero, show prevT l 0 = 0 from rfl]
    cases chk 0 l
    · rfl
    · simp only [if_true, Bool.true_and]
      rw [contains_eq l hl hn e he l, bind_go]
      cases l.any (runsB e) <;> rfl
  · rw [if_neg h1, if_neg h2, if_pos h3, decide_eq_false (by omega)]; rfl
theorem chk_may : ∀ (l : List Sg) (p : Int), chk p l = true → ∀ s ∈ l, MayS s
  | [], _, _, s, hs => (List.not_mem_nil hs).elim
  | a :: l, p, h, s, hs => by
    unfold chk at h
    simp only [Bool.and_eq_true, decide_eq_true_eq] at h
    rcases List.mem_cons.1 hs with rfl | hs
    · exact h.1.1
    · exact chk_may l _ h.2 s hs
theorem okI_parts {e : Int} {l : List Sg} (h : okI e l = true) : 1 ≤ l.length ∧ l.length ≤ 8 ∧ e % 4 = 0 ∧ chk 0 l = true ∧ l.any (runsB e) = true := by
  unfold okI at h
  simp only [Bool.and_eq_true, decide_eq_true_eq] at h
  exact ⟨h.1.1.1, h.1.1.2.1, h.1.1.2.2, h.1.2, h.2⟩
theorem encode_bad (e : Int) (he : 0 ≤ e ∧ e < 4294967296) (l : List Sg) (hl : ∀ s ∈ l, PermB s) (hn : l.length ≤ 9223372036854775807) (h : okI e l = false) : image_Encode.f e l = some ([], some 8) := by
  unfold image_Encode.f
  rw [check_eq e he l hl hn, h, bind_go]
  rfl
theorem sure_ok : halterlaw21_sure.f = some true := by kernel_rfl
theorem give_loop (e : Int) (l : List Sg) (hn : l.length * 48 ≤ 140737488351232) : ∀ (d n k : Nat), l.length - k = d → d < n → k ≤ l.length → halterlaw21_giveImage.l0 e l n (l.take k) (k : Int) = some l := by
  intro d
  induction d with
  | zero =>
    intro n k hk hd hle
    obtain ⟨n, rfl⟩ := fuel_step hd
    have : k = l.length := by omega
    subst this
    unfold halterlaw21_giveImage.l0
    rw [if_neg (by omega), List.take_length]
  | succ d ih =>
    intro n k hk hd hle
    obtain ⟨n, rfl⟩ := fuel_step hd
    unfold halterlaw21_giveImage.l0
    have hs := ih n (k + 1) (by omega) (by omega) (by omega)
    rw [← wsucc (by omega)] at hs
    have ht : l.take k ++ List.take 1 [((l.getD k dS).1, ((l.getD k dS).2.1, ((l.getD k dS).2.2.1, (l.getD k dS).2.2.2)))] = l.take (k + 1) := by
      rw [List.take_succ_eq_append_getElem (show k < l.length by omega), List.getD_eq_getElem?_getD, List.getElem?_eq_getElem (show k < l.length by omega)]
      rfl
    rw [if_pos (by omega), if_pos ⟨by omega, by omega⟩, toNat_nat, ht]
    rw [if_pos]
    · exact hs
    · refine ⟨by omega, rfl, rfl, ?_⟩
      simp only [List.length_take, List.length_cons, List.length_nil]
      omega
theorem give_eq (e : Int) (l : List Sg) (hn : l.length * 48 ≤ 140737488351232) : halterlaw21_giveImage.f e l = some (e, l) := by
  unfold halterlaw21_giveImage.f
  have h := give_loop e l hn _ FUEL 0 rfl (fuel_gt (by omega)) (by omega)
  have h : halterlaw21_giveImage.l0 e l FUEL [] (0 : Int) = _ := h
  rw [h]
  rfl

theorem runs_loop (t1 t7 : Int × List Sg) (a0 : Int) (a1 : List Sg) (l : List Sg) (ht : t7.2 = l) (hl : ∀ s ∈ l, PermB s) (hn : l.length ≤ 8) : ∀ (d n k : Nat) (y : List Sg), l.length - k = d → d < n → k ≤ l.length → y.length = l.length → (∀ j, j < l.length → y.getD j dS = if j < k then ((l.getD j dS).1, (l.getD j dS).2.1, (l.getD j dS).2.2.1 % 4, (l.getD j dS).2.2.2) else l.getD j dS) →
    halterlaw21_ImageRuns.l1 t1 t7 a0 a1 n y (k : Int) = some (l.map fun s => (s.1, s.2.1, s.2.2.1 % 4, s.2.2.2)) := by
  intro d
  induction d with
  | zero =>
    intro n k y hk hd hle hy hj
    obtain ⟨n, rfl⟩ := fuel_step hd
    have : k = l.length := by omega
    subst this
    unfold halterlaw21_ImageRuns.l1
    rw [ht, if_neg (by omega)]
    congr 1
    apply List.ext_getElem (by simp [hy])
    intro i h1 h2
    have h3 : i < l.length := by omega
    have := hj i h3
    rw [if_pos h3, List.getD_eq_getElem?_getD, List.getElem?_eq_getElem h1, Option.getD_some, List.getD_eq_getElem?_getD, List.getElem?_eq_getElem h3, Option.getD_some] at this
    rw [this, List.getElem_map]
  | succ d ih =>
    intro n k y hk hd hle hy hj
    obtain ⟨n, rfl⟩ := fuel_step hd
    unfold halterlaw21_ImageRuns.l1
    rw [ht, if_pos (by omega), if_pos ⟨by omega, by omega⟩, toNat_nat, Nat.zero_add, if_pos (by omega), if_pos ⟨by omega, by omega⟩, if_pos (by omega), wsucc (by omega)]
    refine ih n (k + 1) _ (by omega) (by omega) (by omega) (by rw [List.length_set]; exact hy) ?_
    intro j hjl
    have hp := hl _ (getD_mem l k dS (by omega))
    have hk2 := hj k (by omega)
    rw [if_neg (by omega)] at hk2
    rw [List.getD_eq_getElem?_getD, List.getElem?_set]
    by_cases e : k = j
    · subst e
      rw [if_pos rfl, if_pos (by omega), Option.getD_some, if_pos (by omega), hk2, Int.tmod_eq_emod_of_nonneg hp.1]
    · rw [if_neg e, ← List.getD_eq_getElem?_getD, hj j hjl]
      by_cases h : j < k
      · rw [if_pos h, if_pos (by omega)]
      · rw [if_neg h, if_neg (by omega)]
theorem runs_end {e : Int} {y : List Sg} (he : 0 ≤ e ∧ e < 4294967296) (hl : ∀ s ∈ y, PermB s) (hn : y.length ≤ 8) {m : Nat} (hm : m = y.length) (h : okI e y = false) :
    (if 0 + m ≤ y.length then
        (image_Encode.f e (List.take m y)).bind fun t76 =>
        (num.f t76.2).bind fun t77 =>
        if t77 = (8 : Int) then
          if 0 + m ≤ y.length then
            (image_Check.f e (List.take m y)).bind fun t79 =>
            if ¬ (t79 = none) then
              halterlaw21_sure.f.bind fun t81 =>
              some t81
            else
              some false
          else none
        else
          some false
      else none) = some true := by
  subst hm
  rw [List.take_length, if_pos (by omega), encode_bad e he y hl (by omega) h, bind_go]
  unfold num.f
  rw [bind_go, if_pos (show (some (8 : Int)).getD 0 = 8 from rfl), if_pos (by omega), check_eq e he y hl (by omega), h, bind_go, if_pos (by simp), sure_ok]
  rfl
theorem ImageRuns (a0 : Int) (a1 : (List (Int × (Int × (Int × (List Int)))))) (a2 : Int) (h0 : (Lit.int .u32 a0).wf = true) (h1 : List.length a1 * 48 ≤ reachBytes) (h2 : ∀ z : (Int × (Int × (Int × (List Int)))), z ∈ a1 → goodT (.pair (.int .i64) (.pair (.int .i64) (.pair (.int .u8) (.sl (.int .u8))))) z) (h3 : (Lit.int .i64 a2).wf = true) : halterlaw21_ImageRuns.f a0 a1 a2 = some true := by
  have e0 := u32_bd h0
  have hP : ∀ s ∈ a1, PermB s := fun s hs => by
    have := h2 s hs
    exact u8_bd this.2.2.1
  have h48 : a1.length * 48 ≤ 140737488351232 := h1
  unfold halterlaw21_ImageRuns.f
  rw [give_eq a0 a1 h48, bind_go, check_eq a0 e0 a1 hP (by omega), bind_go]
  cases hok : okI a0 a1
  · rw [if_pos (by simp), sure_ok]; rfl
  obtain ⟨p1, p2, p3, p4, p5⟩ := okI_parts hok
  rw [if_neg (by simp), if_neg (by omega), bind_go]
  have hmay := chk_may a1 0 p4
  unfold halterlaw21_ImageRuns.j0
  have hw : ∃ w : Nat, w < 4 ∧ IntKind.wrap .i64 (Int.tmod (IntKind.wrap .u64 a2) 4) = (w : Int) := by
    refine ⟨((a2 % 18446744073709551616) % 4).toNat, by omega, ?_⟩
    rw [wu64, Int.tmod_eq_emod_of_nonneg (by omega), wi64 (by omega) (by omega)]
    omega
  obtain ⟨w, hw4, hw⟩ := hw
  rw [hw]
  by_cases w0 : w = 0
  · subst w0
    have hlo := runs_loop (a0, a1) (a0, a1) a0 a1 a1 rfl hP p2 _ FUEL 0 a1 rfl (fuel_gt (by omega)) (by omega) rfl (fun j _ => by rw [if_neg (by omega)])
    have hlo : halterlaw21_ImageRuns.l1 (a0, a1) (a0, a1) a0 a1 FUEL a1 (0 : Int) = _ := hlo
    rw [if_pos (show ((0 : Nat) : Int) = 0 from rfl)]
    simp only [hlo, Option.bind_some]
    refine runs_end e0 (fun s hs => ?_) (by rw [List.length_map]; exact p2) (by rw [List.length_map]) ?_
    · obtain ⟨z, hz, rfl⟩ := List.mem_map.1 hs
      have := hP z hz
      unfold PermB at this ⊢
      simp only
      omega
    · cases hc : okI a0 (a1.map fun s => (s.1, s.2.1, s.2.2.1 % 4, s.2.2.2)) with
      | false => rfl
      | true =>
        obtain ⟨_, _, _, _, q5⟩ := okI_parts hc
        obtain ⟨s, hs, hr⟩ := List.any_eq_true.1 q5
        obtain ⟨z, hz, rfl⟩ := List.mem_map.1 hs
        unfold runsB at hr
        simp only [decide_eq_true_eq] at hr
        omega
  rw [if_neg (by omega)]
  by_cases w1 : w = 1
  · subst w1
    rw [if_pos (show ((1 : Nat) : Int) = 1 from rfl), bind_go]
    refine runs_end (by rw [wu32]; omega) hP p2 rfl ?_
    cases hc : okI (IntKind.wrap .u32 (a0 + 2)) a1 with
    | false => rfl
    | true =>
      obtain ⟨_, _, q3, _, _⟩ := okI_parts hc
      rw [wu32] at q3
      omega
  rw [if_neg (by omega)]
  by_cases w2 : w = 2
  · subst w2
    have hk : IntKind.wrap .i64 (((a1.length : Nat) : Int) - 1) = ((a1.length - 1 : Nat) : Int) := by rw [wi64 (by omega) (by omega)]; omega
    rw [if_pos (show ((2 : Nat) : Int) = 2 from rfl)]
    simp only [hk, toNat_nat, Nat.zero_add]
    rw [if_pos ⟨by omega, by omega⟩, if_pos (by omega), bind_go]
    have hE := fun h1 h2 h3 h4 => runs_end (e := a0) (y := a1.set (a1.length - 1) ((a1.getD (a1.length - 1) dS).1, (4081, ((a1.getD (a1.length - 1) dS).2.2.1, (a1.getD (a1.length - 1) dS).2.2.2)))) (m := a1.length) e0 h1 h2 h3 h4
    simp only [Nat.zero_add] at hE
    refine hE (fun s hs => ?_) (by rw [List.length_set]; exact p2) (by rw [List.length_set]) ?_
    · rcases List.mem_or_eq_of_mem_set hs with h | rfl
      · exact hP s h
      · have hx := hP _ (getD_mem a1 (a1.length - 1) dS (by omega))
        exact ⟨hx.1, hx.2⟩
    · cases hc : okI a0 (a1.set (a1.length - 1) ((a1.getD (a1.length - 1) dS).1, (4081, ((a1.getD (a1.length - 1) dS).2.2.1, (a1.getD (a1.length - 1) dS).2.2.2)))) with
      | false => rfl
      | true =>
        obtain ⟨_, _, _, q4, _⟩ := okI_parts hc
        have := chk_may _ _ q4 _ (List.mem_set (l := a1) (i := a1.length - 1) (show a1.length - 1 < a1.length by omega) _)
        unfold MayS at this
        simp only at this
        omega
  · rw [if_neg (by omega), bind_go]
    refine runs_end (by omega) hP p2 rfl ?_
    cases hc : okI 1044480 a1 with
    | false => rfl
    | true =>
      obtain ⟨_, _, _, _, q5⟩ := okI_parts hc
      obtain ⟨s, hs, hr⟩ := List.any_eq_true.1 q5
      have := hmay s hs
      unfold runsB at hr
      unfold MayS at this
      simp only [decide_eq_true_eq] at hr
      omega

end Go.Proofs.YtaiedgjhgkhigaaDoor.Pure
