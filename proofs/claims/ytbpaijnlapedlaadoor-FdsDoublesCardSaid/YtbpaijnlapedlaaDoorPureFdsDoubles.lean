/- The plain law: what the law computes is true, whatever it is handed. -/
import Derived.Test.YtbpaijnlapedlaaDoorGFdsDoubles
set_option linter.unusedVariables false
set_option linter.unusedSimpArgs false
set_option linter.unnecessarySimpa false
namespace Go.Proofs.YtbpaijnlapedlaaDoor.Pure
open Go Go.Proofs.YtbpaijnlapedlaaDoorE Go.Proofs.YtbpaijnlapedlaaDoorGFdsDoubles
theorem wu8 (x : Int) : IntKind.wrap .u8 x = x % 256 := by simp [IntKind.wrap, IntKind.bits, IntKind.signed]
theorem wu16 (x : Int) : IntKind.wrap .u16 x = x % 65536 := by simp [IntKind.wrap, IntKind.bits, IntKind.signed]
theorem wu32 (x : Int) : IntKind.wrap .u32 x = x % 4294967296 := by simp [IntKind.wrap, IntKind.bits, IntKind.signed]
theorem wu64 (x : Int) : IntKind.wrap .u64 x = x % 18446744073709551616 := by simp [IntKind.wrap, IntKind.bits, IntKind.signed]
theorem wi64 {x : Int} (h : -9223372036854775808 ≤ x) (h' : x ≤ 9223372036854775807) : IntKind.wrap .i64 x = x := by
  simp [IntKind.wrap, IntKind.bits, IntKind.signed]
  omega
theorem wu8_id {x : Int} (h : 0 ≤ x ∧ x < 256) : IntKind.wrap .u8 x = x := by rw [wu8]; omega
theorem wu32_id {x : Int} (h : 0 ≤ x ∧ x < 4294967296) : IntKind.wrap .u32 x = x := by rw [wu32]; omega
theorem wu64_id {x : Int} (h : 0 ≤ x ∧ x < 18446744073709551616) : IntKind.wrap .u64 x = x := by rw [wu64]; omega
theorem wsucc {i : Nat} (h : i < 9223372036854775807) : IntKind.wrap .i64 ((i : Int) + 1) = ((i + 1 : Nat) : Int) := by rw [wi64 (by omega) (by omega)]; omega
theorem u8_bd {a : Int} (h : (Lit.int .u8 a).wf = true) : 0 ≤ a ∧ a < 256 := by
  simpa [Lit.wf, IntKind.min, IntKind.max, IntKind.signed, IntKind.bits, ← Int.lt_add_one_iff] using h
theorem u32_bd {a : Int} (h : (Lit.int .u32 a).wf = true) : 0 ≤ a ∧ a < 4294967296 := by
  simpa [Lit.wf, IntKind.min, IntKind.max, IntKind.signed, IntKind.bits, ← Int.lt_add_one_iff] using h
theorem u64_bd {a : Int} (h : (Lit.int .u64 a).wf = true) : 0 ≤ a ∧ a < 18446744073709551616 := by
  simpa [Lit.wf, IntKind.min, IntKind.max, IntKind.signed, IntKind.bits, ← Int.lt_add_one_iff] using h
theorem i64_bd {a : Int} (h : (Lit.int .i64 a).wf = true) : -9223372036854775808 ≤ a ∧ a < 9223372036854775808 := by
  simpa [Lit.wf, IntKind.min, IntKind.max, IntKind.signed, IntKind.bits, ← Int.lt_add_one_iff] using h
theorem fuel_gt {n : Nat} (h : n < 18446744073709551616) : n < FUEL := h
theorem bind_go {α β : Type} (a : α) (f : α → Option β) : (some a).bind f = f a := by rw [Option.bind_some]
theorem drop_getD {α : Type} (l : List α) (i : Nat) (d : α) (h : i < l.length) : l.drop i = l.getD i d :: l.drop (i + 1) := by
  rw [List.drop_eq_getElem_cons h, List.getD_eq_getElem?_getD, List.getElem?_eq_getElem h, Option.getD_some]
theorem getD_mem {α : Type} (l : List α) (i : Nat) (d : α) (h : i < l.length) : l.getD i d ∈ l := by
  rw [List.getD_eq_getElem?_getD, List.getElem?_eq_getElem h, Option.getD_some]; exact List.getElem_mem _
theorem toNat_nat (i : Nat) : Int.toNat (i : Int) = i := rfl
/-- A number behind another one: a round of a loop. -/
theorem fuel_step {d n : Nat} (h : d < n) : ∃ m, n = m + 1 := ⟨n - 1, by omega⟩
/-- Where something stands first. -/
def first (v : Int) : List Int → Option Nat
  | [] => none
  | x :: xs => if x = v then some 0 else (first v xs).map (· + 1)
theorem first_none {v : Int} : ∀ {l : List Int}, first v l = none → ∀ z ∈ l, z ≠ v
  | [], _, z, hz => by cases hz
  | x :: xs, h, z, hz => by
    unfold first at h
    split at h
    · cases h
    · rename_i hx
      rcases List.mem_cons.1 hz with rfl | hz
      · exact hx
      · exact first_none (by simpa using h) z hz
theorem first_some {v : Int} : ∀ {l : List Int} {k : Nat}, first v l = some k → k < l.length ∧ l.getD k 0 = v ∧ ∀ j, j < k → l.getD j 0 ≠ v
  | [], _, h => by cases h
  | x :: xs, k, h => by
    unfold first at h
    split at h
    · cases h
      rename_i hx
      exact ⟨by simp, by simpa using hx, fun j hj => by omega⟩
    · rename_i hx
      cases hf : first v xs with
      | none => simp [hf] at h
      | some m =>
        simp [hf] at h
        subst h
        obtain ⟨h1, h2, h3⟩ := first_some hf
        refine ⟨by simp; omega, by simpa using h2, fun j hj => ?_⟩
        cases j with
        | zero => simpa using hx
        | succ j => simpa using h3 j (by omega)

theorem sure_eq : halterlaw20_sure.f = some true := by kernel_rfl
def ok1 (z : Int) : Bool := decide (0 ≤ z) && decide (z ≤ 32)
def may (s : List Int) : Bool := s.all ok1
theorem ok1_t {z : Int} (h : ok1 z = true) : 0 ≤ z ∧ z ≤ 32 := by unfold ok1 at h; simpa using h
theorem ok1_i {z : Int} (h : 0 ≤ z ∧ z ≤ 32) : ok1 z = true := by unfold ok1; simp; omega
theorem Check_loop (s : List Int) (hs : s.length = 8) : ∀ (d i n : Nat), 8 - i = d → i ≤ 8 → d < n →
    fds_Check.l0 s n i = some (if may (s.drop i) then .inl () else .inr ()) := by
  intro d
  induction d with
  | zero =>
    intro i n hd hi hn
    obtain ⟨n, rfl⟩ := fuel_step hn
    rw [fds_Check.l0, if_neg (by omega), List.drop_eq_nil_of_le (by omega)]
    rfl
  | succ d ih =>
    intro i n hd hi hn
    obtain ⟨n, rfl⟩ := fuel_step hn
    rw [fds_Check.l0, if_pos (by omega), if_pos (by omega), toNat_nat, wsucc (by omega), ih (i + 1) n (by omega) (by omega) (by omega), drop_getD s i 0 (by omega)]
    generalize s.getD i 0 = z
    unfold may
    rw [List.all_cons]
    by_cases h1 : z < 0
    · rw [if_pos h1, show ok1 z = false by simp [ok1]; omega]; rfl
    · rw [if_neg h1]
      by_cases h2 : z > 32
      · rw [if_pos h2, show ok1 z = false by simp [ok1]; omega]; rfl
      · rw [if_neg h2, show ok1 z = true by simp [ok1]; omega]; rfl
theorem Check_eq {s : List Int} (hs : s.length = 8) : fds_Check.f s = some (if may s then none else some 22) := by
  unfold fds_Check.f
  have := Check_loop s hs 8 0 FUEL rfl (by omega) (fuel_gt (by omega))
  rw [show ((0 : Nat) : Int) = 0 from rfl] at this
  rw [this, bind_go, List.drop_zero]
  cases may s <;> rfl
theorem Index_loop (s : List Int) (v : Int) (hs : s.length ≤ 100) : ∀ (d i n : Nat), s.length - i = d → i ≤ s.length → d < n →
    slices_Index_int_int.l0 s v n i = some (match first v (s.drop i) with | none => .inl () | some k => .inr ((i + k : Nat) : Int)) := by
  intro d
  induction d with
  | zero =>
    intro i n hd hi hn
    obtain ⟨n, rfl⟩ := fuel_step hn
    rw [slices_Index_int_int.l0, if_neg (by omega), List.drop_eq_nil_of_le (by omega)]
    rfl
  | succ d ih =>
    intro i n hd hi hn
    obtain ⟨n, rfl⟩ := fuel_step hn
    rw [slices_Index_int_int.l0, if_pos (by omega), if_pos (by omega), toNat_nat, wsucc (by omega), ih (i + 1) n (by omega) (by omega) (by omega), drop_getD s i 0 (by omega)]
    generalize s.getD i 0 = z
    by_cases h1 : v = z
    · rw [if_pos h1, first, if_pos h1.symm]; rfl
    · rw [if_neg h1, first, if_neg (Ne.symm h1)]
      cases hf : first v (List.drop (i + 1) s) with
      | none => simp
      | some k => simp; omega
theorem Index_eq {s : List Int} (v : Int) (hs : s.length ≤ 100) : slices_Index_int_int.f s v = some (match first v s with | none => -1 | some k => (k : Int)) := by
  unfold slices_Index_int_int.f
  have := Index_loop s v hs s.length 0 FUEL (by omega) (by omega) (fuel_gt (by omega))
  rw [show ((0 : Nat) : Int) = 0 from rfl] at this
  rw [this, bind_go, List.drop_zero]
  cases first v s <;> simp
/-- A file put. -/
def putS (s : List Int) (file : Int) : Int × List Int × Option Int :=
  if may s ∧ 0 ≤ file ∧ file < 32 then (match first 0 s with | none => (0, List.replicate 8 0, some 24) | some k => ((k : Int), s.set k (file + 1), none)) else (0, List.replicate 8 0, some 22)
theorem Put_eq {s : List Int} (file : Int) (hs : s.length = 8) : fds_Put.f s file = some (putS s file) := by
  unfold fds_Put.f putS
  rw [Check_eq hs, bind_go]
  by_cases hm : may s = true
  · rw [hm, if_pos rfl, if_neg (by simp)]
    by_cases h1 : file < 0
    · rw [if_pos h1, if_neg (by omega)]
    rw [if_neg h1]
    by_cases h2 : file ≥ 32
    · rw [if_pos h2, if_neg (by omega)]
    rw [if_neg h2, if_pos ⟨rfl, by omega, by omega⟩, List.take_of_length_le (by omega), Index_eq 0 (by omega), bind_go]
    cases hf : first 0 s with
    | none => rfl
    | some k =>
      have := (first_some hf).1
      dsimp only
      rw [if_neg (by omega), if_pos (by omega), toNat_nat, if_pos (by omega), wi64 (by omega) (by omega)]
  · rw [if_neg hm, if_pos (by simp), if_neg (by simp [hm])]
theorem getD_may {s : List Int} (hm : may s = true) (k : Nat) : 0 ≤ s.getD k 0 ∧ s.getD k 0 ≤ 32 := by
  by_cases h : k < s.length
  · exact ok1_t (List.all_eq_true.1 hm _ (getD_mem s k 0 h))
  · rw [List.getD_eq_getElem?_getD, List.getElem?_eq_none (by omega)]; simp
/-- A number's file. -/
def atS (s : List Int) (fd : Int) : Int × Option Int :=
  if may s then (if 0 ≤ fd ∧ fd < 8 ∧ s.getD fd.toNat 0 ≠ 0 then (s.getD fd.toNat 0 - 1, none) else (0, some 9)) else (0, some 22)
theorem At_eq {s : List Int} (fd : Int) (hs : s.length = 8) : fds_At.f s fd = some (atS s fd) := by
  unfold fds_At.f atS
  rw [Check_eq hs, bind_go]
  by_cases hm : may s = true
  · rw [hm, if_pos rfl, if_neg (by simp), if_pos rfl]
    by_cases h1 : fd < 0
    · rw [if_pos h1, if_neg (by omega)]
    rw [if_neg h1]
    by_cases h2 : fd ≥ 8
    · rw [if_pos h2, if_neg (by omega)]
    rw [if_neg h2, if_pos (by omega), if_pos (by omega)]
    have := getD_may hm fd.toNat
    by_cases h3 : s.getD fd.toNat 0 = 0
    · rw [if_pos h3, if_neg (fun h => h.2.2 h3)]
    · rw [if_neg h3, if_pos (by omega), if_pos (by omega), if_pos ⟨by omega, by omega, h3⟩, wi64 (by omega) (by omega)]
  · rw [if_neg hm, if_pos (by simp), if_neg hm]
def dropS (s : List Int) (fd : Int) : Int × List Int × Option Int := match (atS s fd).2 with
  | some e => (0, List.replicate 8 0, some e)
  | none => ((atS s fd).1, s.set fd.toNat 0, none)
theorem at_none {s : List Int} {fd : Int} (h : (atS s fd).2 = none) : may s = true ∧ 0 ≤ fd ∧ fd < 8 ∧ s.getD fd.toNat 0 ≠ 0 ∧ (atS s fd).1 = s.getD fd.toNat 0 - 1 := by
  unfold atS at h ⊢
  split at h
  · rename_i hm
    split at h
    · rename_i hh
      rw [if_pos hm, if_pos hh]
      exact ⟨hm, hh.1, hh.2.1, hh.2.2, rfl⟩
    · cases h
  · cases h
theorem Drop_eq {s : List Int} (fd : Int) (hs : s.length = 8) : fds_Drop.f s fd = some (dropS s fd) := by
  unfold fds_Drop.f dropS
  rw [At_eq fd hs, bind_go]
  cases he : (atS s fd).2 with
  | some e => rw [if_pos (by simp)]
  | none =>
    obtain ⟨hm, h1, h2, h3, h4⟩ := at_none he
    rw [if_neg (by simp), if_pos (by omega), if_pos (by omega)]
def dupS (s : List Int) (fd : Int) : Int × List Int × Option Int := match (atS s fd).2 with
  | some e => (0, List.replicate 8 0, some e)
  | none => putS s (atS s fd).1
theorem Dup_eq {s : List Int} (fd : Int) (hs : s.length = 8) : fds_Dup.f s fd = some (dupS s fd) := by
  unfold fds_Dup.f dupS
  rw [At_eq fd hs, bind_go]
  cases he : (atS s fd).2 with
  | some e => rw [if_pos (by simp)]
  | none => rw [if_neg (by simp), Put_eq _ hs, bind_go]
/-- All files. -/
def filesS (s : List Int) : List Int := (s.filter (fun z => decide (z > 0))).map (· - 1)
theorem Files_loop (s : List Int) (hs : s.length = 8) (hm : may s = true) : ∀ (d i n : Nat) (acc : List Int), 8 - i = d → i ≤ 8 → d < n → acc.length ≤ i →
    fds_Files.l0 s n acc i = some (acc ++ filesS (s.drop i)) := by
  intro d
  induction d with
  | zero =>
    intro i n acc hd hi hn ha
    obtain ⟨n, rfl⟩ := fuel_step hn
    rw [fds_Files.l0, if_neg (by omega), List.drop_eq_nil_of_le (by omega)]
    simp [filesS]
  | succ d ih =>
    intro i n acc hd hi hn ha
    obtain ⟨n, rfl⟩ := fuel_step hn
    have hb := getD_may hm i
    rw [fds_Files.l0, if_pos (by omega), if_pos (by omega), toNat_nat, wsucc (by omega), drop_getD s i 0 (by omega)]
    generalize s.getD i 0 = z at hb
    rw [wi64 (by omega) (by omega)]
    by_cases h1 : z > 0
    · rw [if_pos h1, if_pos ⟨⟨rfl, rfl⟩, rfl, rfl, by omega, by omega⟩, ih (i + 1) n _ (by omega) (by omega) (by omega) (by simp; omega)]
      unfold filesS
      rw [List.filter_cons_of_pos (by simpa using h1)]
      simp
    · rw [if_neg h1, ih (i + 1) n _ (by omega) (by omega) (by omega) (by omega)]
      unfold filesS
      rw [List.filter_cons_of_neg (by simpa using h1)]
theorem Files_eq {s : List Int} (hs : s.length = 8) : fds_Files.f s = some (if may s then filesS s else []) := by
  unfold fds_Files.f
  rw [Check_eq hs, bind_go]
  by_cases hm : may s = true
  · have := Files_loop s hs hm 8 0 FUEL [] rfl (by omega) (fuel_gt (by omega)) (by simp)
    rw [show ((0 : Nat) : Int) = 0 from rfl] at this
    rw [hm, if_pos rfl, if_neg (by simp), this, bind_go, if_pos rfl]
    simp
  · rw [if_neg hm, if_pos (by simp), if_neg hm]
theorem filesS_len (s : List Int) : (filesS s).length ≤ s.length := by unfold filesS; rw [List.length_map]; exact List.length_filter_le ..
theorem Free_eq {s : List Int} (hs : s.length = 8) : fds_Free.f s = some (if may s then 8 - ((filesS s).length : Int) else 0) := by
  unfold fds_Free.f
  rw [Check_eq hs, bind_go, Files_eq hs]
  have := filesS_len s
  by_cases hm : may s = true
  · rw [hm, if_pos rfl, if_neg (by simp), if_pos rfl, bind_go, wi64 (by omega) (by omega), if_pos rfl]
  · rw [if_neg hm, if_pos (by simp), if_neg hm]

/-- A table that may be, out of any. -/
def nz (z : Int) : Int := z % 18446744073709551616 % 33
theorem nz_eq (z : Int) : IntKind.wrap .i64 (Int.tmod (IntKind.wrap .u64 z) 33) = nz z := by
  rw [wu64, Int.tmod_eq_emod_of_nonneg (by omega), wi64 (by omega) (by omega)]; rfl
theorem nz_ok (z : Int) : ok1 (nz z) = true := by unfold ok1 nz; simp; omega
theorem norm_loop (a1 : Int) : ∀ (d i n : Nat) (x : List Int), 8 - i = d → i ≤ 8 → d < n → x.length = 8 → (x.take i).all ok1 = true →
    ∃ s, halterlaw20_FdsDoubles.l0 a1 n x i = some s ∧ s.length = 8 ∧ may s = true := by
  intro d
  induction d with
  | zero =>
    intro i n x hd hi hn hl hx
    obtain ⟨n, rfl⟩ := fuel_step hn
    rw [halterlaw20_FdsDoubles.l0, if_neg (by omega)]
    rw [List.take_of_length_le (by omega)] at hx
    exact ⟨x, rfl, hl, hx⟩
  | succ d ih =>
    intro i n x hd hi hn hl hx
    obtain ⟨n, rfl⟩ := fuel_step hn
    rw [halterlaw20_FdsDoubles.l0, if_pos (by omega), if_pos (by omega), toNat_nat, if_pos (by omega), if_pos (by omega), if_pos (by omega), wsucc (by omega), nz_eq]
    refine ih (i + 1) n _ (by omega) (by omega) (by omega) (by simpa using hl) ?_
    rw [List.take_add_one, List.all_append, List.take_set_of_le (Nat.le_refl i), hx]
    rw [List.getElem?_set_self (by omega)]
    simp [nz_ok]
theorem norm_eq (a0 : List Int) (a1 : Int) (hl : a0.length = 8) : ∃ s, halterlaw20_FdsDoubles.l0 a1 FUEL a0 0 = some s ∧ s.length = 8 ∧ may s = true :=
  norm_loop a1 8 0 FUEL a0 rfl (by omega) (fuel_gt (by omega)) hl (by simp)
theorem modS (z : Int) (k : Int) (hk : 0 < k) (hk' : k < 1000) : ∃ m, IntKind.wrap .i64 (Int.tmod (IntKind.wrap .u64 z) k) = m ∧ 0 ≤ m ∧ m < k := by
  have h1 := Int.emod_nonneg (z % 18446744073709551616) (show k ≠ 0 by omega)
  have h2 := Int.emod_lt_of_pos (z % 18446744073709551616) hk
  rw [wu64, Int.tmod_eq_emod_of_nonneg (by omega), wi64 (by omega) (by omega)]
  exact ⟨_, rfl, h1, h2⟩
theorem set_may {s : List Int} {k : Nat} {z : Int} (hm : may s = true) (hz : ok1 z = true) : may (s.set k z) = true := by
  unfold may
  rw [List.all_eq_true]
  intro w hw
  rcases List.mem_or_eq_of_mem_set hw with h | h
  · exact List.all_eq_true.1 hm w h
  · rw [h]; exact hz
theorem getD_set (s : List Int) (k j : Nat) (z : Int) (hk : k < s.length) : (s.set k z).getD j 0 = if k = j then z else s.getD j 0 := by
  rw [List.getD_eq_getElem?_getD, List.getElem?_set]
  by_cases h : k = j
  · rw [if_pos h, if_pos h]; simp [hk]
  · rw [if_neg h, if_neg h, List.getD_eq_getElem?_getD]
theorem first_none' {v : Int} : ∀ {l : List Int}, (∀ z ∈ l, z ≠ v) → first v l = none
  | [], _ => rfl
  | x :: xs, h => by rw [first, if_neg (h x (by simp)), first_none' (fun z hz => h z (by simp [hz]))]; rfl
/-- No place: so many files. -/
theorem full_len : ∀ {s : List Int}, may s = true → first 0 s = none → (filesS s).length = s.length
  | [], _, _ => rfl
  | x :: xs, hm, h => by
    have h0 := first_none h x (by simp)
    have hm' : may xs = true := by unfold may at hm ⊢; rw [List.all_cons] at hm; simp at hm; simpa using hm.2
    have hx := ok1_t (List.all_eq_true.1 hm x (by simp))
    have h' : first 0 xs = none := first_none' fun z hz => first_none h z (by simp [hz])
    have := full_len hm' h'
    unfold filesS at this ⊢
    rw [List.filter_cons_of_pos (by simp; omega)]
    simpa using this

theorem filesS_set : ∀ {s : List Int} {k : Nat} {n : Int}, first 0 s = some k → 0 ≤ n → (filesS (s.set k (n + 1))).length = (filesS s).length + 1
  | [], _, _, h, _ => by cases h
  | x :: xs, k, n, h, hn => by
    unfold first at h
    by_cases hx : x = 0
    · rw [if_pos hx] at h
      cases h
      unfold filesS
      rw [List.set_cons_zero, List.filter_cons_of_pos (by simp; omega), List.filter_cons_of_neg (by simp; omega)]
      simp
    · rw [if_neg hx] at h
      cases hf : first 0 xs with
      | none => simp [hf] at h
      | some m =>
        simp [hf] at h
        subst h
        have := filesS_set hf hn
        unfold filesS at this ⊢
        rw [List.set_cons_succ]
        by_cases hp : x > 0
        · rw [List.filter_cons_of_pos (by simpa using hp), List.filter_cons_of_pos (by simpa using hp)]
          simp at this ⊢
          omega
        · rw [List.filter_cons_of_neg (by simpa using hp), List.filter_cons_of_neg (by simpa using hp)]
          exact this
theorem at_get {s : List Int} (hm : may s = true) {k : Nat} (hk : k < 8) : atS s k = if s.getD k 0 ≠ 0 then (s.getD k 0 - 1, none) else (0, some 9) := by
  unfold atS
  rw [if_pos hm, toNat_nat]
  by_cases h : s.getD k 0 ≠ 0
  · rw [if_pos ⟨by omega, by omega, h⟩, if_pos h]
  · rw [if_neg (fun hh => h hh.2.2), if_neg h]
theorem FdsDoubles (a0 : (List Int)) (a1 : Int) (h0 : List.length a0 = 8) (h1 : ∀ z ∈ a0, (Lit.int .i64 z).wf = true) (h2 : (Lit.int .i64 a1).wf = true) : halterlaw20_FdsDoubles.f a0 a1 = some true := by
  unfold halterlaw20_FdsDoubles.f
  obtain ⟨s, e1, hs, hm⟩ := norm_eq a0 a1 h0
  obtain ⟨k, e2, hk1, hk2⟩ := modS a1 8 (by omega) (by omega)
  obtain ⟨k, rfl⟩ := Int.eq_ofNat_of_zero_le hk1
  rw [e1, bind_go, e2, At_eq _ hs, bind_go, Dup_eq _ hs, bind_go]
  have eA := at_get hm (show k < 8 by omega)
  have hb := getD_may hm k
  unfold num.f
  by_cases h0 : s.getD k 0 = 0
  · rw [if_neg (by simpa using h0)] at eA
    unfold dupS
    rw [eA]
    dsimp only
    rw [if_pos (by simp), bind_go, if_pos (by simp), bind_go, if_pos (by simp), sure_eq, bind_go]
  rw [if_pos h0] at eA
  have eD : dupS s k = putS s (s.getD k 0 - 1) := by unfold dupS; rw [eA]
  rw [eD, eA, if_neg (by simp)]
  have eP : putS s (s.getD k 0 - 1) = (match first 0 s with | none => (0, List.replicate 8 0, some 24) | some j => ((j : Int), s.set j (s.getD k 0 - 1 + 1), none)) := by unfold putS; rw [if_pos ⟨hm, by omega, by omega⟩]
  rw [eP]
  cases hf : first 0 s with
  | none =>
    have := full_len hm hf
    rw [if_pos (by simp), bind_go, if_pos (by simp), Free_eq hs, bind_go, if_pos hm, this, if_pos (by omega), sure_eq, bind_go]
  | some j =>
    obtain ⟨hj1, hj2, hj3⟩ := first_some hf
    have hn : s.getD k 0 - 1 + 1 = s.getD k 0 := by omega
    have hm2 : may (s.set j (s.getD k 0)) = true := set_may hm (ok1_i hb)
    have hl2 : (s.set j (s.getD k 0)).length = 8 := by simpa using hs
    have hjk : ¬ j = k := fun e => h0 (by rw [← e]; exact hj2)
    have eF := filesS_set (s := s) (n := s.getD k 0 - 1) hf (by omega)
    have hFl := filesS_len s
    have hF2 := filesS_len (s.set j (s.getD k 0))
    rw [hn] at eF
    have eB : atS (s.set j (s.getD k 0)) j = (s.getD k 0 - 1, none) := by
      rw [at_get hm2 (by omega), getD_set _ _ _ _ hj1, if_pos rfl, if_pos h0]
    have eC : atS (s.set j (s.getD k 0)) k = (s.getD k 0 - 1, none) := by
      rw [at_get hm2 (by omega), getD_set _ _ _ _ hj1, if_neg hjk, if_pos h0]
    rw [if_neg (by simp)]
    dsimp only
    rw [hn, At_eq _ hl2, bind_go, Drop_eq _ hl2, bind_go]
    have eR : dropS (s.set j (s.getD k 0)) k = (s.getD k 0 - 1, (s.set j (s.getD k 0)).set k 0, none) := by unfold dropS; rw [eC]; rfl
    have hm3 : may ((s.set j (s.getD k 0)).set k 0) = true := set_may hm2 rfl
    have hl3 : ((s.set j (s.getD k 0)).set k 0).length = 8 := by simpa using hs
    have eE : atS ((s.set j (s.getD k 0)).set k 0) j = (s.getD k 0 - 1, none) := by
      rw [at_get hm3 (by omega), getD_set _ _ _ _ (by omega), if_neg (Ne.symm hjk), getD_set _ _ _ _ hj1, if_pos rfl, if_pos h0]
    rw [eR]
    dsimp only
    rw [At_eq _ hl3, bind_go, eB, eE]
    dsimp only
    rw [if_pos rfl, if_pos rfl, if_pos rfl, if_pos (by omega), if_pos rfl, if_pos rfl, Free_eq hl2, bind_go, Free_eq hs, bind_go, if_pos hm2, if_pos hm, eF, wi64 (by omega) (by omega), if_pos (by omega), Files_eq hl2, bind_go, Files_eq hs, bind_go, if_pos hm2, if_pos hm, eF, wi64 (by omega) (by omega), if_pos (by omega), sure_eq, bind_go]

end Go.Proofs.YtbpaijnlapedlaaDoor.Pure
