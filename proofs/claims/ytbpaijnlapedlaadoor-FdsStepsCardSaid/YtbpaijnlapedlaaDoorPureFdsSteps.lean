/- The plain law: what the law computes is true, whatever it is handed. -/
import Derived.Test.YtbpaijnlapedlaaDoorGFdsSteps
set_option linter.unusedVariables false
set_option linter.unusedSimpArgs false
set_option linter.unnecessarySimpa false
namespace Go.Proofs.YtbpaijnlapedlaaDoor.Pure
open Go Go.Proofs.YtbpaijnlapedlaaDoorE Go.Proofs.YtbpaijnlapedlaaDoorGFdsSteps
theorem wu8 (x : Int) : IntKind.wrap .u8 x = x % 256 := by simp [IntKind.wrap, IntKind.bits, IntKind.signed]
theorem wu16 (x : Int) : IntKind.wrap .u16 x = x % 65536 := by simp [IntKind.wrap, IntKind.bits, IntKind.signed]
theorem wu32 (x : Int) : IntKind.wrap .u32 x = x % 4294967296 := by simp [IntKind.wrap, IntKind.bits, IntKind.signed]
theorem wu64 (x : Int) : IntKind.wrap .u64 x = x % 18446744073709551616 := by simp [IntKind.wrap, IntKind.bits, IntKind.signed]
theorem wi64 {x : Int} (h : -9223372036854775808 ≤ x) (h' : x ≤ 9223372036854775807) : IntKind.wrap .i64 x = x := by
  simp [IntKind.wrap, IntKind.bits, IntKind.signed]
  omega
theorem wu8_id {x : Int} (h : 0 ≤ x ∧ x < 256) : IntKind.wrap .u8 x = x := by rw [wu8]; omega
theorem wu32_id {x : Int} (h : 0 ≤ x ∧ x < 4294967296) : IntKind.wrap .u32 x = x := by rw [wu32]; omega
theorem wu64_id {x : Int} (h : 0 ≤ x ∧ x < 18446744073709551616) : IntKind.wrap .u64 x = x := by rw [wu64]; omega
theorem wsucc {i : Nat} (h : i < 9223372036854775807) : IntKind.wrap .i64 ((i : Int) + 1) = ((i + 1 : Nat) : Int) := by rw [wi64 (by omega) (by omega)]; omega
theorem u8_bd {a : Int} (h : (Lit.int .u8 a).wf = true) : 0 ≤ a ∧ a < 256 := by
  simpa [Lit.wf, IntKind.min, IntKind.max, IntKind.signed, IntKind.bits, ← Int.lt_add_one_iff] using h
theorem u32_bd {a : Int} (h : (Lit.int .u32 a).wf = true) : 0 ≤ a ∧ a < 4294967296 := by
  simpa [Lit.wf, IntKind.min, IntKind.max, IntKind.signed, IntKind.bits, ← Int.lt_add_one_iff] using h
theorem u64_bd {a : Int} (h : (Lit.int .u64 a).wf = true) : 0 ≤ a ∧ a < 18446744073709551616 := by
  simpa [Lit.wf, IntKind.min, IntKind.max, IntKind.signed, IntKind.bits, ← Int.lt_add_one_iff] using h
theorem i64_bd {a : Int} (h : (Lit.int .i64 a).wf = true) : -9223372036854775808 ≤ a ∧ a < 9223372036854775808 := by
  simpa [Lit.wf, IntKind.min, IntKind.max, IntKind.signed, IntKind.bits, ← Int.lt_add_one_iff] using h
theorem fuel_gt {n : Nat} (h : n < 18446744073709551616) : n < FUEL := h
theorem bind_go {α β : Type} (a : α) (f : α → Option β) : (some a).bind f = f a := by rw [Option.bind_some]
theorem drop_getD {α : Type} (l : List α) (i : Nat) (d : α) (h : i < l.length) : l.drop i = l.getD i d :: l.drop (i + 1) := by
  rw [List.drop_eq_getElem_cons h, List.getD_eq_getElem?_getD, List.getElem?_eq_getElem h, Option.getD_some]
theorem getD_mem {α : Type} (l : List α) (i : Nat) (d : α) (h : i < l.length) : l.getD i d ∈ l := by
  rw [List.getD_eq_getElem?_getD, List.getElem?_eq_getElem h, Option.getD_some]; exact List.getElem_mem _
theorem toNat_nat (i : Nat) : Int.toNat (i : Int) = i := rfl
/-- A number behind another one: a round of a loop. -/
theorem fuel_step {d n : Nat} (h : d < n) : ∃ m, n = m + 1 := ⟨n - 1, by omega⟩
/-- Where something stands first. -/
def first (v : Int) : List Int → Option Nat
  | [] => none
  | x :: xs => if x = v then some 0 else (first v xs).map (· + 1)
theorem first_none {v : Int} : ∀ {l : List Int}, first v l = none → ∀ z ∈ l, z ≠ v
  | [], _, z, hz => by cases hz
  | x :: xs, h, z, hz => by
    unfold first at h
    split at h
    · cases h
    · rename_i hx
      rcases List.mem_cons.1 hz with rfl | hz
      · exact hx
      · exact first_none (by simpa using h) z hz
theorem first_some {v : Int} : ∀ {l : List Int} {k : Nat}, first v l = some k → k < l.length ∧ l.getD k 0 = v ∧ ∀ j, j < k → l.getD j 0 ≠ v
  | [], _, h => by cases h
  | x :: xs, k, h => by
    unfold first at h
    split at h
    · cases h
      rename_i hx
      exact ⟨by simp, by simpa using hx, fun j hj => by omega⟩
    · rename_i hx
      cases hf : first v xs with
      | none => simp [hf] at h
      | some m =>
        simp [hf] at h
        subst h
        obtain ⟨h1, h2, h3⟩ := first_some hf
        refine ⟨by simp; omega, by simpa using h2, fun j hj => ?_⟩
        cases j with
        | zero => simpa using hx
        | succ j => simpa using h3 j (by omega)

theorem sure_eq : halterlaw20_sure.f = some true := by kernel_rfl
def ok1 (z : Int) : Bool := decide (0 ≤ z) && decide (z ≤ 32)
def may (s : List Int) : Bool := s.all ok1
theorem ok1_t {z : Int} (h : ok1 z = true) : 0 ≤ z ∧ z ≤ 32 := by unfold ok1 at h; simpa using h
theorem Check_loop (s : List Int) (hs : s.length = 8) : ∀ (d i n : Nat), 8 - i = d → i ≤ 8 → d < n →
    fds_Check.l0 s n i = some (if may (s.drop i) then .inl () else .inr ()) := by
  intro d
  induction d with
  | zero =>
    intro i n hd hi hn
    obtain ⟨n, rfl⟩ := fuel_step hn
    rw [fds_Check.l0, if_neg (by omega), List.drop_eq_nil_of_le (by omega)]
    rfl
  | succ d ih =>
    intro i n hd hi hn
    obtain ⟨n, rfl⟩ := fuel_step hn
    rw [fds_Check.l0, if_pos (by omega), if_pos (by omega), toNat_nat, wsucc (by omega), ih (i + 1) n (by omega) (by omega) (by omega), drop_getD s i 0 (by omega)]
    generalize s.getD i 0 = z
    unfold may
    rw [List.all_cons]
    by_cases h1 : z < 0
    · rw [if_pos h1, show ok1 z = false by simp [ok1]; omega]; rfl
    · rw [if_neg h1]
      by_cases h2 : z > 32
      · rw [if_pos h2, show ok1 z = false by simp [ok1]; omega]; rfl
      · rw [if_neg h2, show ok1 z = true by simp [ok1]; omega]; rfl
theorem Check_eq {s : List Int} (hs : s.length = 8) : fds_Check.f s = some (if may s then none else some 22) := by
  unfold fds_Check.f
  have := Check_loop s hs 8 0 FUEL rfl (by omega) (fuel_gt (by omega))
  rw [show ((0 : Nat) : Int) = 0 from rfl] at this
  rw [this, bind_go, List.drop_zero]
  cases may s <;> rfl
theorem Index_loop (s : List Int) (v : Int) (hs : s.length ≤ 100) : ∀ (d i n : Nat), s.length - i = d → i ≤ s.length → d < n →
    slices_Index_int_int.l0 s v n i = some (match first v (s.drop i) with | none => .inl () | some k => .inr ((i + k : Nat) : Int)) := by
  intro d
  induction d with
  | zero =>
    intro i n hd hi hn
    obtain ⟨n, rfl⟩ := fuel_step hn
    rw [slices_Index_int_int.l0, if_neg (by omega), List.drop_eq_nil_of_le (by omega)]
    rfl
  | succ d ih =>
    intro i n hd hi hn
    obtain ⟨n, rfl⟩ := fuel_step hn
    rw [slices_Index_int_int.l0, if_pos (by omega), if_pos (by omega), toNat_nat, wsucc (by omega), ih (i + 1) n (by omega) (by omega) (by omega), drop_getD s i 0 (by omega)]
    generalize s.getD i 0 = z
    by_cases h1 : v = z
    · rw [if_pos h1, first, if_pos h1.symm]; rfl
    · rw [if_neg h1, first, if_neg (Ne.symm h1)]
      cases hf : first v (List.drop (i + 1) s) with
      | none => simp
      | some k => simp; omega
theorem Index_eq {s : List Int} (v : Int) (hs : s.length ≤ 100) : slices_Index_int_int.f s v = some (match first v s with | none => -1 | some k => (k : Int)) := by
  unfold slices_Index_int_int.f
  have := Index_loop s v hs s.length 0 FUEL (by omega) (by omega) (fuel_gt (by omega))
  rw [show ((0 : Nat) : Int) = 0 from rfl] at this
  rw [this, bind_go, List.drop_zero]
  cases first v s <;> simp
/-- A file put. -/
def putS (s : List Int) (file : Int) : Int × List Int × Option Int :=
  if may s ∧ 0 ≤ file ∧ file < 32 then (match first 0 s with | none => (0, List.replicate 8 0, some 24) | some k => ((k : Int), s.set k (file + 1), none)) else (0, List.replicate 8 0, some 22)
theorem Put_eq {s : List Int} (file : Int) (hs : s.length = 8) : fds_Put.f s file = some (putS s file) := by
  unfold fds_Put.f putS
  rw [Check_eq hs, bind_go]
  by_cases hm : may s = true
  · rw [hm, if_pos rfl, if_neg (by simp)]
    by_cases h1 : file < 0
    · rw [if_pos h1, if_neg (by omega)]
    rw [if_neg h1]
    by_cases h2 : file ≥ 32
    · rw [if_pos h2, if_neg (by omega)]
    rw [if_neg h2, if_pos ⟨rfl, by omega, by omega⟩, List.take_of_length_le (by omega), Index_eq 0 (by omega), bind_go]
    cases hf : first 0 s with
    | none => rfl
    | some k =>
      have := (first_some hf).1
      dsimp only
      rw [if_neg (by omega), if_pos (by omega), toNat_nat, if_pos (by omega), wi64 (by omega) (by omega)]
  · rw [if_neg hm, if_pos (by simp), if_neg (by simp [hm])]
theorem getD_may {s : List Int} (hm : may s = true) (k : Nat) : 0 ≤ s.getD k 0 ∧ s.getD k 0 ≤ 32 := by
  by_cases h : k < s.length
  · exact ok1_t (List.all_eq_true.1 hm _ (getD_mem s k 0 h))
  · rw [List.getD_eq_getElem?_getD, List.getElem?_eq_none (by omega)]; simp
/-- A number's file. -/
def atS (s : List Int) (fd : Int) : Int × Option Int :=
  if may s then (if 0 ≤ fd ∧ fd < 8 ∧ s.getD fd.toNat 0 ≠ 0 then (s.getD fd.toNat 0 - 1, none) else (0, some 9)) else (0, some 22)
theorem At_eq {s : List Int} (fd : Int) (hs : s.length = 8) : fds_At.f s fd = some (atS s fd) := by
  unfold fds_At.f atS
  rw [Check_eq hs, bind_go]
  by_cases hm : may s = true
  · rw [hm, if_pos rfl, if_neg (by simp), if_pos rfl]
    by_cases h1 : fd < 0
    · rw [if_pos h1, if_neg (by omega)]
    rw [if_neg h1]
    by_cases h2 : fd ≥ 8
    · rw [if_pos h2, if_neg (by omega)]
    rw [if_neg h2, if_pos (by omega), if_pos (by omega)]
    have := getD_may hm fd.toNat
    by_cases h3 : s.getD fd.toNat 0 = 0
    · rw [if_pos h3, if_neg (fun h => h.2.2 h3)]
    · rw [if_neg h3, if_pos (by omega), if_pos (by omega), if_pos ⟨by omega, by omega, h3⟩, wi64 (by omega) (by omega)]
  · rw [if_neg hm, if_pos (by simp), if_neg hm]
def dropS (s : List Int) (fd : Int) : Int × List Int × Option Int := match (atS s fd).2 with
  | some e => (0, List.replicate 8 0, some e)
  | none => ((atS s fd).1, s.set fd.toNat 0, none)
theorem at_none {s : List Int} {fd : Int} (h : (atS s fd).2 = none) : may s = true ∧ 0 ≤ fd ∧ fd < 8 ∧ s.getD fd.toNat 0 ≠ 0 ∧ (atS s fd).1 = s.getD fd.toNat 0 - 1 := by
  unfold atS at h ⊢
  split at h
  · rename_i hm
    split at h
    · rename_i hh
      rw [if_pos hm, if_pos hh]
      exact ⟨hm, hh.1, hh.2.1, hh.2.2, rfl⟩
    · cases h
  · cases h
theorem Drop_eq {s : List Int} (fd : Int) (hs : s.length = 8) : fds_Drop.f s fd = some (dropS s fd) := by
  unfold fds_Drop.f dropS
  rw [At_eq fd hs, bind_go]
  cases he : (atS s fd).2 with
  | some e => rw [if_pos (by simp)]
  | none =>
    obtain ⟨hm, h1, h2, h3, h4⟩ := at_none he
    rw [if_neg (by simp), if_pos (by omega), if_pos (by omega)]
def dupS (s : List Int) (fd : Int) : Int × List Int × Option Int := match (atS s fd).2 with
  | some e => (0, List.replicate 8 0, some e)
  | none => putS s (atS s fd).1
theorem Dup_eq {s : List Int} (fd : Int) (hs : s.length = 8) : fds_Dup.f s fd = some (dupS s fd) := by
  unfold fds_Dup.f dupS
  rw [At_eq fd hs, bind_go]
  cases he : (atS s fd).2 with
  | some e => rw [if_pos (by simp)]
  | none => rw [if_neg (by simp), Put_eq _ hs, bind_go]
/-- All files. -/
def filesS (s : List Int) : List Int := (s.filter (fun z => decide (z > 0))).map (· - 1)
theorem Files_loop (s : List Int) (hs : s.length = 8) (hm : may s = true) : ∀ (d i n : Nat) (acc : List Int), 8 - i = d → i ≤ 8 → d < n → acc.length ≤ i →
    fds_Files.l0 s n acc i = some (acc ++ filesS (s.drop i)) := by
  intro d
  induction d with
  | zero =>
    intro i n acc hd hi hn ha
    obtain ⟨n, rfl⟩ := fuel_step hn
    rw [fds_Files.l0, if_neg (by omega), List.drop_eq_nil_of_le (by omega)]
    simp [filesS]
  | succ d ih =>
    intro i n acc hd hi hn ha
    obtain ⟨n, rfl⟩ := fuel_step hn
    have hb := getD_may hm i
    rw [fds_Files.l0, if_pos (by omega), if_pos (by omega), toNat_nat, wsucc (by omega), drop_getD s i 0 (by omega)]
    generalize s.getD i 0 = z at hb
    rw [wi64 (by omega) (by omega)]
    by_cases h1 : z > 0
    · rw [if_pos h1, if_pos ⟨⟨rfl, rfl⟩, rfl, rfl, by omega, by omega⟩, ih (i + 1) n _ (by omega) (by omega) (by omega) (by simp; omega)]
      unfold filesS
      rw [List.filter_cons_of_pos (by simpa using h1)]
      simp
    · rw [if_neg h1, ih (i + 1) n _ (by omega) (by omega) (by omega) (by omega)]
      unfold filesS
      rw [List.filter_cons_of_neg (by simpa using h1)]
theorem Files_eq {s : List Int} (hs : s.length = 8) : fds_Files.f s = some (if may s then filesS s else []) := by
  unfold fds_Files.f
  rw [Check_eq hs, bind_go]
  by_cases hm : may s = true
  · have := Files_loop s hs hm 8 0 FUEL [] rfl (by omega) (fuel_gt (by omega)) (by simp)
    rw [show ((0 : Nat) : Int) = 0 from rfl] at this
    rw [hm, if_pos rfl, if_neg (by simp), this, bind_go, if_pos rfl]
    simp
  · rw [if_neg hm, if_pos (by simp), if_neg hm]
theorem filesS_len (s : List Int) : (filesS s).length ≤ s.length := by unfold filesS; rw [List.length_map]; exact List.length_filter_le ..
theorem Free_eq {s : List Int} (hs : s.length = 8) : fds_Free.f s = some (if may s then 8 - ((filesS s).length : Int) else 0) := by
  unfold fds_Free.f
  rw [Check_eq hs, bind_go, Files_eq hs]
  have := filesS_len s
  by_cases hm : may s = true
  · rw [hm, if_pos rfl, if_neg (by simp), if_pos rfl, bind_go, wi64 (by omega) (by omega), if_pos rfl]
  · rw [if_neg hm, if_pos (by simp), if_neg hm]

theorem May_loop (s : List Int) (hs : s.length = 8) : ∀ (d i n : Nat), 8 - i = d → i ≤ 8 → d < n →
    halterref20_May.l0 s n i = some (if may (s.drop i) then .inl () else .inr ()) := by
  intro d
  induction d with
  | zero =>
    intro i n hd hi hn
    obtain ⟨n, rfl⟩ := fuel_step hn
    rw [halterref20_May.l0, if_neg (by omega), List.drop_eq_nil_of_le (by omega)]
    rfl
  | succ d ih =>
    intro i n hd hi hn
    obtain ⟨n, rfl⟩ := fuel_step hn
    rw [halterref20_May.l0, if_pos (by omega), if_pos (by omega), toNat_nat, if_pos (by omega), wsucc (by omega), ih (i + 1) n (by omega) (by omega) (by omega), drop_getD s i 0 (by omega)]
    generalize s.getD i 0 = z
    unfold may
    rw [List.all_cons]
    by_cases h1 : z < 0
    · rw [if_pos h1, show ok1 z = false by simp [ok1]; omega]; rfl
    · rw [if_neg h1, if_pos (by omega), if_pos (by omega)]
      by_cases h2 : z > 32
      · rw [if_pos h2, show ok1 z = false by simp [ok1]; omega]; rfl
      · rw [if_neg h2, show ok1 z = true by simp [ok1]; omega]; rfl
theorem May_eq {s : List Int} (hs : s.length = 8) : halterref20_May.f s = some (may s) := by
  unfold halterref20_May.f
  have := May_loop s hs 8 0 FUEL rfl (by omega) (fuel_gt (by omega))
  rw [show ((0 : Nat) : Int) = 0 from rfl] at this
  rw [this, bind_go, List.drop_zero]
  cases may s <;> rfl
theorem rPut_loop (s : List Int) (hs : s.length = 8) (file : Int) (hf : 0 ≤ file ∧ file < 32) : ∀ (d i n : Nat), 8 - i = d → i ≤ 8 → d < n →
    halterref20_Put.l0 s file n i = some (match first 0 (s.drop i) with | none => .inl () | some k => .inr (s.set (i + k) (file + 1), s.set (i + k) (file + 1), ((i + k : Nat) : Int))) := by
  intro d
  induction d with
  | zero =>
    intro i n hd hi hn
    obtain ⟨n, rfl⟩ := fuel_step hn
    rw [halterref20_Put.l0, if_neg (by omega), List.drop_eq_nil_of_le (by omega)]
    rfl
  | succ d ih =>
    intro i n hd hi hn
    obtain ⟨n, rfl⟩ := fuel_step hn
    rw [halterref20_Put.l0, if_pos (by omega), if_pos (by omega), toNat_nat, if_pos (by omega), wsucc (by omega), ih (i + 1) n (by omega) (by omega) (by omega), drop_getD s i 0 (by omega), wi64 (by omega) (by omega)]
    generalize s.getD i 0 = z
    by_cases h1 : z = 0
    · rw [if_pos h1, if_pos (by omega), if_pos (by omega), first, if_pos h1]; rfl
    · rw [if_neg h1, first, if_neg h1]
      cases hf : first 0 (List.drop (i + 1) s) with
      | none => simp
      | some k => simp; rw [show i + 1 + k = i + (k + 1) by omega]; simp; omega
theorem rPut_eq {s : List Int} (file : Int) (hs : s.length = 8) : halterref20_Put.f s file = some ((putS s file).1, (putS s file).2.1, (putS s file).2.2.getD 0) := by
  unfold halterref20_Put.f putS
  rw [May_eq hs, bind_go]
  by_cases hm : may s = true
  · rw [if_neg (by simp [hm])]
    by_cases h1 : file < 0
    · rw [if_pos h1, if_neg (by omega)]; rfl
    rw [if_neg h1]
    by_cases h2 : file > 31
    · rw [if_pos h2, if_neg (by omega)]; rfl
    rw [if_neg h2, if_pos ⟨hm, by omega, by omega⟩]
    have := rPut_loop s hs file ⟨by omega, by omega⟩ 8 0 FUEL rfl (by omega) (fuel_gt (by omega))
    rw [show ((0 : Nat) : Int) = 0 from rfl, List.drop_zero] at this
    rw [this, bind_go]
    cases first 0 s with
    | none => rfl
    | some k => simp
  · rw [if_pos (by simpa using hm), if_neg (by simp [hm])]; rfl
theorem rAt_loop (s : List Int) (hs : s.length = 8) (hm : may s = true) (fd : Int) : ∀ (d i n : Nat), 8 - i = d → i ≤ 8 → d < n →
    halterref20_At.l0 s fd n i = some (if (i : Int) ≤ fd ∧ fd < 8 ∧ s.getD fd.toNat 0 ≠ 0 then .inr (s.getD fd.toNat 0 - 1) else .inl ()) := by
  intro d
  induction d with
  | zero =>
    intro i n hd hi hn
    obtain ⟨n, rfl⟩ := fuel_step hn
    rw [halterref20_At.l0, if_neg (by omega), if_neg (by omega)]
  | succ d ih =>
    intro i n hd hi hn
    obtain ⟨n, rfl⟩ := fuel_step hn
    have hb := getD_may hm i
    rw [halterref20_At.l0, if_pos (by omega), toNat_nat, wsucc (by omega), ih (i + 1) n (by omega) (by omega) (by omega)]
    by_cases h1 : (i : Int) = fd
    · subst h1
      rw [toNat_nat, if_pos rfl, if_pos (by omega), if_pos (by omega), wi64 (by omega) (by omega)]
      by_cases h2 : s.getD i 0 > 0
      · rw [if_pos h2, if_pos (by omega), if_pos (by omega), if_pos ⟨by omega, by omega, by omega⟩]
      · rw [if_neg h2, if_neg (by omega), if_neg (by omega)]
    · rw [if_neg h1]
      by_cases h2 : ((i + 1 : Nat) : Int) ≤ fd ∧ fd < 8 ∧ s.getD fd.toNat 0 ≠ 0
      · rw [if_pos h2, if_pos ⟨by omega, h2.2⟩]
      · rw [if_neg h2, if_neg (fun h => h2 ⟨by omega, h.2⟩)]
theorem rAt_eq {s : List Int} (fd : Int) (hs : s.length = 8) : halterref20_At.f s fd = some ((atS s fd).1, (atS s fd).2.getD 0) := by
  unfold halterref20_At.f atS
  rw [May_eq hs, bind_go]
  by_cases hm : may s = true
  · rw [if_neg (by simp [hm]), if_pos hm]
    have := rAt_loop s hs hm fd 8 0 FUEL rfl (by omega) (fuel_gt (by omega))
    rw [show ((0 : Nat) : Int) = 0 from rfl] at this
    rw [this, bind_go]
    by_cases h : 0 ≤ fd ∧ fd < 8 ∧ s.getD fd.toNat 0 ≠ 0
    · rw [if_pos h, if_pos h]; rfl
    · rw [if_neg h, if_neg h]; rfl
  · rw [if_pos (by simpa using hm), if_neg hm]; rfl
theorem at_code {s : List Int} {fd : Int} : (atS s fd).2 = none ∨ (atS s fd).2 = some 9 ∨ (atS s fd).2 = some 22 := by
  unfold atS; split
  · split <;> simp
  · simp
theorem rDrop_eq {s : List Int} (fd : Int) (hs : s.length = 8) : halterref20_Drop.f s fd = some ((dropS s fd).1, (dropS s fd).2.1, (dropS s fd).2.2.getD 0) := by
  unfold halterref20_Drop.f dropS
  rw [rAt_eq fd hs, bind_go]
  cases he : (atS s fd).2 with
  | some e =>
    have := at_code (s := s) (fd := fd)
    rw [he] at this
    simp at this
    rw [if_pos (by simp; omega)]
  | none =>
    obtain ⟨hm, h1, h2, h3, h4⟩ := at_none he
    rw [if_neg (by simp), if_pos (by omega), if_pos (by omega)]
    rfl
theorem rDup_eq {s : List Int} (fd : Int) (hs : s.length = 8) : halterref20_Dup.f s fd = some ((dupS s fd).1, (dupS s fd).2.1, (dupS s fd).2.2.getD 0) := by
  unfold halterref20_Dup.f dupS
  rw [rAt_eq fd hs, bind_go]
  cases he : (atS s fd).2 with
  | some e =>
    have := at_code (s := s) (fd := fd)
    rw [he] at this
    simp at this
    rw [if_pos (by simp; omega)]
  | none => rw [if_neg (by simp), rPut_eq _ hs, bind_go]
theorem rFiles_loop (s : List Int) (hs : s.length = 8) (hm : may s = true) : ∀ (d i n : Nat) (acc : List Int), 8 - i = d → i ≤ 8 → d < n → acc.length ≤ i →
    halterref20_Files.l0 s n acc i = some (acc ++ filesS (s.drop i)) := by
  intro d
  induction d with
  | zero =>
    intro i n acc hd hi hn ha
    obtain ⟨n, rfl⟩ := fuel_step hn
    rw [halterref20_Files.l0, if_neg (by omega), List.drop_eq_nil_of_le (by omega)]
    simp [filesS]
  | succ d ih =>
    intro i n acc hd hi hn ha
    obtain ⟨n, rfl⟩ := fuel_step hn
    have hb := getD_may hm i
    rw [halterref20_Files.l0, if_pos (by omega), May_eq hs, bind_go, if_pos hm, if_pos (by omega), toNat_nat, if_pos (by omega), wsucc (by omega), drop_getD s i 0 (by omega)]
    generalize s.getD i 0 = z at hb
    rw [wi64 (by omega) (by omega)]
    by_cases h1 : z > 0
    · rw [if_pos h1, if_pos (by omega), if_pos (by omega), if_pos ⟨⟨rfl, rfl⟩, rfl, rfl, by omega, by omega⟩, ih (i + 1) n _ (by omega) (by omega) (by omega) (by simp; omega)]
      unfold filesS
      rw [List.filter_cons_of_pos (by simpa using h1)]
      simp
    · rw [if_neg h1, ih (i + 1) n _ (by omega) (by omega) (by omega) (by omega)]
      unfold filesS
      rw [List.filter_cons_of_neg (by simpa using h1)]
theorem rFiles_eq {s : List Int} (hs : s.length = 8) : halterref20_Files.f s = some (if may s then filesS s else []) := by
  unfold halterref20_Files.f
  by_cases hm : may s = true
  · have := rFiles_loop s hs hm 8 0 FUEL [] rfl (by omega) (fuel_gt (by omega)) (by simp)
    rw [show ((0 : Nat) : Int) = 0 from rfl] at this
    rw [this, bind_go, if_pos hm]
    simp
  · rw [show FUEL = 18446744073709551615 + 1 from rfl, halterref20_Files.l0, if_pos (by omega), May_eq hs, bind_go, if_neg hm, bind_go, if_neg hm]
theorem ints_loop (a : List Int) (ha : a.length ≤ 100) : ∀ (d i n : Nat), a.length - i = d → i ≤ a.length → d < n →
    halterlaw20_ints.l0 a a n i = some (.inl ()) := by
  intro d
  induction d with
  | zero =>
    intro i n hd hi hn
    obtain ⟨n, rfl⟩ := fuel_step hn
    rw [halterlaw20_ints.l0, if_neg (by omega)]
  | succ d ih =>
    intro i n hd hi hn
    obtain ⟨n, rfl⟩ := fuel_step hn
    rw [halterlaw20_ints.l0, if_pos (by omega), if_pos (by omega), if_pos (by omega), if_neg (by simp), wsucc (by omega), ih (i + 1) n (by omega) (by omega) (by omega)]
theorem ints_eq {a : List Int} (ha : a.length ≤ 100) : halterlaw20_ints.f a a = some true := by
  unfold halterlaw20_ints.f
  have := ints_loop a ha a.length 0 FUEL (by omega) (by omega) (fuel_gt (by omega))
  rw [show ((0 : Nat) : Int) = 0 from rfl] at this
  rw [if_neg (by simp), this, bind_go]
theorem FdsSteps (a0 : (List Int)) (a1 : Int) (a2 : Int) (h0 : List.length a0 = 8) (h1 : ∀ z ∈ a0, (Lit.int .i64 z).wf = true) (h2 : (Lit.int .i64 a1).wf = true) (h3 : (Lit.int .i64 a2).wf = true) : halterlaw20_FdsSteps.f a0 a1 a2 = some true := by
  unfold halterlaw20_FdsSteps.f
  have hl := filesS_len a0
  rw [Put_eq a1 h0, bind_go, rPut_eq a1 h0, bind_go, At_eq a2 h0, bind_go, rAt_eq a2 h0, bind_go, Drop_eq a2 h0, bind_go, rDrop_eq a2 h0, bind_go, Dup_eq a2 h0, bind_go, rDup_eq a2 h0, bind_go, May_eq h0, bind_go, rFiles_eq h0, bind_go, Files_eq h0, bind_go, bind_go, Free_eq h0, bind_go, Check_eq h0, bind_go, sure_eq, bind_go]
  unfold num.f
  by_cases hm : may a0 = true
  · rw [if_pos hm]
    repeat (first | rw [bind_go] | rw [if_pos rfl])
    rw [hm, if_pos rfl, ints_eq (by omega), bind_go, if_pos rfl, if_pos rfl, if_pos (by rw [wi64 (by omega) (by omega)]), if_pos rfl, if_pos (show Option.isNone none = true from rfl)]
  · rw [if_neg hm]
    repeat (first | rw [bind_go] | rw [if_pos rfl])
    rw [if_neg hm, ints_eq (by simp), bind_go, if_pos rfl, if_neg hm, if_pos rfl, if_neg hm, if_pos (by simpa using hm)]

end Go.Proofs.YtbpaijnlapedlaaDoor.Pure
