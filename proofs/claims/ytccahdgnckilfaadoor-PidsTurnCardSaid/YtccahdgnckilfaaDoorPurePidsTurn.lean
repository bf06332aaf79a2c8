/- PidsTurn, read purely. -/
import Derived.Test.YtccahdgnckilfaaDoorPPidsTurnx2
set_option linter.unusedVariables false
set_option linter.unusedSimpArgs false
set_option linter.unnecessarySimpa false
namespace Go.Proofs.YtccahdgnckilfaaDoor.Pure
open Go.RowKit Go.Proofs.YtccahdgnckilfaaDoor.PPidsTurn Go.Proofs.YtccahdgnckilfaaDoorW.PrintWords Go.Proofs.YtccahdgnckilfaaDoorW.PrintLast Go.Proofs.YtccahdgnckilfaaDoorW.PrintMore

theorem i64_bd {a : Int} (h : (Lit.int .i64 a).wf = true) : -9223372036854775808 ≤ a ∧ a ≤ 9223372036854775807 := by
  simpa [Lit.wf, IntKind.min, IntKind.max, IntKind.signed, IntKind.bits] using h
theorem w64 {x : Int} (h0 : -9223372036854775808 ≤ x) (h1 : x ≤ 9223372036854775807) : wrap64 x = x := by unfold wrap64; omega
theorem rd_nat (u : List Int) (i : Nat) (h : i < u.length) : rd u (i : Int) = u[i] := by
  unfold rd
  simp [List.getD_eq_getElem?_getD, List.getElem?_eq_getElem h]
theorem drop_mem (u : List Int) (i : Nat) (x : Int) (h : i < u.length) : x ∈ u.drop i ↔ x = u[i] ∨ x ∈ u.drop (i + 1) := by
  rw [List.drop_eq_getElem_cons h, List.mem_cons]
theorem index_loop (u : List Int) (x : Int) (hu : u.length ≤ 300) (d : Nat) : ∀ (k i : Nat), u.length - i = d → i ≤ u.length → d < k →
    ∃ r, slices_Index_int_int.l0 k u x u.length i = some r ∧ (0 ≤ r ↔ x ∈ u.drop i) := by
  induction d with
  | zero =>
    intro k i hd hi hk
    obtain ⟨k, rfl⟩ : ∃ m, k = m + 1 := ⟨k - 1, by omega⟩
    refine ⟨-1, ?_, ?_⟩
    · simp only [slices_Index_int_int.l0]
      rw [if_neg (by omega)]
    · rw [List.drop_eq_nil_of_le (by omega)]
      simp
  | succ d ih =>
    intro k i hd hi hk
    obtain ⟨k, rfl⟩ : ∃ m, k = m + 1 := ⟨k - 1, by omega⟩
    have hl : i < u.length := by omega
    simp only [slices_Index_int_int.l0]
    rw [if_pos (by omega), if_pos (by omega), if_pos (by omega), rd_nat u i hl]
    by_cases h : x = u[i]
    · rw [if_pos h]
      refine ⟨i, rfl, ?_⟩
      rw [drop_mem u i x hl]
      simp [h]
    · rw [if_neg h, w64 (by omega) (by omega)]
      obtain ⟨r, hr, hm⟩ := ih k (i + 1) (by omega) (by omega) (by omega)
      refine ⟨r, hr, ?_⟩
      rw [hm, drop_mem u i x hl]
      simp [h]
theorem contains_eq (u : List Int) (x : Int) (hu : u.length ≤ 300) (k : Nat) (hk : 301 ≤ k) : slices_Contains_int_int.f k u x = some (decide (x ∈ u)) := by
  obtain ⟨r, hr, hm⟩ := index_loop u x hu u.length k 0 (by omega) (by omega) (by omega)
  unfold slices_Contains_int_int.f slices_Index_int_int.f
  have hr' : slices_Index_int_int.l0 k u x u.length 0 = some r := hr
  rw [hr']
  simp only [Option.bind_some]
  congr 1
  rw [decide_eq_decide]
  simpa using hm
theorem check_eq (x : Int) : pids_Check.f x = some (if 1 ≤ x ∧ x ≤ 99 then none else some 22) := by
  unfold pids_Check.f
  by_cases h : x < 1
  · rw [if_pos h, if_neg (by omega)]
  · rw [if_neg h]
    by_cases h2 : x > 99
    · rw [if_pos h2, if_neg (by omega)]
    · rw [if_neg h2, if_pos (by omega)]
/-- What the next number is: the least free one above the last, else the least free one from 2 on. -/
def Nx (u : List Int) (last most n : Int) : Prop :=
  n ∉ u ∧ ((last < n ∧ n ≤ most ∧ ∀ y, last < y → y < n → y ∈ u) ∨ (2 ≤ n ∧ n ≤ last ∧ (∀ y, last < y → y ≤ most → y ∈ u) ∧ ∀ y, 2 ≤ y → y < n → y ∈ u))
theorem Nx.unique {u : List Int} {last most n m : Int} (h : Nx u last most n) (h' : Nx u last most m) : n = m := by
  obtain ⟨f, h⟩ := h
  obtain ⟨f', h'⟩ := h'
  rcases h with ⟨a1, a2, a3⟩ | ⟨a1, a2, a3, a4⟩ <;> rcases h' with ⟨b1, b2, b3⟩ | ⟨b1, b2, b3, b4⟩
  · rcases Int.lt_trichotomy n m with h | h | h
    · exact absurd (b3 n a1 h) f
    · exact h
    · exact absurd (a3 m b1 h) f'
  · exact absurd (b3 n a1 a2) f
  · exact absurd (a3 m b1 b2) f'
  · rcases Int.lt_trichotomy n m with h | h | h
    · exact absurd (b4 n a1 h) f
    · exact h
    · exact absurd (a4 m b1 h) f'
def Full (u : List Int) (most : Int) : Prop := ∀ y, 2 ≤ y → y ≤ most → y ∈ u
theorem next_loop (u : List Int) (hu : u.length ≤ 300) (last most : Int) (h1 : 1 ≤ last) (h2 : last ≤ most) (h3 : 2 ≤ most) (h4 : most ≤ 99) (d : Nat) :
    ∀ (k : Nat) (n : Int), 0 ≤ n → n ≤ most → (most - n).toNat = d → d + 302 ≤ k →
    (∀ y, last < y → y ≤ most → y < last + 1 + n → y ∈ u) → (∀ y, 2 ≤ y → y < last + 2 + n - most → y ≤ last → y ∈ u) →
    (∃ m, pids_Next.l0 k u last most most n = some (m, none) ∧ Nx u last most m) ∨ (pids_Next.l0 k u last most most n = some (0, some 11) ∧ Full u most) := by
  induction d with
  | zero =>
    intro k n h0 hn hd hk ha hb
    obtain ⟨k, rfl⟩ : ∃ m, k = m + 1 := ⟨k - 1, by omega⟩
    right
    constructor
    · simp only [pids_Next.l0]
      rw [if_neg (by omega)]
    · intro y hy hy'
      by_cases h : last < y
      · exact ha y h hy' (by omega)
      · exact hb y hy (by omega) (by omega)
  | succ d ih =>
    intro k n h0 hn hd hk ha hb
    obtain ⟨k, rfl⟩ : ∃ m, k = m + 1 := ⟨k - 1, by omega⟩
    simp only [pids_Next.l0]
    rw [if_pos (by omega), w64 (x := last + 1) (by omega) (by omega), w64 (x := last + 1 + n) (by omega) (by omega), w64 (x := (2 : Int) - most) (by omega) (by omega), w64 (x := (2 : Int) - most - 1) (by omega) (by omega), w64 (x := last + 1 + n + (2 - most - 1)) (by omega) (by omega), w64 (x := n + 1) (by omega) (by omega)]
    by_cases hw : last + 1 + n > most
    · rw [if_pos hw]
      by_cases hp : last + 1 + n + (2 - most - 1) ≤ most
      · rw [if_pos hp, contains_eq u _ hu k (by omega)]
        simp only [Option.bind_some, decide_eq_true_eq]
        by_cases hc : last + 1 + n + (2 - most - 1) ∈ u
        · rw [if_pos hc]
          refine ih k (n + 1) (by omega) (by omega) (by omega) (by omega) (fun y hy hy' _ => ha y hy hy' (by omega)) (fun y hy hy' hy2 => ?_)
          by_cases e : y = last + 1 + n + (2 - most - 1)
          · rw [e]; exact hc
          · exact hb y hy (by omega) hy2
        · rw [if_neg hc]
          left
          refine ⟨_, rfl, hc, .inr ⟨by omega, ?_, fun y hy hy' => ha y hy hy' (by omega), fun y hy hy' => ?_⟩⟩
          · rcases Int.lt_or_le last (last + 1 + n + (2 - most - 1)) with h | h
            · exact absurd (ha _ h hp (by omega)) hc
            · exact h
          · by_cases hl : y ≤ last
            · exact hb y hy (by omega) hl
            · exact ha y (by omega) (by omega) (by omega)
      · rw [if_neg hp]
        refine ih k (n + 1) (by omega) (by omega) (by omega) (by omega) (fun y hy hy' _ => ha y hy hy' (by omega)) (fun y hy hy' hy2 => hb y hy (by omega) hy2)
    · rw [if_neg hw, if_pos (by omega), contains_eq u _ hu k (by omega)]
      simp only [Option.bind_some, decide_eq_true_eq]
      by_cases hc : last + 1 + n ∈ u
      · rw [if_pos hc]
        refine ih k (n + 1) (by omega) (by omega) (by omega) (by omega) (fun y hy hy' hy2 => ?_) (fun y hy hy' hy2 => hb y hy (by omega) hy2)
        by_cases e : y = last + 1 + n
        · rw [e]; exact hc
        · exact ha y hy hy' (by omega)
      · rw [if_neg hc]
        left
        exact ⟨_, rfl, hc, .inl ⟨by omega, by omega, fun y hy hy' => ha y hy (by omega) hy'⟩⟩
theorem next_bad (u : List Int) (last most : Int) (k : Nat) (h : ¬ (1 ≤ last ∧ last ≤ 99 ∧ 2 ≤ most ∧ most ≤ 99 ∧ last ≤ most)) : pids_Next.f (k + 1) u last most = some (0, some 22) := by
  unfold pids_Next.f
  rw [check_eq, check_eq]
  simp only [Option.bind_some]
  by_cases a : 1 ≤ last ∧ last ≤ 99
  · rw [if_pos a]
    by_cases b : 1 ≤ most ∧ most ≤ 99
    · rw [if_pos b]
      simp only [Option.isNone_none, if_true]
      by_cases c : last > most
      · rw [if_pos c]; simp [pids_Next.j0]
      · rw [if_neg c]
        have : most < 2 := by omega
        simp [pids_Next.j0, this]
    · rw [if_neg b]; simp [pids_Next.j0]
  · rw [if_neg a]; simp [pids_Next.j0]
theorem next_good (u : List Int) (hu : u.length ≤ 300) (last most : Int) (k : Nat) (hk : 500 ≤ k) (h : 1 ≤ last ∧ last ≤ 99 ∧ 2 ≤ most ∧ most ≤ 99 ∧ last ≤ most) :
    (∃ m, pids_Next.f k u last most = some (m, none) ∧ Nx u last most m) ∨ (pids_Next.f k u last most = some (0, some 11) ∧ Full u most) := by
  obtain ⟨a, b, c, d, e⟩ := h
  obtain ⟨k, rfl⟩ : ∃ m, k = m + 1 := ⟨k - 1, by omega⟩
  have hf : pids_Next.f (k + 1) u last most = pids_Next.l0 k u last most most 0 := by
    unfold pids_Next.f
    rw [check_eq, check_eq]
    simp only [Option.bind_some]
    rw [if_pos (show 1 ≤ last ∧ last ≤ 99 from ⟨a, b⟩), if_pos (show 1 ≤ most ∧ most ≤ 99 from ⟨by omega, d⟩)]
    simp only [Option.isNone_none, if_true]
    rw [if_neg (by omega)]
    have : ¬ most < 2 := by omega
    simp [pids_Next.j0, this]
  rw [hf]
  exact next_loop u hu last most a e c d most.toNat k 0 (by omega) (by omega) (by omega) (by omega) (fun y _ _ _ => by omega) (fun y _ _ _ => by omega)

def cnt (p : Nat → Bool) : Nat → Nat
  | 0 => 0
  | n + 1 => cnt p n + (if p n = true then 1 else 0)
theorem cnt_mono {p q : Nat → Bool} : ∀ n, (∀ y, y < n → p y = true → q y = true) → cnt p n ≤ cnt q n
  | 0, _ => Nat.le_refl _
  | n + 1, h => by
    have h1 := cnt_mono n (fun y hy => h y (by omega))
    have h2 := h n (by omega)
    simp only [cnt]
    by_cases a : p n = true
    · rw [if_pos a, if_pos (h2 a)]; omega
    · rw [if_neg a]; omega
theorem cnt_same {p q : Nat → Bool} (n : Nat) (h : ∀ y, y < n → (p y = true ↔ q y = true)) : cnt p n = cnt q n :=
  Nat.le_antisymm (cnt_mono n fun y hy => (h y hy).1) (cnt_mono n fun y hy => (h y hy).2)
theorem cnt_split {p q r : Nat → Bool} : ∀ n, (∀ y, y < n → (r y = true ↔ (p y = true ∨ q y = true))) → (∀ y, y < n → ¬ (p y = true ∧ q y = true)) → cnt r n = cnt p n + cnt q n
  | 0, _, _ => rfl
  | n + 1, h, g => by
    have h1 := cnt_split n (fun y hy => h y (by omega)) (fun y hy => g y (by omega))
    have h2 := h n (by omega)
    have h3 := g n (by omega)
    simp only [cnt, h1]
    by_cases a : p n = true <;> by_cases b : q n = true
    · exact absurd ⟨a, b⟩ h3
    · rw [if_pos (h2.2 (.inl a)), if_pos a, if_neg b]; omega
    · rw [if_pos (h2.2 (.inr b)), if_neg a, if_pos b]; omega
    · rw [if_neg (fun hr => (h2.1 hr).elim a b), if_neg a, if_neg b]; omega
theorem cnt_one (v : Nat) : ∀ n, cnt (fun y => decide (y = v)) n = if v < n then 1 else 0
  | 0 => by simp [cnt]
  | n + 1 => by
    simp only [cnt, cnt_one v n, decide_eq_true_eq]
    by_cases a : v < n
    · rw [if_pos a, if_neg (by omega), if_pos (by omega)]
    · rw [if_neg a]
      by_cases b : n = v
      · rw [if_pos b, if_pos (by omega)]
      · rw [if_neg b, if_neg (by omega)]
theorem cnt_range (m : Nat) : ∀ n, cnt (fun y => decide (2 ≤ y ∧ y ≤ m)) n = min n (m + 1) - 2
  | 0 => by simp [cnt]
  | n + 1 => by
    simp only [cnt, cnt_range m n, decide_eq_true_eq]
    by_cases a : 2 ≤ n ∧ n ≤ m
    · rw [if_pos a]; omega
    · rw [if_neg a]; omega
theorem cnt_none {p : Nat → Bool} : ∀ n, (∀ y, y < n → p y = false) → cnt p n = 0
  | 0, _ => rfl
  | n + 1, h => by simp [cnt, cnt_none n (fun y hy => h y (by omega)), h n (by omega)]
attribute [irreducible] cnt
theorem w_succ (i : Nat) (h : i < 1000) : wrap64 ((i : Int) + 1) = ((i + 1 : Nat) : Int) := by rw [w64 (by omega) (by omega)]; simp
theorem w_pred (i : Nat) (h1 : 1 ≤ i) (h : i < 1000) : wrap64 ((i : Int) - 1) = ((i - 1 : Nat) : Int) := by rw [w64 (by omega) (by omega)]; omega
abbrev at_ (L : List Bool) (y : Nat) : Bool := rdOf false L (y : Int)
theorem at_set (L : List Bool) (v y : Nat) (hv : v < L.length) : at_ (L.set v true) y = if y = v then true else at_ L y := by
  unfold at_ rdOf
  simp only [Int.toNat_natCast, List.getD_eq_getElem?_getD, List.getElem?_set]
  by_cases h : v = y
  · subst h; simp [hv]
  · rw [if_neg h, if_neg (fun e => h e.symm)]
theorem at_rep (y : Nat) : at_ (List.replicate 100 false) y = false := by
  unfold at_ rdOf
  simp only [Int.toNat_natCast, List.getD_eq_getElem?_getD, List.getElem?_replicate]
  split <;> rfl
theorem cnt_set (L : List Bool) (v : Nat) (hl : L.length = 100) (hv : v < 100) (hf : at_ L v = false) : cnt (at_ (L.set v true)) 100 = cnt (at_ L) 100 + 1 := by
  have h := cnt_split (p := at_ L) (q := fun y => decide (y = v)) (r := at_ (L.set v true)) 100
    (fun y _ => by rw [at_set L v y (by omega)]; by_cases e : y = v <;> simp [e])
    (fun y _ => by rintro ⟨a, b⟩; rw [decide_eq_true_eq] at b; subst b; rw [hf] at a; cases a)
  rw [h, cnt_one, if_pos hv]
theorem take_mem (u : List Int) (i : Nat) (x : Int) (h : i < u.length) : x ∈ u.take (i + 1) ↔ x ∈ u.take i ∨ x = u[i] := by
  rw [List.take_succ_eq_append_getElem h, List.mem_append, List.mem_singleton]
theorem getE (u : List Int) (hu : ∀ x ∈ u, (Lit.int .i64 x).wf = true) (i : Nat) (h : i < u.length) : -9223372036854775808 ≤ u[i] ∧ u[i] ≤ 9223372036854775807 := i64_bd (hu _ (List.getElem_mem h))
theorem turn_first (u : List Int) (hu : u.length ≤ 40) (hw : ∀ x ∈ u, (Lit.int .i64 x).wf = true) (m : Nat) (hm2 : 2 ≤ m) (hm : m ≤ 31) (last : Int) (d : Nat) : ∀ (k i : Nat) (T : List Bool) (free : Nat), u.length - i = d → i ≤ u.length → d < k → T.length = 100 →
    (∀ y, y < 100 → (at_ T y = true ↔ (2 ≤ y ∧ y ≤ m ∧ (y : Int) ∈ u.take i))) → free + cnt (at_ T) 100 = m - 1 →
    ∃ (T' : List Bool) (free' : Nat), halterlaw23_PidsTurn.l0 k u m last T free i = halterlaw23_PidsTurn.l1 (k - d - 1) u m last T' free' (List.replicate 100 false) 0 ∧ T'.length = 100 ∧
      (∀ y, y < 100 → (at_ T' y = true ↔ (2 ≤ y ∧ y ≤ m ∧ (y : Int) ∈ u))) ∧ free' + cnt (at_ T') 100 = m - 1 := by
  induction d with
  | zero =>
    intro k i T free hd hi hk hl hT hc
    obtain ⟨k, rfl⟩ : ∃ m, k = m + 1 := ⟨k - 1, by omega⟩
    refine ⟨T, free, ?_, hl, ?_, hc⟩
    · simp only [halterlaw23_PidsTurn.l0]
      rw [if_neg (by omega), if_pos (by omega)]
      have e : k + 1 - 0 - 1 = k := by omega
      rw [e]
    · intro y hy
      rw [hT y hy, List.take_of_length_le (by omega)]
  | succ d ih =>
    intro k i T free hd hi hk hl hT hc
    obtain ⟨k, rfl⟩ : ∃ m, k = m + 1 := ⟨k - 1, by omega⟩
    have hil : i < u.length := by omega
    have ge := getE u hw i hil
    have ek : k + 1 - (d + 1) - 1 = k - d - 1 := by omega
    rw [ek]
    simp only [halterlaw23_PidsTurn.l0]
    rw [if_pos (by omega), if_pos (by omega), rd_nat u i hil, w_succ i (by omega)]
    have skip : ¬ (2 ≤ u[i] ∧ u[i] ≤ m) → ∀ y, y < 100 → (at_ T y = true ↔ (2 ≤ y ∧ y ≤ m ∧ (y : Int) ∈ u.take (i + 1))) := by
      intro hno y hy
      rw [hT y hy, take_mem u i _ hil]
      constructor
      · rintro ⟨a, b, c⟩
        exact ⟨a, b, .inl c⟩
      · rintro ⟨a, b, c | c⟩
        · exact ⟨a, b, c⟩
        · exact absurd ⟨by omega, by omega⟩ hno
    by_cases h1 : u[i] ≥ 2
    · rw [if_pos h1]
      by_cases h2 : u[i] ≤ (m : Int)
      · obtain ⟨v, hv⟩ : ∃ v : Nat, u[i] = (v : Int) := ⟨u[i].toNat, by omega⟩
        rw [hv] at h1 h2 ⊢
        rw [if_pos h2, if_pos (by omega), if_pos (by omega)]
        by_cases h3 : at_ T v = true
        · rw [if_pos h3]
          refine ih k (i + 1) T free (by omega) (by omega) (by omega) hl ?_ hc
          intro y hy
          rw [hT y hy, take_mem u i _ hil]
          constructor
          · rintro ⟨a, b, c⟩
            exact ⟨a, b, .inl c⟩
          · rintro ⟨a, b, c | c⟩
            · exact ⟨a, b, c⟩
            · have e : y = v := by omega
              subst e
              exact (hT y hy).1 h3
        · rw [if_neg h3]
          simp only [Bool.not_eq_true] at h3
          have hcs := cnt_set T v hl (by omega) h3
          have hfree : 1 ≤ free := by
            have hle : cnt (at_ T) 100 + 1 ≤ m - 1 := by
              have h := cnt_mono (p := at_ (T.set v true)) (q := fun y => decide (2 ≤ y ∧ y ≤ m)) 100 (fun y hy hp => by
                rw [at_set T v y (by omega)] at hp
                rw [decide_eq_true_eq]
                by_cases e : y = v
                · omega
                · rw [if_neg e] at hp
                  have := (hT y hy).1 hp
                  omega)
              rw [hcs, cnt_range] at h
              omega
            omega
          rw [w_pred free hfree (by omega)]
          simp only [Int.toNat_natCast]
          refine ih k (i + 1) (T.set v true) (free - 1) (by omega) (by omega) (by omega) (by simp [hl]) ?_ (by omega)
          intro y hy
          rw [at_set T v y (by omega), take_mem u i _ hil]
          by_cases e : y = v
          · subst e
            simp only [if_true, true_iff]
            exact ⟨by omega, by omega, .inr hv.symm⟩
          · rw [if_neg e, hT y hy]
            constructor
            · rintro ⟨a, b, c⟩
              exact ⟨a, b, .inl c⟩
            · rintro ⟨a, b, c | c⟩
              · exact ⟨a, b, c⟩
              · exact absurd (by omega) e
      · rw [if_neg h2]
        exact ih k (i + 1) T free (by omega) (by omega) (by omega) hl (skip (by omega)) hc
    · rw [if_neg h1]
      exact ih k (i + 1) T free (by omega) (by omega) (by omega) hl (skip (by omega)) hc
abbrev Free (u : List Int) (m y : Nat) : Prop := 2 ≤ y ∧ y ≤ m ∧ (y : Int) ∉ u
def Phase (u : List Int) (m : Nat) (G : List Bool) (last0 last : Nat) : Prop :=
  (last0 ≤ last ∧ ∀ y, y < 100 → (at_ G y = true ↔ (Free u m y ∧ last0 < y ∧ y ≤ last))) ∨ (2 ≤ last ∧ last ≤ last0 ∧ ∀ y, y < 100 → (at_ G y = true ↔ (Free u m y ∧ (last0 < y ∨ y ≤ last))))
theorem turn_second (u : List Int) (hu : u.length ≤ 40) (m : Nat) (hm2 : 2 ≤ m) (hm : m ≤ 31) (T : List Bool) (hT : T.length = 100) (hTu : ∀ y, y < 100 → (at_ T y = true ↔ (2 ≤ y ∧ y ≤ m ∧ (y : Int) ∈ u)))
    (free : Nat) (hfree : free + cnt (at_ T) 100 = m - 1) (last0 : Nat) (h0 : 1 ≤ last0) (h0m : last0 ≤ m) (d : Nat) : ∀ (k i last : Nat) (G : List Bool), free - i = d → i ≤ free → d + 1000 < k → 1 ≤ last → last ≤ m → G.length = 100 → cnt (at_ G) 100 = i → Phase u m G last0 last →
    halterlaw23_PidsTurn.l1 k u m last T free G i = some true := by
  have hfr : free = cnt (fun y => decide (Free u m y)) 100 := by
    have h := cnt_split (p := at_ T) (q := fun y => decide (Free u m y)) (r := fun y => decide (2 ≤ y ∧ y ≤ m)) 100
      (fun y hy => by
        rw [hTu y hy]
        simp only [decide_eq_true_eq, Free]
        by_cases e : (y : Int) ∈ u <;> simp [e])
      (fun y hy => by
        rw [hTu y hy]
        simp only [decide_eq_true_eq, Free]
        rintro ⟨⟨_, _, a⟩, _, _, b⟩
        exact b a)
    rw [cnt_range] at h
    omega
  induction d with
  | zero =>
    intro k i last G hd hi hk hl1 hlm hG hc hph
    obtain ⟨k, rfl⟩ : ∃ m, k = m + 1 := ⟨k - 1, by omega⟩
    have hs : ∀ k, 1000 ≤ k → halterlaw23_sure.f k = some true := by
      intro k hk
      have : ∀ j, halterlaw23_sure.f (1000 + j) = some true := by
        intro j
        induction j with
        | zero => decide +kernel
        | succ j ih => exact halterlaw23_sure.mono (1000 + j) _ ih
      obtain ⟨j, rfl⟩ : ∃ j, k = 1000 + j := ⟨k - 1000, by omega⟩
      exact this j
    simp only [halterlaw23_PidsTurn.l1]
    rw [if_neg (by omega), hs k (by omega)]
    rcases next_good u (by omega) last m k (by omega) ⟨by omega, by omega, by omega, by omega, by omega⟩ with ⟨n, hn, hx⟩ | ⟨hn, hx⟩
    · rw [hn]
      have hpos : 1 ≤ free := by
        obtain ⟨v, hv⟩ : ∃ v : Nat, n = (v : Int) := ⟨n.toNat, by rcases hx.2 with ⟨a, _⟩ | ⟨a, _⟩ <;> omega⟩
        subst hv
        have hF : Free u m v := ⟨by rcases hx.2 with ⟨a, _⟩ | ⟨a, _⟩ <;> omega, by rcases hx.2 with ⟨_, a, _⟩ | ⟨_, a, _⟩ <;> omega, hx.1⟩
        have h := cnt_mono (p := fun y => decide (y = v)) (q := fun y => decide (Free u m y)) 100 (fun y _ hp => by
          rw [decide_eq_true_eq] at hp ⊢
          subst hp
          exact hF)
        rw [cnt_one, if_pos (by have := hF.2.1; omega)] at h
        omega
      have : (free : Int) > 0 := by omega
      simp only [Option.bind_some, Option.isNone_none, if_true, this, decide_true, beq_self_eq_true]
    · rw [hn]
      have hz : free = 0 := by
        rw [hfr]
        refine cnt_none 100 fun y hy => ?_
        rw [decide_eq_false_iff_not]
        rintro ⟨a, b, c⟩
        exact c (hx y (by omega) (by omega))
      have : ¬ (free : Int) > 0 := by omega
      simp only [Option.bind_some, Option.isNone_some, Bool.false_eq_true, if_false, this, decide_false, beq_self_eq_true, if_true]
  | succ d ih =>
    intro k i last G hd hi hk hl1 hlm hG hc hph
    obtain ⟨k, rfl⟩ : ∃ m, k = m + 1 := ⟨k - 1, by omega⟩
    have hex : ¬ ∀ y, y < 100 → Free u m y → at_ G y = true := by
      intro hall
      have h := cnt_mono (p := fun y => decide (Free u m y)) (q := at_ G) 100 (fun y hy hp => hall y hy (by simpa using hp))
      omega
    simp only [halterlaw23_PidsTurn.l1]
    rw [if_pos (by omega), w_succ i (by omega)]
    rcases next_good u (by omega) last m k (by omega) ⟨by omega, by omega, by omega, by omega, by omega⟩ with ⟨n, hn, hx⟩ | ⟨hn, hx⟩
    · rw [hn]
      obtain ⟨v, hv⟩ : ∃ v : Nat, n = (v : Int) := ⟨n.toNat, by rcases hx.2 with ⟨a, _⟩ | ⟨a, _⟩ <;> omega⟩
      subst hv
      have v2 : 2 ≤ v := by rcases hx.2 with ⟨a, _⟩ | ⟨a, _⟩ <;> omega
      have vm : v ≤ m := by rcases hx.2 with ⟨_, a, _⟩ | ⟨_, a, _⟩ <;> omega
      have hF : Free u m v := ⟨v2, vm, hx.1⟩
      have hnew : at_ G v = false ∧ Phase u m (G.set v true) last0 v := by
        rcases hph with ⟨p1, p2⟩ | ⟨p0, p1, p2⟩
        · rcases hx.2 with ⟨a, b, c⟩ | ⟨a, b, c, e⟩
          · refine ⟨?_, .inl ⟨by omega, fun y hy => ?_⟩⟩
            · rw [← Bool.not_eq_true, p2 v (by omega)]; omega
            · rw [at_set G v y (by omega)]
              by_cases ev : y = v
              · subst ev; simp only [if_true, true_iff]; exact ⟨hF, by omega, by omega⟩
              · rw [if_neg ev, p2 y hy]
                constructor
                · rintro ⟨f, g, h⟩; exact ⟨f, g, by omega⟩
                · rintro ⟨f, g, h⟩
                  refine ⟨f, g, ?_⟩
                  rcases Nat.lt_or_ge last y with hh | hh
                  · exact absurd (c y (by omega) (by omega)) f.2.2
                  · exact hh
          · have hle : v ≤ last0 := by
              rcases Nat.lt_or_ge last0 v with hh | hh
              · refine absurd (fun y hy f => ?_) hex
                rw [p2 y hy]
                refine ⟨f, ?_, ?_⟩
                · rcases Nat.lt_or_ge y v with h | h
                  · exact absurd (e y (by have := f.1; omega) (by omega)) f.2.2
                  · omega
                · rcases Nat.lt_or_ge last y with h | h
                  · exact absurd (c y (by omega) (by have := f.2.1; omega)) f.2.2
                  · exact h
              · exact hh
            refine ⟨?_, .inr ⟨v2, hle, fun y hy => ?_⟩⟩
            · rw [← Bool.not_eq_true, p2 v (by omega)]; omega
            · rw [at_set G v y (by omega)]
              by_cases ev : y = v
              · subst ev; simp only [if_true, true_iff]; exact ⟨hF, .inr (Nat.le_refl _)⟩
              · rw [if_neg ev, p2 y hy]
                constructor
                · rintro ⟨f, g, h⟩; exact ⟨f, .inl g⟩
                · rintro ⟨f, g | g⟩
                  · refine ⟨f, g, ?_⟩
                    rcases Nat.lt_or_ge last y with h | h
                    · exact absurd (c y (by omega) (by have := f.2.1; omega)) f.2.2
                    · exact h
                  · exact absurd (e y (by have := f.1; omega) (by omega)) f.2.2
        · rcases hx.2 with ⟨a, b, c⟩ | ⟨a, b, c, e⟩
          · have hle : v ≤ last0 := by
              rcases Nat.lt_or_ge last0 v with hh | hh
              · refine absurd (fun y hy f => ?_) hex
                rw [p2 y hy]
                refine ⟨f, ?_⟩
                rcases Nat.lt_or_ge last y with h | h
                · rcases Nat.lt_or_ge y v with h' | h'
                  · exact absurd (c y (by omega) (by omega)) f.2.2
                  · exact .inl (by omega)
                · exact .inr h
              · exact hh
            refine ⟨?_, .inr ⟨v2, hle, fun y hy => ?_⟩⟩
            · rw [← Bool.not_eq_true, p2 v (by omega)]; omega
            · rw [at_set G v y (by omega)]
              by_cases ev : y = v
              · subst ev; simp only [if_true, true_iff]; exact ⟨hF, .inr (Nat.le_refl _)⟩
              · rw [if_neg ev, p2 y hy]
                constructor
                · rintro ⟨f, g | g⟩
                  · exact ⟨f, .inl g⟩
                  · exact ⟨f, .inr (by omega)⟩
                · rintro ⟨f, g | g⟩
                  · exact ⟨f, .inl g⟩
                  · refine ⟨f, .inr ?_⟩
                    rcases Nat.lt_or_ge last y with h | h
                    · exact absurd (c y (by omega) (by omega)) f.2.2
                    · exact h
          · refine absurd (fun y hy f => ?_) hex
            rw [p2 y hy]
            refine ⟨f, .inr ?_⟩
            rcases Nat.lt_or_ge last y with h | h
            · exact absurd (c y (by omega) (by have := f.2.1; omega)) f.2.2
            · exact h
      obtain ⟨hgv, hph'⟩ := hnew
      have htv : at_ T v = false := by
        rw [← Bool.not_eq_true, hTu v (by omega)]
        rintro ⟨_, _, h⟩
        exact hx.1 h
      have hcs := cnt_set G v hG (by omega) hgv
      simp only [Option.bind_some, Option.isNone_none, if_true]
      rw [if_neg (by omega), if_neg (by omega), if_pos (by omega), if_pos (by omega)]
      have e1 : rdOf false T (v : Int) = false := htv
      have e2 : rdOf false G (v : Int) = false := hgv
      rw [e1, if_neg (by decide), if_pos (by omega), e2, if_neg (by decide)]
      simp only [Int.toNat_natCast]
      exact ih k (i + 1) v (G.set v true) (by omega) (by omega) (by omega) (by omega) vm (by simp [hG]) (by omega) hph'
    · exfalso
      refine hex fun y hy f => absurd (hx y ?_ ?_) f.2.2
      · have := f.1; omega
      · have := f.2.1; omega
theorem PidsTurn : halterlaw23_PidsTurn.Pure := by
  intro u a b _ _ hw _ _
  refine ⟨2000, ?_⟩
  have u64n : ∀ x : Int, 0 ≤ IntKind.u64.wrap x := by
    intro x
    simp [IntKind.wrap, IntKind.bits, IntKind.signed]
    omega
  obtain ⟨m, hm, hm2, hm31⟩ : ∃ m : Nat, wrap64 (2 + (wrap64 (Int.tmod (IntKind.u64.wrap a) 30))) = (m : Int) ∧ 2 ≤ m ∧ m ≤ 31 := by
    rw [Int.tmod_eq_emod_of_nonneg (u64n a), w64 (x := IntKind.u64.wrap a % 30) (by omega) (by omega), w64 (by omega) (by omega)]
    exact ⟨(2 + IntKind.u64.wrap a % 30).toNat, by omega, by omega, by omega⟩
  have hm64 : IntKind.u64.wrap (m : Int) = m := by simp [IntKind.wrap, IntKind.bits, IntKind.signed]; omega
  obtain ⟨l, hl, hl1, hlm⟩ : ∃ l : Nat, wrap64 (1 + (wrap64 (Int.tmod (IntKind.u64.wrap b) (m : Int)))) = (l : Int) ∧ 1 ≤ l ∧ l ≤ m := by
    have h1 := Int.emod_nonneg (IntKind.u64.wrap b) (show (m : Int) ≠ 0 by omega)
    have h2 := Int.emod_lt_of_pos (IntKind.u64.wrap b) (show (0 : Int) < m by omega)
    rw [Int.tmod_eq_emod_of_nonneg (u64n b), w64 (x := IntKind.u64.wrap b % m) (by omega) (by omega), w64 (by omega) (by omega)]
    exact ⟨(1 + IntKind.u64.wrap b % m).toNat, by omega, by omega, by omega⟩
  have hs : halterlaw23_sure.f 2000 = some true := by decide +kernel
  unfold halterlaw23_PidsTurn.f
  rw [hm, hm64, if_neg (by omega), hl]
  by_cases hu : (u.length : Int) > 40
  · rw [if_pos hu, hs]; rfl
  rw [if_neg hu, if_pos (by omega)]
  rw [w_pred m (by omega) (by omega)]
  clear hm hl hm64 hs u64n
  have hz : cnt (at_ (List.replicate 100 false)) 100 = 0 := cnt_none 100 fun y _ => at_rep y
  obtain ⟨T, free, h1, h2, h3, h4⟩ := turn_first u (by omega) hw m hm2 hm31 l u.length 2000 0 (List.replicate 100 false) (m - 1) (by omega) (by omega) (by omega) (by simp) (fun y hy => by rw [at_rep]; simp) (by omega)
  have h1' : halterlaw23_PidsTurn.l0 2000 u m l (List.replicate 100 false) ((m - 1 : Nat) : Int) 0 = _ := h1
  rw [h1']
  refine turn_second u (by omega) m hm2 hm31 T h2 h3 free h4 l hl1 hlm free _ 0 l (List.replicate 100 false) (by omega) (by omega) ?_ hl1 hlm (by simp) hz (.inl ⟨Nat.le_refl _, fun y hy => ?_⟩)
  · have : free ≤ 30 := by omega
    omega
  · rw [at_rep]
    simp only [Bool.false_eq_true, false_iff]
    rintro ⟨_, a, b⟩
    omega

end Go.Proofs.YtccahdgnckilfaaDoor.Pure
