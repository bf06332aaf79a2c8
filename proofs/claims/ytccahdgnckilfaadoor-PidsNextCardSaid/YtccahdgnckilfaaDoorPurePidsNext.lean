/- For every list of used numbers, every last one and every greatest one: the next number, or the error, is the reference's. No condition (a list of more than 300 is let by by the statement itself). -/
import Derived.Test.YtccahdgnckilfaaDoorPPidsNextx2
set_option linter.unusedVariables false
set_option linter.unusedSimpArgs false
set_option linter.unnecessarySimpa false
namespace Go.Proofs.YtccahdgnckilfaaDoor.Pure
open Go.RowKit Go.Proofs.YtccahdgnckilfaaDoor.PPidsNext Go.Proofs.YtccahdgnckilfaaDoorW.PrintWords Go.Proofs.YtccahdgnckilfaaDoorW.PrintLast Go.Proofs.YtccahdgnckilfaaDoorW.PrintMore

theorem i64_bd {a : Int} (h : (Lit.int .i64 a).wf = true) : -9223372036854775808 ≤ a ∧ a ≤ 9223372036854775807 := by
  simpa [Lit.wf, IntKind.min, IntKind.max, IntKind.signed, IntKind.bits] using h
theorem w64 {x : Int} (h0 : -9223372036854775808 ≤ x) (h1 : x ≤ 9223372036854775807) : wrap64 x = x := by unfold wrap64; omega
theorem rd_nat (u : List Int) (i : Nat) (h : i < u.length) : rd u (i : Int) = u[i] := by
  unfold rd
  simp [List.getD_eq_getElem?_getD, List.getElem?_eq_getElem h]
theorem drop_mem (u : List Int) (i : Nat) (x : Int) (h : i < u.length) : x ∈ u.drop i ↔ x = u[i] ∨ x ∈ u.drop (i + 1) := by
  rw [List.drop_eq_getElem_cons h, List.mem_cons]
theorem index_loop (u : List Int) (x : Int) (hu : u.length ≤ 300) (d : Nat) : ∀ (k i : Nat), u.length - i = d → i ≤ u.length → d < k →
    ∃ r, slices_Index_int_int.l0 k u x u.length i = some r ∧ (0 ≤ r ↔ x ∈ u.drop i) := by
  induction d with
  | zero =>
    intro k i hd hi hk
    obtain ⟨k, rfl⟩ : ∃ m, k = m + 1 := ⟨k - 1, by omega⟩
    refine ⟨-1, ?_, ?_⟩
    · simp only [slices_Index_int_int.l0]
      rw [if_neg (by omega)]
    · rw [List.drop_eq_nil_of_le (by omega)]
      simp
  | succ d ih =>
    intro k i hd hi hk
    obtain ⟨k, rfl⟩ : ∃ m, k = m + 1 := ⟨k - 1, by omega⟩
    have hl : i < u.length := by omega
    simp only [slices_Index_int_int.l0]
    rw [if_pos (by omega), if_pos (by omega), if_pos (by omega), rd_nat u i hl]
    by_cases h : x = u[i]
    · rw [if_pos h]
      refine ⟨i, rfl, ?_⟩
      rw [drop_mem u i x hl]
      simp [h]
    · rw [if_neg h, w64 (by omega) (by omega)]
      obtain ⟨r, hr, hm⟩ := ih k (i + 1) (by omega) (by omega) (by omega)
      refine ⟨r, hr, ?_⟩
      rw [hm, drop_mem u i x hl]
      simp [h]
theorem contains_eq (u : List Int) (x : Int) (hu : u.length ≤ 300) (k : Nat) (hk : 301 ≤ k) : slices_Contains_int_int.f k u x = some (decide (x ∈ u)) := by
  obtain ⟨r, hr, hm⟩ := index_loop u x hu u.length k 0 (by omega) (by omega) (by omega)
  unfold slices_Contains_int_int.f slices_Index_int_int.f
  have hr' : slices_Index_int_int.l0 k u x u.length 0 = some r := hr
  rw [hr']
  simp only [Option.bind_some]
  congr 1
  rw [decide_eq_decide]
  simpa using hm
theorem check_eq (x : Int) : pids_Check.f x = some (if 1 ≤ x ∧ x ≤ 99 then none else some 22) := by
  unfold pids_Check.f
  by_cases h : x < 1
  · rw [if_pos h, if_neg (by omega)]
  · rw [if_neg h]
    by_cases h2 : x > 99
    · rw [if_pos h2, if_neg (by omega)]
    · rw [if_neg h2, if_pos (by omega)]
/-- What the next number is: the least free one above the last, else the least free one from 2 on. -/
def Nx (u : List Int) (last most n : Int) : Prop :=
  n ∉ u ∧ ((last < n ∧ n ≤ most ∧ ∀ y, last < y → y < n → y ∈ u) ∨ (2 ≤ n ∧ n ≤ last ∧ (∀ y, last < y → y ≤ most → y ∈ u) ∧ ∀ y, 2 ≤ y → y < n → y ∈ u))
theorem Nx.unique {u : List Int} {last most n m : Int} (h : Nx u last most n) (h' : Nx u last most m) : n = m := by
  obtain ⟨f, h⟩ := h
  obtain ⟨f', h'⟩ := h'
  rcases h with ⟨a1, a2, a3⟩ | ⟨a1, a2, a3, a4⟩ <;> rcases h' with ⟨b1, b2, b3⟩ | ⟨b1, b2, b3, b4⟩
  · rcases Int.lt_trichotomy n m with h | h | h
    · exact absurd (b3 n a1 h) f
    · exact h
    · exact absurd (a3 m b1 h) f'
  · exact absurd (b3 n a1 a2) f
  · exact absurd (a3 m b1 b2) f'
  · rcases Int.lt_trichotomy n m with h | h | h
    · exact absurd (b4 n a1 h) f
    · exact h
    · exact absurd (a4 m b1 h) f'
def Full (u : List Int) (most : Int) : Prop := ∀ y, 2 ≤ y → y ≤ most → y ∈ u
theorem next_loop (u : List Int) (hu : u.length ≤ 300) (last most : Int) (h1 : 1 ≤ last) (h2 : last ≤ most) (h3 : 2 ≤ most) (h4 : most ≤ 99) (d : Nat) :
    ∀ (k : Nat) (n : Int), 0 ≤ n → n ≤ most → (most - n).toNat = d → d + 302 ≤ k →
    (∀ y, last < y → y ≤ most → y < last + 1 + n → y ∈ u) → (∀ y, 2 ≤ y → y < last + 2 + n - most → y ≤ last → y ∈ u) →
    (∃ m, pids_Next.l0 k u last most most n = some (m, none) ∧ Nx u last most m) ∨ (pids_Next.l0 k u last most most n = some (0, some 11) ∧ Full u most) := by
  induction d with
  | zero =>
    intro k n h0 hn hd hk ha hb
    obtain ⟨k, rfl⟩ : ∃ m, k = m + 1 := ⟨k - 1, by omega⟩
    right
    constructor
    · simp only [pids_Next.l0]
      rw [if_neg (by omega)]
    · intro y hy hy'
      by_cases h : last < y
      · exact ha y h hy' (by omega)
      · exact hb y hy (by omega) (by omega)
  | succ d ih =>
    intro k n h0 hn hd hk ha hb
    obtain ⟨k, rfl⟩ : ∃ m, k = m + 1 := ⟨k - 1, by omega⟩
    simp only [pids_Next.l0]
    rw [if_pos (by omega), w64 (x := last + 1) (by omega) (by omega), w64 (x := last + 1 + n) (by omega) (by omega), w64 (x := (2 : Int) - most) (by omega) (by omega), w64 (x := (2 : Int) - most - 1) (by omega) (by omega), w64 (x := last + 1 + n + (2 - most - 1)) (by omega) (by omega), w64 (x := n + 1) (by omega) (by omega)]
    by_cases hw : last + 1 + n > most
    · rw [if_pos hw]
      by_cases hp : last + 1 + n + (2 - most - 1) ≤ most
      · rw [if_pos hp, contains_eq u _ hu k (by omega)]
        simp only [Option.bind_some, decide_eq_true_eq]
        by_cases hc : last + 1 + n + (2 - most - 1) ∈ u
        · rw [if_pos hc]
          refine ih k (n + 1) (by omega) (by omega) (by omega) (by omega) (fun y hy hy' _ => ha y hy hy' (by omega)) (fun y hy hy' hy2 => ?_)
          by_cases e : y = last + 1 + n + (2 - most - 1)
          · rw [e]; exact hc
          · exact hb y hy (by omega) hy2
        · rw [if_neg hc]
          left
          refine ⟨_, rfl, hc, .inr ⟨by omega, ?_, fun y hy hy' => ha y hy hy' (by omega), fun y hy hy' => ?_⟩⟩
          · rcases Int.lt_or_le last (last + 1 + n + (2 - most - 1)) with h | h
            · exact absurd (ha _ h hp (by omega)) hc
            · exact h
          · by_cases hl : y ≤ last
            · exact hb y hy (by omega) hl
            · exact ha y (by omega) (by omega) (by omega)
      · rw [if_neg hp]
        refine ih k (n + 1) (by omega) (by omega) (by omega) (by omega) (fun y hy hy' _ => ha y hy hy' (by omega)) (fun y hy hy' hy2 => hb y hy (by omega) hy2)
    · rw [if_neg hw, if_pos (by omega), contains_eq u _ hu k (by omega)]
      simp only [Option.bind_some, decide_eq_true_eq]
      by_cases hc : last + 1 + n ∈ u
      · rw [if_pos hc]
        refine ih k (n + 1) (by omega) (by omega) (by omega) (by omega) (fun y hy hy' hy2 => ?_) (fun y hy hy' hy2 => hb y hy (by omega) hy2)
        by_cases e : y = last + 1 + n
        · rw [e]; exact hc
        · exact ha y hy hy' (by omega)
      · rw [if_neg hc]
        left
        exact ⟨_, rfl, hc, .inl ⟨by omega, by omega, fun y hy hy' => ha y hy (by omega) hy'⟩⟩
theorem next_bad (u : List Int) (last most : Int) (k : Nat) (h : ¬ (1 ≤ last ∧ last ≤ 99 ∧ 2 ≤ most ∧ most ≤ 99 ∧ last ≤ most)) : pids_Next.f (k + 1) u last most = some (0, some 22) := by
  unfold pids_Next.f
  rw [check_eq, check_eq]
  simp only [Option.bind_some]
  by_cases a : 1 ≤ last ∧ last ≤ 99
  · rw [if_pos a]
    by_cases b : 1 ≤ most ∧ most ≤ 99
    · rw [if_pos b]
      simp only [Option.isNone_none, if_true]
      by_cases c : last > most
      · rw [if_pos c]; simp [pids_Next.j0]
      · rw [if_neg c]
        have : most < 2 := by omega
        simp [pids_Next.j0, this]
    · rw [if_neg b]; simp [pids_Next.j0]
  · rw [if_neg a]; simp [pids_Next.j0]
theorem next_good (u : List Int) (hu : u.length ≤ 300) (last most : Int) (k : Nat) (hk : 500 ≤ k) (h : 1 ≤ last ∧ last ≤ 99 ∧ 2 ≤ most ∧ most ≤ 99 ∧ last ≤ most) :
    (∃ m, pids_Next.f k u last most = some (m, none) ∧ Nx u last most m) ∨ (pids_Next.f k u last most = some (0, some 11) ∧ Full u most) := by
  obtain ⟨a, b, c, d, e⟩ := h
  obtain ⟨k, rfl⟩ : ∃ m, k = m + 1 := ⟨k - 1, by omega⟩
  have hf : pids_Next.f (k + 1) u last most = pids_Next.l0 k u last most most 0 := by
    unfold pids_Next.f
    rw [check_eq, check_eq]
    simp only [Option.bind_some]
    rw [if_pos (show 1 ≤ last ∧ last ≤ 99 from ⟨a, b⟩), if_pos (show 1 ≤ most ∧ most ≤ 99 from ⟨by omega, d⟩)]
    simp only [Option.isNone_none, if_true]
    rw [if_neg (by omega)]
    have : ¬ most < 2 := by omega
    simp [pids_Next.j0, this]
  rw [hf]
  exact next_loop u hu last most a e c d most.toNat k 0 (by omega) (by omega) (by omega) (by omega) (fun y _ _ _ => by omega) (fun y _ _ _ => by omega)

theorem in_loop (u : List Int) (x : Int) (hu : u.length ≤ 300) (d : Nat) : ∀ (k i : Nat), u.length - i = d → i ≤ u.length → d < k →
    halterref23_in.l0 k u x i = some (decide (x ∈ u.drop i)) := by
  induction d with
  | zero =>
    intro k i hd hi hk
    obtain ⟨k, rfl⟩ : ∃ m, k = m + 1 := ⟨k - 1, by omega⟩
    simp only [halterref23_in.l0]
    rw [if_neg (by omega), List.drop_eq_nil_of_le (by omega)]
    simp
  | succ d ih =>
    intro k i hd hi hk
    obtain ⟨k, rfl⟩ : ∃ m, k = m + 1 := ⟨k - 1, by omega⟩
    have hl : i < u.length := by omega
    simp only [halterref23_in.l0]
    rw [if_pos (by omega), if_pos (by omega), rd_nat u i hl]
    by_cases h : u[i] = x
    · rw [if_pos h]
      congr 1
      symm
      rw [decide_eq_true_eq, drop_mem u i x hl]
      exact .inl h.symm
    · rw [if_neg h, w64 (by omega) (by omega)]
      have h2 := ih k (i + 1) (by omega) (by omega) (by omega)
      have e : ((i : Int) + 1) = ((i + 1 : Nat) : Int) := by simp
      rw [e, h2]
      congr 1
      rw [decide_eq_decide, drop_mem u i x hl]
      constructor
      · exact .inr
      · rintro (h3 | h3)
        · exact absurd h3.symm h
        · exact h3
theorem in_eq (u : List Int) (x : Int) (hu : u.length ≤ 300) (k : Nat) (hk : 301 ≤ k) : halterref23_in.f k u x = some (decide (x ∈ u)) := by
  unfold halterref23_in.f
  exact in_loop u x hu u.length k 0 (by omega) (by omega) (by omega)
theorem ref_loop1 (u : List Int) (hu : u.length ≤ 300) (last most : Int) (h1 : 1 ≤ last) (h2 : last ≤ most) (h4 : most ≤ 99) (hall : ∀ y, last < y → y ≤ most → y ∈ u) (d : Nat) :
    ∀ (k : Nat) (x : Int), 2 ≤ x → x ≤ last + 1 → (last + 1 - x).toNat = d → d + 302 ≤ k → (∀ y, 2 ≤ y → y < x → y ∈ u) →
    (∃ m, halterref23_Next.l1 k u last x = some (m, 0) ∧ Nx u last most m) ∨ (halterref23_Next.l1 k u last x = some (0, 11) ∧ Full u most) := by
  induction d with
  | zero =>
    intro k x hx0 hx hd hk hb
    obtain ⟨k, rfl⟩ : ∃ m, k = m + 1 := ⟨k - 1, by omega⟩
    right
    constructor
    · simp only [halterref23_Next.l1]
      rw [if_neg (by omega)]
    · intro y hy hy'
      by_cases h : last < y
      · exact hall y h hy'
      · exact hb y hy (by omega)
  | succ d ih =>
    intro k x hx0 hx hd hk hb
    obtain ⟨k, rfl⟩ : ∃ m, k = m + 1 := ⟨k - 1, by omega⟩
    simp only [halterref23_Next.l1]
    rw [if_pos (by omega), in_eq u x hu k (by omega), w64 (by omega) (by omega)]
    simp only [Option.bind_some, decide_eq_true_eq]
    by_cases hc : x ∈ u
    · rw [if_pos hc]
      refine ih k (x + 1) (by omega) (by omega) (by omega) (by omega) (fun y hy hy' => ?_)
      by_cases e : y = x
      · rw [e]; exact hc
      · exact hb y hy (by omega)
    · rw [if_neg hc]
      left
      exact ⟨x, rfl, hc, .inr ⟨hx0, by omega, hall, hb⟩⟩
theorem ref_loop0 (u : List Int) (hu : u.length ≤ 300) (last most : Int) (h1 : 1 ≤ last) (h2 : last ≤ most) (h4 : most ≤ 99) (d : Nat) :
    ∀ (k : Nat) (x : Int), last < x → x ≤ most + 1 → (most + 1 - x).toNat = d → d + 450 ≤ k → (∀ y, last < y → y < x → y ∈ u) →
    (∃ m, halterref23_Next.l0 k u last most x = some (m, 0) ∧ Nx u last most m) ∨ (halterref23_Next.l0 k u last most x = some (0, 11) ∧ Full u most) := by
  induction d with
  | zero =>
    intro k x hx0 hx hd hk hb
    obtain ⟨k, rfl⟩ : ∃ m, k = m + 1 := ⟨k - 1, by omega⟩
    simp only [halterref23_Next.l0]
    rw [if_neg (by omega)]
    exact ref_loop1 u hu last most h1 h2 h4 (fun y hy hy' => hb y hy (by omega)) (last + 1 - 2).toNat k 2 (by omega) (by omega) rfl (by omega) (fun y _ _ => by omega)
  | succ d ih =>
    intro k x hx0 hx hd hk hb
    obtain ⟨k, rfl⟩ : ∃ m, k = m + 1 := ⟨k - 1, by omega⟩
    simp only [halterref23_Next.l0]
    rw [if_pos (by omega), in_eq u x hu k (by omega), w64 (by omega) (by omega)]
    simp only [Option.bind_some, decide_eq_true_eq]
    by_cases hc : x ∈ u
    · rw [if_pos hc]
      refine ih k (x + 1) (by omega) (by omega) (by omega) (by omega) (fun y hy hy' => ?_)
      by_cases e : y = x
      · rw [e]; exact hc
      · exact hb y hy (by omega)
    · rw [if_neg hc]
      left
      exact ⟨x, rfl, hc, .inl ⟨hx0, by omega, hb⟩⟩
theorem PidsNext : halterlaw23_PidsNext.Pure := by
  intro u last most _ _ _ hl hm
  obtain ⟨l0, l1⟩ := i64_bd hl
  refine ⟨1001, ?_⟩
  have hs : halterlaw23_sure.f 1001 = some true := by decide +kernel
  unfold halterlaw23_PidsNext.f
  by_cases hu : (u.length : Int) > 300
  · rw [if_pos hu, hs]; rfl
  rw [if_neg hu, check_eq last, hs]
  have hu' : u.length ≤ 300 := by omega
  have hlast : ∀ (r : Int) (c : Int), (if r = r then ((halterlaw23_num.f (some c)).bind fun t => if t = c then (some true : Option Bool) else some false) else some false) = some true := by
    intro r c
    simp [halterlaw23_num.f]
  have tail : (if (if 1 ≤ last ∧ last ≤ 99 then (none : Option Int) else some 22).isNone = true then (if last ≥ 1 then (if (true == (decide (last ≤ 99))) = true then ((some true).bind fun t137 => (some t137)) else (some false)) else (some false)) else (if last ≥ 1 then (if (false == (decide (last ≤ 99))) = true then ((some true).bind fun t138 => (some t138)) else (some false)) else ((some true).bind fun t139 => (some t139)))) = some true := by
    by_cases a : 1 ≤ last <;> by_cases b : last ≤ 99 <;> simp [a, b]
  by_cases hv : 1 ≤ last ∧ last ≤ 99 ∧ 2 ≤ most ∧ most ≤ 99 ∧ last ≤ most
  · have hp := next_good u hu' last most 1001 (by omega) hv
    obtain ⟨a, b, c, d, e⟩ := hv
    have hf : halterref23_Next.f 1001 u last most = halterref23_Next.l0 1000 u last most (last + 1) := by
      unfold halterref23_Next.f
      rw [if_neg (by omega), if_neg (by omega), if_neg (by omega), if_neg (by omega)]
      have : ¬ last > most := by omega
      simp only [halterref23_Next.j0, this, decide_false, Bool.false_eq_true, if_false]
      rw [w64 (by omega) (by omega)]
    have hr := ref_loop0 u hu' last most a e d (most + 1 - (last + 1)).toNat 1000 (last + 1) (by omega) (by omega) rfl (by omega) (fun y _ _ => by omega)
    rw [hf]
    rcases hp with ⟨m, hp, hn⟩ | ⟨hp, hn⟩ <;> rcases hr with ⟨m', hr, hn'⟩ | ⟨hr, hn'⟩
    · obtain rfl := hn.unique hn'
      rw [hp, hr]
      simp only [Option.bind_some, if_true, halterlaw23_num.f, Option.getD_none]
      exact tail
    · exfalso
      rcases hn.2 with ⟨x1, x2, _⟩ | ⟨x1, x2, _⟩
      · exact hn.1 (hn' _ (by omega) x2)
      · exact hn.1 (hn' _ x1 (by omega))
    · exfalso
      rcases hn'.2 with ⟨x1, x2, _⟩ | ⟨x1, x2, _⟩
      · exact hn'.1 (hn _ (by omega) x2)
      · exact hn'.1 (hn _ x1 (by omega))
    · rw [hp, hr]
      simp only [Option.bind_some, if_true, halterlaw23_num.f, Option.getD_some]
      exact tail
  · rw [next_bad u last most 1000 hv]
    have hf : halterref23_Next.f 1001 u last most = some (0, 22) := by
      unfold halterref23_Next.f
      by_cases a : last < 1
      · rw [if_pos a]; simp [halterref23_Next.j0]
      rw [if_neg a]
      by_cases b : last > 99
      · rw [if_pos b]; simp [halterref23_Next.j0]
      rw [if_neg b]
      by_cases c : most < 2
      · rw [if_pos c]; simp [halterref23_Next.j0]
      rw [if_neg c]
      by_cases d : most > 99
      · rw [if_pos d]; simp [halterref23_Next.j0]
      rw [if_neg d]
      have : last > most := by omega
      simp [halterref23_Next.j0, this]
    rw [hf]
    simp only [Option.bind_some, if_true, halterlaw23_num.f, Option.getD_some]
    exact tail

end Go.Proofs.YtccahdgnckilfaaDoor.Pure
