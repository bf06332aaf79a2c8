/- CallsNames, read purely. -/
import Derived.Test.YtfoobmiknmpeeaaDoorPCallsNamesx2
set_option linter.unusedVariables false
set_option linter.unusedSimpArgs false
set_option linter.unnecessarySimpa false
namespace Go.Proofs.YtfoobmiknmpeeaaDoor.Pure
open Go.RowKit Go.Proofs.YtfoobmiknmpeeaaDoor.PCallsNames Go.Proofs.YtfoobmiknmpeeaaDoorW.PrintWords Go.Proofs.YtfoobmiknmpeeaaDoorW.PrintLast Go.Proofs.YtfoobmiknmpeeaaDoorW.PrintMore

theorem w64 {x : Int} (h0 : -9223372036854775808 ≤ x) (h1 : x ≤ 9223372036854775807) : wrap64 x = x := by unfold wrap64; omega
theorem w_succ (i : Nat) (h : i < 1000) : wrap64 ((i : Int) + 1) = ((i + 1 : Nat) : Int) := by rw [w64 (by omega) (by omega)]; simp
theorem bind_go {α β : Type} (a : α) (f : α → Option β) : (some a).bind f = f a := (Option.bind_some a f).trans rfl
theorem rdOf_nat (u : List ByteArray) (i : Nat) (h : i < u.length) : rdOf ByteArray.empty u (i : Int) = u[i] := by
  unfold rdOf
  simp [List.getD_eq_getElem?_getD, List.getElem?_eq_getElem h]
theorem index_hit (L : List ByteArray) (x : ByteArray) (hL : L.length < 1000) (j : Nat) (hj : j < L.length) (he : x.toList = L[j].toList) (d : Nat) : ∀ (k i : Nat), j - i = d → i ≤ j → d < k → (∀ (t : Nat) (ht : t < L.length), i ≤ t → t < j → x.toList ≠ L[t].toList) →
    slices_Index_string_string.l0 k L x L.length i = some (j : Int) := by
  induction d with
  | zero =>
    intro k i hd hi hk hne
    obtain ⟨k, rfl⟩ : ∃ m, k = m + 1 := ⟨k - 1, by omega⟩
    obtain rfl : i = j := by omega
    simp only [slices_Index_string_string.l0]
    rw [if_pos (show (i : Int) < (L.length : Int) by omega), if_pos (show (0 : Int) ≤ (i : Int) by omega), if_pos (show (i : Int) < (L.length : Int) by omega), rdOf_nat L i hj, if_pos he]
  | succ d ih =>
    intro k i hd hi hk hne
    obtain ⟨k, rfl⟩ : ∃ m, k = m + 1 := ⟨k - 1, by omega⟩
    have hl : i < L.length := by omega
    simp only [slices_Index_string_string.l0]
    rw [if_pos (show (i : Int) < (L.length : Int) by omega), if_pos (show (0 : Int) ≤ (i : Int) by omega), if_pos (show (i : Int) < (L.length : Int) by omega), rdOf_nat L i hl, if_neg (hne i hl (Nat.le_refl _) (by omega)), w_succ i (by omega)]
    exact ih k (i + 1) (by omega) (by omega) (by omega) (fun t ht h1 h2 => hne t ht (by omega) h2)
theorem index_none (L : List ByteArray) (x : ByteArray) (hL : L.length < 1000) (d : Nat) : ∀ (k i : Nat), L.length - i = d → i ≤ L.length → d < k → (∀ (t : Nat) (ht : t < L.length), i ≤ t → x.toList ≠ L[t].toList) →
    slices_Index_string_string.l0 k L x L.length i = some (-1) := by
  induction d with
  | zero =>
    intro k i hd hi hk hne
    obtain ⟨k, rfl⟩ : ∃ m, k = m + 1 := ⟨k - 1, by omega⟩
    simp only [slices_Index_string_string.l0]
    rw [if_neg (show ¬ (i : Int) < (L.length : Int) by omega)]
  | succ d ih =>
    intro k i hd hi hk hne
    obtain ⟨k, rfl⟩ : ∃ m, k = m + 1 := ⟨k - 1, by omega⟩
    have hl : i < L.length := by omega
    simp only [slices_Index_string_string.l0]
    rw [if_pos (show (i : Int) < (L.length : Int) by omega), if_pos (show (0 : Int) ≤ (i : Int) by omega), if_pos (show (i : Int) < (L.length : Int) by omega), rdOf_nat L i hl, if_neg (hne i hl (Nat.le_refl _)), w_succ i (by omega)]
    exact ih k (i + 1) (by omega) (by omega) (by omega) (fun t ht h1 => hne t ht (by omega))
/-- Behind the law's loop. -/
def after (k : Nat) (x0 x1 : Int) (x2 : ByteArray) (x7 : List ByteArray) (x9 : ByteArray) (x10 x11 : Int) : Option Bool :=
  if x1 ≥ 0 then (halterlaw28_CallsNames.j3 k x0 x1 x2 x7 x9 x10 x11 (⟨#[]⟩ : ByteArray) (decide (x1 < 13))) else (halterlaw28_CallsNames.j3 k x0 x1 x2 x7 x9 x10 x11 (⟨#[]⟩ : ByteArray) false)
/-- The law's loop: no match from i on. -/
theorem loop_none (L : List ByteArray) (x : ByteArray) (hL : L.length < 900) (x0 x1 : Int) (x9 : ByteArray) (x10 : Int) (m : Int) (d : Nat) : ∀ (k i : Nat), L.length - i = d → i ≤ L.length → d < k → (∀ (t : Nat) (ht : t < L.length), i ≤ t → L[t].toList ≠ x.toList) →
    halterlaw28_CallsNames.l0 k x0 x1 x L x9 x10 m i = after (k - d - 1) x0 x1 x L x9 x10 m := by
  induction d with
  | zero =>
    intro k i hd hi hk hne
    obtain ⟨k, rfl⟩ : ∃ m, k = m + 1 := ⟨k - 1, by omega⟩
    simp only [halterlaw28_CallsNames.l0]
    rw [if_neg (show ¬ (i : Int) < (L.length : Int) by omega), show k + 1 - 0 - 1 = k by omega]
    unfold after
    rfl
  | succ d ih =>
    intro k i hd hi hk hne
    obtain ⟨k, rfl⟩ : ∃ m, k = m + 1 := ⟨k - 1, by omega⟩
    have hl : i < L.length := by omega
    simp only [halterlaw28_CallsNames.l0]
    rw [if_pos (show (i : Int) < (L.length : Int) by omega), if_pos (show (0 : Int) ≤ (i : Int) by omega), rdOf_nat L i hl, if_neg (hne i hl (Nat.le_refl _)), w_succ i (by omega), show k + 1 - (d + 1) - 1 = k - d - 1 by omega]
    exact ih k (i + 1) (by omega) (by omega) (by omega) (fun t ht h1 => hne t ht (by omega))
/-- The law's loop: one match, at j. -/
theorem loop_hit (L : List ByteArray) (x : ByteArray) (hL : L.length < 900) (x0 x1 : Int) (x9 : ByteArray) (x10 : Int) (j : Nat) (hj : j < L.length) (he : L[j].toList = x.toList) (hne : ∀ (t : Nat) (ht : t < L.length), t ≠ j → L[t].toList ≠ x.toList) (d : Nat) : ∀ (k i : Nat) (m : Int), j - i = d → i ≤ j → L.length - i < k →
    halterlaw28_CallsNames.l0 k x0 x1 x L x9 x10 m i = after (k - (L.length - i) - 1) x0 x1 x L x9 x10 ((j + 1 : Nat) : Int) := by
  induction d with
  | zero =>
    intro k i m hd hi hk
    obtain ⟨k, rfl⟩ : ∃ m, k = m + 1 := ⟨k - 1, by omega⟩
    obtain rfl : i = j := by omega
    simp only [halterlaw28_CallsNames.l0]
    rw [if_pos (show (i : Int) < (L.length : Int) by omega), if_pos (show (0 : Int) ≤ (i : Int) by omega), rdOf_nat L i hj, if_pos he, w_succ i (by omega), loop_none L x hL x0 x1 x9 x10 _ (L.length - (i + 1)) k (i + 1) rfl (by omega) (by omega) (fun t ht h1 => hne t ht (by omega)), show k - (L.length - (i + 1)) - 1 = k + 1 - (L.length - i) - 1 by omega]
  | succ d ih =>
    intro k i m hd hi hk
    obtain ⟨k, rfl⟩ : ∃ m, k = m + 1 := ⟨k - 1, by omega⟩
    have hl : i < L.length := by omega
    simp only [halterlaw28_CallsNames.l0]
    rw [if_pos (show (i : Int) < (L.length : Int) by omega), if_pos (show (0 : Int) ≤ (i : Int) by omega), rdOf_nat L i hl, if_neg (hne i hl (by omega)), w_succ i (by omega), ih k (i + 1) m (by omega) (by omega) (by omega), show k - (L.length - (i + 1)) - 1 = k + 1 - (L.length - i) - 1 by omega]

def refL : List ByteArray := nameL.tail
theorem calls_eq : halterref28_Calls.f = some (refL, argL.tail) := rfl
theorem asks_eq : halterref28_Asks.f = some askL := rfl
theorem nameL_eq : nameL = (⟨#[]⟩ : ByteArray) :: refL := rfl
theorem nil0 (h : 0 < nameL.length) : nameL[0].toList = [] := (by decide +kernel : ((⟨#[]⟩ : ByteArray)).toList = [])
theorem refL_len : refL.length = 29 := rfl
theorem unlike_all : ((List.range 29).all fun t => (List.range 29).all fun j => t == j || !((refL.getD t ByteArray.empty).toList == (refL.getD j ByteArray.empty).toList)) = true := by decide +kernel
theorem filled_all : ((List.range 29).all fun t => !((refL.getD t ByteArray.empty).toList == [])) = true := by decide +kernel
theorem unlike (t j : Nat) (ht : t < refL.length) (hj : j < refL.length) (h : t ≠ j) : refL[t].toList ≠ refL[j].toList := by
  have h1 := List.all_eq_true.1 (List.all_eq_true.1 unlike_all t (List.mem_range.2 ht)) j (List.mem_range.2 hj)
  simp only [Bool.or_eq_true, beq_iff_eq, Bool.not_eq_true', beq_eq_false_iff_ne, ne_eq, List.getD_eq_getElem?_getD, List.getElem?_eq_getElem ht, List.getElem?_eq_getElem hj, Option.getD_some] at h1
  exact h1.resolve_left h
theorem filled (t : Nat) (ht : t < refL.length) : refL[t].toList ≠ [] := by
  have h1 := List.all_eq_true.1 filled_all t (List.mem_range.2 ht)
  simpa [List.getD_eq_getElem?_getD, List.getElem?_eq_getElem ht] using h1
theorem find_hit (x : ByteArray) (j : Nat) (hj : j < refL.length) (he : refL[j].toList = x.toList) : calls_Find.f 66 x = some (((j + 1 : Nat) : Int), none) := by
  have hj' : j + 1 < nameL.length := by rw [nameL_eq, List.length_cons]; omega
  have hl : nameL.length = 30 := rfl
  have hL : refL.length = 29 := rfl
  have h := index_hit nameL x (by decide) (j + 1) hj' (by simp only [nameL_eq, List.getElem_cons_succ]; exact he.symm) (j + 1) 66 0 (by omega) (by omega) (by omega) (fun t ht h1 h2 => by
    rcases t with _ | t
    · intro e
      refine filled j hj (he.trans ?_)
      rw [e]
      exact nil0 ht
    · have ht' : t < refL.length := by omega
      simp only [nameL_eq, List.getElem_cons_succ]
      rw [← he]
      exact unlike j t hj ht' (by omega))
  unfold calls_Find.f slices_Index_string_string.f
  have h' : slices_Index_string_string.l0 66 nameL x nameL.length 0 = some ((j + 1 : Nat) : Int) := h
  rw [h', bind_go, if_neg (show ¬ ((j + 1 : Nat) : Int) < 1 by omega)]
theorem find_none (x : ByteArray) (hne : ∀ (t : Nat) (ht : t < refL.length), refL[t].toList ≠ x.toList) : calls_Find.f 66 x = some (0, some 38) := by
  have hl : nameL.length = 30 := rfl
  have hL : refL.length = 29 := rfl
  unfold calls_Find.f slices_Index_string_string.f
  by_cases h0 : x.toList = []
  · have h := index_hit nameL x (by decide) 0 (by decide) (h0.trans (nil0 (by decide)).symm) 0 66 0 rfl (by omega) (by omega) (fun t ht h1 h2 => by omega)
    have h' : slices_Index_string_string.l0 66 nameL x nameL.length 0 = some ((0 : Nat) : Int) := h
    rw [h', bind_go, if_pos (by decide)]
  · have h := index_none nameL x (by decide) 30 66 0 (by omega) (by omega) (by omega) (fun t ht h1 => by
      rcases t with _ | t
      · exact fun e => h0 (e.trans (nil0 ht))
      · have ht' : t < refL.length := by omega
        simp only [nameL_eq, List.getElem_cons_succ]
        exact (hne t ht').symm)
    have h' : slices_Index_string_string.l0 66 nameL x nameL.length 0 = some (-1) := h
    rw [h', bind_go, if_pos (by decide)]
theorem ends (x0 x1 : Int) (x9 : ByteArray) (x10 : Int) (x13 : ByteArray) (h1 : calls_Name.f x0 = some x9) (h2 : calls_Args.f x0 = some x10) (h3 : calls_Ask.f x1 = some x13) :
    halterlaw28_CallsNames.j5 66 x0 x1 refL x9 x10 x13 false = some true := by
  have hs : halterlaw28_sure.f 65 = some true := by decide +kernel
  simp only [halterlaw28_CallsNames.j5]
  rw [if_neg (show ¬ (false = true) by decide), h1, bind_go, if_pos rfl, h2, bind_go, if_pos rfl, h3, bind_go, if_pos rfl, refL_len, if_pos (show (30 : Int) = wrap64 (((29 : Nat) : Int) + 1) by unfold wrap64; decide), hs, bind_go]
theorem four (x0 x1 : Int) (x : ByteArray) (x9 : ByteArray) (x10 : Int) (x13 : ByteArray) (m : Int) (h5 : halterlaw28_CallsNames.j5 66 x0 x1 refL x9 x10 x13 false = some true)
    (hm : (m = -1 ∧ calls_Find.f 66 x = some (0, some 38)) ∨ (0 < m ∧ calls_Find.f 66 x = some (m, none))) : halterlaw28_CallsNames.j4 67 x0 x1 x refL x9 x10 m x13 = some true := by
  simp only [halterlaw28_CallsNames.j4]
  rcases hm with ⟨rfl, hf⟩ | ⟨hp, hf⟩
  · rw [hf, bind_go, if_pos (by decide)]
    simp only [halterlaw28_num.f]
    rw [bind_go, if_pos (show (Option.getD (some (38 : Int)) 0 = 38) from rfl), if_pos trivial, if_neg (show ¬ ((-1 : Int) > 0) by decide)]
    exact h5
  · rw [hf, bind_go, if_neg (show ¬ m < 0 by omega), if_pos (show m > 0 by omega), if_pos (show ((none : Option Int).isNone = true) from rfl), show ((m != m) = false) by simp]
    exact h5

theorem three (x0 x1 : Int) (x : ByteArray) (x9 : ByteArray) (x10 : Int) (m : Int) (h1 : calls_Name.f x0 = some x9) (h2 : calls_Args.f x0 = some x10)
    (hm : (m = -1 ∧ calls_Find.f 66 x = some (0, some 38)) ∨ (0 < m ∧ calls_Find.f 66 x = some (m, none))) : after 68 x0 x1 x refL x9 x10 m = some true := by
  have e13 : askL.length = 13 := rfl
  have hout : ¬ (0 ≤ x1 ∧ x1 < 13) → halterlaw28_CallsNames.j3 68 x0 x1 x refL x9 x10 m (⟨#[]⟩ : ByteArray) false = some true := by
    intro h
    simp only [halterlaw28_CallsNames.j3]
    rw [if_neg (show ¬ (false = true) by decide)]
    exact four x0 x1 x x9 x10 _ m (ends x0 x1 x9 x10 _ h1 h2 (by unfold calls_Ask.f; rw [if_neg h])) hm
  unfold after
  by_cases h0 : 0 ≤ x1
  · rw [if_pos (show x1 ≥ 0 from h0)]
    by_cases h3 : x1 < 13
    · rw [show decide (x1 < 13) = true from decide_eq_true h3]
      simp only [halterlaw28_CallsNames.j3]
      rw [if_pos trivial, asks_eq, bind_go, if_pos h0, e13, if_pos (show x1 < ((13 : Nat) : Int) by omega)]
      refine four x0 x1 x x9 x10 _ m (ends x0 x1 x9 x10 _ h1 h2 ?_) hm
      unfold calls_Ask.f
      rw [if_pos ⟨h0, h3⟩]
      rfl
    · rw [show decide (x1 < 13) = false from decide_eq_false h3]
      exact hout (fun h => h3 h.2)
  · rw [if_neg (show ¬ x1 ≥ 0 from h0)]
    exact hout (fun h => h0 h.1)
theorem two (x0 x1 : Int) (x : ByteArray) (x9 : ByteArray) (x10 : Int) (h1 : calls_Name.f x0 = some x9) (h2 : calls_Args.f x0 = some x10) :
    halterlaw28_CallsNames.l0 98 x0 x1 x refL x9 x10 (-1) ((0 : Nat) : Int) = some true := by
  by_cases h : ∃ (j : Nat) (hj : j < refL.length), refL[j].toList = x.toList
  · obtain ⟨j, hj, he⟩ := h
    have h := loop_hit refL x (by decide) x0 x1 x9 x10 j hj he (fun t ht hne e => unlike t j ht hj hne (e.trans he.symm)) j 98 0 (-1) rfl (by omega) (by decide)
    rw [h]
    exact three x0 x1 x x9 x10 _ h1 h2 (.inr ⟨by omega, find_hit x j hj he⟩)
  · have hne : ∀ (t : Nat) (ht : t < refL.length), refL[t].toList ≠ x.toList := fun t ht e => h ⟨t, ht, e⟩
    rw [loop_none refL x (by decide) x0 x1 x9 x10 (-1) 29 98 0 rfl (by decide) (by decide) (fun t ht _ => hne t ht)]
    exact three x0 x1 x x9 x10 _ h1 h2 (.inl ⟨rfl, find_none x hne⟩)
theorem one (x0 x1 : Int) (x : ByteArray) (x9 : ByteArray) (x10 : Int) (h1 : calls_Name.f x0 = some x9) (h2 : calls_Args.f x0 = some x10) :
    halterlaw28_CallsNames.j1 99 x0 x1 x refL x9 x10 (-1) = some true := two x0 x1 x x9 x10 h1 h2
theorem CallsNames : halterlaw28_CallsNames.Pure := by
  intro x0 x1 x _ _ _
  refine ⟨100, ?_⟩
  have e29 : argL.tail.length = 29 := rfl
  have hout : ¬ (1 ≤ x0 ∧ x0 < 30) → halterlaw28_CallsNames.j0 100 x0 x1 x refL argL.tail (⟨#[]⟩ : ByteArray) 0 (-1) false = some true := by
    intro h
    simp only [halterlaw28_CallsNames.j0]
    rw [if_neg (show ¬ (false = true) by decide)]
    exact one x0 x1 x _ _ (by unfold calls_Name.f; rw [if_neg h]) (by unfold calls_Args.f; rw [if_neg h])
  unfold halterlaw28_CallsNames.f
  rw [calls_eq, bind_go]
  by_cases h0 : 1 ≤ x0
  · rw [if_pos (show x0 ≥ 1 from h0), refL_len]
    by_cases h3 : x0 ≤ 29
    · rw [show decide (x0 ≤ ((29 : Nat) : Int)) = true from decide_eq_true (by omega)]
      obtain ⟨n, rfl⟩ : ∃ n : Nat, x0 = ((n + 1 : Nat) : Int) := ⟨(x0 - 1).toNat, by omega⟩
      have ew : wrap64 (((n + 1 : Nat) : Int) - 1) = (n : Int) := by rw [w64 (by omega) (by omega)]; omega
      simp only [halterlaw28_CallsNames.j0]
      rw [if_pos trivial, ew, if_pos (show (0 : Int) ≤ (n : Int) by omega), refL_len, if_pos (show (n : Int) < ((29 : Nat) : Int) by omega), e29, if_pos (show (n : Int) < ((29 : Nat) : Int) by omega)]
      refine one _ x1 x _ _ ?_ ?_
      · unfold calls_Name.f
        rw [if_pos ⟨h0, by omega⟩]
        rfl
      · unfold calls_Args.f
        rw [if_pos ⟨h0, by omega⟩]
        rfl
    · rw [show decide (x0 ≤ ((29 : Nat) : Int)) = false from decide_eq_false (by omega)]
      exact hout (fun h => by omega)
  · rw [if_neg (show ¬ x0 ≥ 1 from h0)]
    exact hout (fun h => h0 h.1)

end Go.Proofs.YtfoobmiknmpeeaaDoor.Pure
