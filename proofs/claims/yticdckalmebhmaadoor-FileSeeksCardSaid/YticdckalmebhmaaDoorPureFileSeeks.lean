/- The plain law: what the law computes is true, whatever it is handed. -/
import Derived.Test.YticdckalmebhmaaDoorGFileSeeks
import Derived.Test.YticdckalmebhmaaDoorE16
set_option linter.unusedVariables false
set_option linter.unusedSimpArgs false
set_option linter.unnecessarySimpa false
namespace Go.Proofs.YticdckalmebhmaaDoor.Pure
open Go Go.Proofs.YticdckalmebhmaaDoorE Go.Proofs.YticdckalmebhmaaDoorGFileSeeks
theorem wu8 (x : Int) : IntKind.wrap .u8 x = x % 256 := by simp [IntKind.wrap, IntKind.bits, IntKind.signed]
theorem wu16 (x : Int) : IntKind.wrap .u16 x = x % 65536 := by simp [IntKind.wrap, IntKind.bits, IntKind.signed]
theorem wu32 (x : Int) : IntKind.wrap .u32 x = x % 4294967296 := by simp [IntKind.wrap, IntKind.bits, IntKind.signed]
theorem wu64 (x : Int) : IntKind.wrap .u64 x = x % 18446744073709551616 := by simp [IntKind.wrap, IntKind.bits, IntKind.signed]
theorem wi64 {x : Int} (h : -9223372036854775808 ≤ x) (h' : x ≤ 9223372036854775807) : IntKind.wrap .i64 x = x := by
  simp [IntKind.wrap, IntKind.bits, IntKind.signed]
  omega
theorem wu8_id {x : Int} (h : 0 ≤ x ∧ x < 256) : IntKind.wrap .u8 x = x := by rw [wu8]; omega
theorem wu32_id {x : Int} (h : 0 ≤ x ∧ x < 4294967296) : IntKind.wrap .u32 x = x := by rw [wu32]; omega
theorem wu64_id {x : Int} (h : 0 ≤ x ∧ x < 18446744073709551616) : IntKind.wrap .u64 x = x := by rw [wu64]; omega
theorem wsucc {i : Nat} (h : i < 9223372036854775807) : IntKind.wrap .i64 ((i : Int) + 1) = ((i + 1 : Nat) : Int) := by rw [wi64 (by omega) (by omega)]; omega
theorem u8_bd {a : Int} (h : (Lit.int .u8 a).wf = true) : 0 ≤ a ∧ a < 256 := by
  simpa [Lit.wf, IntKind.min, IntKind.max, IntKind.signed, IntKind.bits, ← Int.lt_add_one_iff] using h
theorem u32_bd {a : Int} (h : (Lit.int .u32 a).wf = true) : 0 ≤ a ∧ a < 4294967296 := by
  simpa [Lit.wf, IntKind.min, IntKind.max, IntKind.signed, IntKind.bits, ← Int.lt_add_one_iff] using h
theorem u64_bd {a : Int} (h : (Lit.int .u64 a).wf = true) : 0 ≤ a ∧ a < 18446744073709551616 := by
  simpa [Lit.wf, IntKind.min, IntKind.max, IntKind.signed, IntKind.bits, ← Int.lt_add_one_iff] using h
theorem i64_bd {a : Int} (h : (Lit.int .i64 a).wf = true) : -9223372036854775808 ≤ a ∧ a < 9223372036854775808 := by
  simpa [Lit.wf, IntKind.min, IntKind.max, IntKind.signed, IntKind.bits, ← Int.lt_add_one_iff] using h
theorem fuel_gt {n : Nat} (h : n < 18446744073709551616) : n < FUEL := h
theorem bind_go {α β : Type} (a : α) (f : α → Option β) : (some a).bind f = f a := by rw [Option.bind_some]
theorem drop_getD {α : Type} (l : List α) (i : Nat) (d : α) (h : i < l.length) : l.drop i = l.getD i d :: l.drop (i + 1) := by
  rw [List.drop_eq_getElem_cons h, List.getD_eq_getElem?_getD, List.getElem?_eq_getElem h, Option.getD_some]
theorem getD_mem {α : Type} (l : List α) (i : Nat) (d : α) (h : i < l.length) : l.getD i d ∈ l := by
  rw [List.getD_eq_getElem?_getD, List.getElem?_eq_getElem h, Option.getD_some]; exact List.getElem_mem _
theorem toNat_nat (i : Nat) : Int.toNat (i : Int) = i := rfl
/-- A number behind another one: a round of a loop. -/
theorem fuel_step {d n : Nat} (h : d < n) : ∃ m, n = m + 1 := ⟨n - 1, by omega⟩
/-- Where something stands first. -/
def first (v : Int) : List Int → Option Nat
  | [] => none
  | x :: xs => if x = v then some 0 else (first v xs).map (· + 1)
theorem first_none {v : Int} : ∀ {l : List Int}, first v l = none → ∀ z ∈ l, z ≠ v
  | [], _, z, hz => by cases hz
  | x :: xs, h, z, hz => by
    unfold first at h
    split at h
    · cases h
    · rename_i hx
      rcases List.mem_cons.1 hz with rfl | hz
      · exact hx
      · exact first_none (by simpa using h) z hz
theorem first_some {v : Int} : ∀ {l : List Int} {k : Nat}, first v l = some k → k < l.length ∧ l.getD k 0 = v ∧ ∀ j, j < k → l.getD j 0 ≠ v
  | [], _, h => by cases h
  | x :: xs, k, h => by
    unfold first at h
    split at h
    · cases h
      rename_i hx
      exact ⟨by simp, by simpa using hx, fun j hj => by omega⟩
    · rename_i hx
      cases hf : first v xs with
      | none => simp [hf] at h
      | some m =>
        simp [hf] at h
        subst h
        obtain ⟨h1, h2, h3⟩ := first_some hf
        refine ⟨by simp; omega, by simpa using h2, fun j hj => ?_⟩
        cases j with
        | zero => simpa using hx
        | succ j => simpa using h3 j (by omega)

/-! What files do. -/
theorem num_some (e : Int) : num.f (some e) = some e := rfl
theorem num_none : num.f none = some 0 := rfl
def eo (e : Int) : Option Int := if e = 0 then none else some e
theorem num_eo (e : Int) : num.f (eo e) = some e := by
  unfold num.f eo
  split
  · rename_i h; rw [h]; rfl
  · rfl
abbrev mayP (k id off : Int) (nm : ByteArray) : Prop := 0 ≤ k ∧ k ≤ 3 ∧ 0 ≤ id ∧ id ≤ 1073741824 ∧ 0 ≤ off ∧ off ≤ 1073741824 ∧ nm.size ≤ 256
theorem may_eq (k id off : Int) (r w : Bool) (nm : ByteArray) (rf : Int) : file_File_may.f k id off r w nm rf = some (decide (mayP k id off nm)) := by
  unfold file_File_may.f
  by_cases h1 : k ≥ 0
  · rw [if_pos h1]
    by_cases h2 : k ≤ 3
    · rw [if_pos h2]
      by_cases h3 : id ≥ 0
      · rw [if_pos h3]
        by_cases h4 : id ≤ 1073741824
        · rw [if_pos h4]
          by_cases h5 : off ≥ 0
          · rw [if_pos h5]
            by_cases h6 : off ≤ 1073741824
            · rw [if_pos h6]; congr 1; rw [decide_eq_decide]
              exact ⟨fun h => ⟨h1, h2, h3, h4, h5, h6, by omega⟩, fun h => by have := h.2.2.2.2.2.2; omega⟩
            · rw [if_neg h6]; congr 1; symm; rw [decide_eq_false_iff_not]; exact fun h => h6 h.2.2.2.2.2.1
          · rw [if_neg h5]; congr 1; symm; rw [decide_eq_false_iff_not]; exact fun h => h5 h.2.2.2.2.1
        · rw [if_neg h4]; congr 1; symm; rw [decide_eq_false_iff_not]; exact fun h => h4 h.2.2.2.1
      · rw [if_neg h3]; congr 1; symm; rw [decide_eq_false_iff_not]; exact fun h => h3 h.2.2.1
    · rw [if_neg h2]; congr 1; symm; rw [decide_eq_false_iff_not]; exact fun h => h2 h.2.1
  · rw [if_neg h1]; congr 1; symm; rw [decide_eq_false_iff_not]; exact fun h => h1 h.1
theorem sure_t : halterlaw19_sure.f = some true := by kernel_rfl

theorem rmay_eq (k id off : Int) (r w : Bool) (nm : ByteArray) (rf : Int) : halterref19_May.f k id off r w nm rf = some (decide (mayP k id off nm)) := may_eq k id off r w nm rf
def seekS (k id off : Int) (nm : ByteArray) (a way size : Int) : Int × Int :=
  if k = 1 ∨ k = 2 then (0, 29)
  else if ¬ mayP k id off nm ∨ way < 0 ∨ way > 2 ∨ size < 0 ∨ size > 1073741824 then (0, 22)
  else if a < -(if way = 0 then 0 else if way = 1 then off else size) ∨ a > 1073741824 - (if way = 0 then 0 else if way = 1 then off else size) then (0, 22)
  else ((if way = 0 then 0 else if way = 1 then off else size) + a, 0)
theorem Seek_p (k id off : Int) (r w : Bool) (nm : ByteArray) (rf a way size : Int) (ha : -9223372036854775808 ≤ a ∧ a < 9223372036854775808) : file_Seek.f k id off r w nm rf a way size = some ((seekS k id off nm a way size).1, eo (seekS k id off nm a way size).2) := by
  unfold file_Seek.f seekS
  by_cases h1 : k = 1
  · rw [if_pos h1, if_pos (Or.inl h1)]; rfl
  · rw [if_neg h1]
    by_cases h2 : k = 2
    · rw [if_pos h2, if_pos (Or.inr h2)]; rfl
    · rw [if_neg h2, if_neg (show ¬ (k = 1 ∨ k = 2) from fun h => h.elim h1 h2), may_eq, bind_go]
      by_cases hm : mayP k id off nm
      · rw [if_neg (fun h => h (decide_eq_true hm))]
        by_cases h3 : way < 0
        · rw [if_pos h3, if_pos (Or.inr (Or.inl h3))]; rfl
        · rw [if_neg h3]
          by_cases h4 : way > 2
          · rw [if_pos h4, if_pos (Or.inr (Or.inr (Or.inl h4)))]; rfl
          · rw [if_neg h4]
            by_cases h5 : size < 0
            · rw [if_pos h5, if_pos (Or.inr (Or.inr (Or.inr (Or.inl h5))))]; rfl
            · rw [if_neg h5]
              by_cases h6 : size > 1073741824
              · rw [if_pos h6, if_pos (Or.inr (Or.inr (Or.inr (Or.inr h6))))]; rfl
              · rw [if_neg h6, if_pos ⟨by omega, by omega⟩, if_neg (show ¬ (¬ mayP k id off nm ∨ way < 0 ∨ way > 2 ∨ size < 0 ∨ size > 1073741824) from fun h => by
                  rcases h with h | h | h | h | h
                  · exact h hm
                  · exact h3 h
                  · exact h4 h
                  · exact h5 h
                  · exact h6 h)]
                obtain ⟨_, _, _, _, g1, g2, _⟩ := hm
                have hf : List.getD [(0 : Int), off, size] (Int.toNat way) (0 : Int) = (if way = 0 then 0 else if way = 1 then off else size) := by
                  have : way = 0 ∨ way = 1 ∨ way = 2 := by omega
                  rcases this with rfl | rfl | rfl <;> rfl
                have hb : 0 ≤ (if way = 0 then 0 else if way = 1 then off else size) ∧ (if way = 0 then 0 else if way = 1 then off else size) ≤ 1073741824 := by
                  split
                  · omega
                  · split <;> omega
                rw [hf]
                generalize (if way = 0 then 0 else if way = 1 then off else size) = f at hb ⊢
                rw [wi64 (x := 0 - f) (by omega) (by omega), wi64 (x := 1073741824 - f) (by omega) (by omega)]
                by_cases h7 : a < 0 - f
                · rw [if_pos h7, if_pos (Or.inl (by omega))]; rfl
                · rw [if_neg h7]
                  by_cases h8 : a > 1073741824 - f
                  · rw [if_pos h8, if_pos (Or.inr h8)]; rfl
                  · rw [if_neg h8, if_neg (by omega), wi64 (by omega) (by omega)]; rfl
      · rw [if_pos (fun h => hm (of_decide_eq_true h)), if_pos (Or.inl hm)]; rfl
theorem Seek_r (k id off : Int) (r w : Bool) (nm : ByteArray) (rf a way size : Int) (ha : -9223372036854775808 ≤ a ∧ a < 9223372036854775808) : halterref19_Seek.f k id off r w nm rf a way size = some (seekS k id off nm a way size) := by
  unfold halterref19_Seek.f seekS
  by_cases h1 : k = 1
  · rw [if_pos h1, if_pos (Or.inl h1)]
  · rw [if_neg h1]
    by_cases h2 : k = 2
    · rw [if_pos h2, if_pos (Or.inr h2)]
    · rw [if_neg h2, if_neg (show ¬ (k = 1 ∨ k = 2) from fun h => h.elim h1 h2), rmay_eq, bind_go]
      by_cases hm : mayP k id off nm
      · rw [if_neg (fun h => h (decide_eq_true hm))]
        by_cases h3 : way < 0
        · rw [if_pos h3, if_pos (Or.inr (Or.inl h3))]
        · rw [if_neg h3]
          by_cases h4 : way > 2
          · rw [if_pos h4, if_pos (Or.inr (Or.inr (Or.inl h4)))]
          · rw [if_neg h4]
            by_cases h5 : size < 0
            · rw [if_pos h5, if_pos (Or.inr (Or.inr (Or.inr (Or.inl h5))))]
            · rw [if_neg h5]
              by_cases h6 : size > 1073741824
              · rw [if_pos h6, if_pos (Or.inr (Or.inr (Or.inr (Or.inr h6))))]
              · rw [if_neg h6, if_neg (show ¬ (¬ mayP k id off nm ∨ way < 0 ∨ way > 2 ∨ size < 0 ∨ size > 1073741824) from fun h => by
                  rcases h with h | h | h | h | h
                  · exact h hm
                  · exact h3 h
                  · exact h4 h
                  · exact h5 h
                  · exact h6 h)]
                obtain ⟨_, _, _, _, g1, g2, _⟩ := hm
                have hw : way = 0 ∨ way = 1 ∨ way = 2 := by omega
                by_cases h7 : a < -1073741824
                · rw [if_pos h7, if_pos]
                  rcases hw with rfl | rfl | rfl <;> simp <;> omega
                · rw [if_neg h7]
                  by_cases h8 : a > 1073741824
                  · rw [if_pos h8, if_pos]
                    rcases hw with rfl | rfl | rfl <;> simp <;> omega
                  · rw [if_neg h8]
                    rw [wi64 (x := a + off) (by omega) (by omega), wi64 (x := a + size) (by omega) (by omega)]
                    rcases hw with rfl | rfl | rfl
                    · simp only [if_neg (show ¬ (0 : Int) = 1 by decide), if_neg (show ¬ (0 : Int) = 2 by decide), if_pos]
                      by_cases h9 : a < 0
                      · rw [if_pos h9, if_pos (by omega)]
                      · rw [if_neg h9, if_neg (by omega)]; congr 2; omega
                    · simp only [if_neg (show ¬ (1 : Int) = 0 by decide), if_neg (show ¬ (1 : Int) = 2 by decide), if_pos]
                      by_cases h9 : a + off < 0
                      · rw [if_pos h9, if_pos (by omega)]
                      · rw [if_neg h9]
                        by_cases h10 : a + off > 1073741824
                        · rw [if_pos h10, if_pos (by omega)]
                        · rw [if_neg h10, if_neg (by omega)]; congr 2; omega
                    · simp only [if_neg (show ¬ (2 : Int) = 0 by decide), if_neg (show ¬ (2 : Int) = 1 by decide), if_pos]
                      by_cases h9 : a + size < 0
                      · rw [if_pos h9, if_pos (by omega)]
                      · rw [if_neg h9]
                        by_cases h10 : a + size > 1073741824
                        · rw [if_pos h10, if_pos (by omega)]
                        · rw [if_neg h10, if_neg (by omega)]; congr 2; omega
      · rw [if_pos (fun h => hm (of_decide_eq_true h)), if_pos (Or.inl hm)]
theorem FileSeeks (a0 : Int) (a1 : Int) (a2 : Int) (a3 : Bool) (a4 : Bool) (a5 : ByteArray) (a6 : Int) (a7 : (List Int)) (a8 : Int) (h0 : (Lit.int .i64 a0).wf = true) (h1 : (Lit.int .i64 a1).wf = true) (h2 : (Lit.int .i64 a2).wf = true) (h3 : ByteArray.size a5 ≤ maxLen) (h4 : (Lit.int .i64 a6).wf = true) (h5 : List.length a7 = 2) (h6 : ∀ z ∈ a7, (Lit.int .i64 z).wf = true) (h7 : (Lit.int .i64 a8).wf = true) : halterlaw19_FileSeeks.f a0 a1 a2 a3 a4 a5 a6 a7 a8 = some true := by
  unfold halterlaw19_FileSeeks.f
  by_cases hs : ((ByteArray.size a5 : Nat) : Int) > 1000
  · rw [if_pos hs, sure_t, bind_go]
  · rw [if_neg hs]
    have hb := i64_bd (h6 _ (getD_mem a7 0 0 (by omega)))
    rw [Seek_p _ _ _ _ _ _ _ _ _ _ hb, bind_go, Seek_r _ _ _ _ _ _ _ _ _ _ hb, bind_go]
    dsimp only
    rw [if_pos rfl, num_eo, bind_go, if_pos rfl, sure_t, bind_go]

end Go.Proofs.YticdckalmebhmaaDoor.Pure
