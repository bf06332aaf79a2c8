/- For every two numbers of 32 bits: word's quotients, with signs and without, and what is left, or the error, are the reference's. No condition. -/
import Derived.Test.YtgomfkjdffcbhaaDoorPWordPartsx2
set_option linter.unusedVariables false
set_option linter.unusedSimpArgs false
set_option linter.unnecessarySimpa false
namespace Go.Proofs.YtgomfkjdffcbhaaDoor.Pure
open Go.RowKit Go.Proofs.YtgomfkjdffcbhaaDoor.PWordParts Go.Proofs.YtgomfkjdffcbhaaDoorW.PrintWords Go.Proofs.YtgomfkjdffcbhaaDoorW.PrintLast Go.Proofs.YtgomfkjdffcbhaaDoorW.PrintMore

theorem u64w (x : Int) : IntKind.u64.wrap x = x % 18446744073709551616 := by simp [IntKind.wrap, IntKind.bits, IntKind.signed]
theorem u32_bd {a : Int} (h : (Lit.int .u32 a).wf = true) : 0 ≤ a ∧ a ≤ 4294967295 := by
  simpa [Lit.wf, IntKind.min, IntKind.max, IntKind.signed, IntKind.bits] using h
theorem i64_bd {a : Int} (h : (Lit.int .i64 a).wf = true) : -9223372036854775808 ≤ a ∧ a ≤ 9223372036854775807 := by
  simpa [Lit.wf, IntKind.min, IntKind.max, IntKind.signed, IntKind.bits] using h
theorem tmod_pos {a m : Int} (h : 0 ≤ a) : Int.tmod a m = a % m := Int.tmod_eq_emod_of_nonneg h
theorem tdiv_pos {a m : Int} (h : 0 ≤ a) : Int.tdiv a m = a / m := Int.tdiv_eq_ediv_of_nonneg h
theorem w64 {x : Int} (h0 : -9223372036854775808 ≤ x) (h1 : x ≤ 9223372036854775807) : wrap64 x = x := by unfold wrap64; omega

theorem of_eq (x : Int) : halterref01_Of.f x = some (x % 4294967296) := by
  unfold halterref01_Of.f
  have h : Int.tmod x 4294967296 = if 0 ≤ x then x % 4294967296 else -((-x) % 4294967296) := by
    by_cases h0 : 0 ≤ x
    · rw [if_pos h0, tmod_pos h0]
    · rw [if_neg h0]
      have := Int.neg_tmod (-x) 4294967296
      rw [Int.neg_neg] at this
      rw [this, tmod_pos (by omega)]
  rw [h]
  by_cases h0 : 0 ≤ x
  · rw [if_pos h0, if_neg (by omega)]
    congr 1
    omega
  · rw [if_neg h0]
    by_cases h1 : -((-x) % 4294967296) < 0
    · rw [if_pos h1, w64 (by omega) (by omega)]
      congr 1
      omega
    · rw [if_neg h1]
      congr 1
      omega
theorem sign_eq (x : Int) (h0 : 0 ≤ x) (h1 : x ≤ 4294967295) : halterref01_Sign.f x = some (if 2147483648 ≤ x then x - 4294967296 else x) := by
  unfold halterref01_Sign.f
  rw [w64 (x := x) (by omega) (by omega)]
  by_cases h : 2147483648 ≤ x
  · rw [if_pos h, if_pos h, w64 (by omega) (by omega)]
  · rw [if_neg h, if_neg h]

/-- A number with its sign. -/
def sg (a : Int) : Int := if 2147483648 ≤ a then a - 4294967296 else a
theorem sg_bd (a : Int) (h0 : 0 ≤ a) (h1 : a ≤ 4294967295) : -2147483648 ≤ sg a ∧ sg a ≤ 2147483647 ∧ (sg a = 0 ↔ a = 0) ∧ sg a % 4294967296 = a := by
  unfold sg
  by_cases h : 2147483648 ≤ a
  · rw [if_pos h]; omega
  · rw [if_neg h]; omega
theorem w32_sg (a : Int) (h0 : 0 ≤ a) (h1 : a ≤ 4294967295) : wrap64 (wrap32 a) = sg a := by
  unfold sg wrap64 wrap32
  by_cases h : 2147483648 ≤ a
  · rw [if_pos h]; omega
  · rw [if_neg h]; omega
theorem tdiv_bd (x y : Int) (h0 : -2147483648 ≤ x) (h1 : x ≤ 2147483647) (hy : y ≠ 0) : -2147483648 ≤ Int.tdiv x y ∧ Int.tdiv x y ≤ 2147483648 := by
  have h := Int.natAbs_tdiv_le_natAbs x y
  omega
theorem tmod_bd (x y : Int) (h0 : -2147483648 ≤ x) (h1 : x ≤ 2147483647) : -2147483648 ≤ Int.tmod x y ∧ Int.tmod x y ≤ 2147483648 := by
  have h : (Int.tmod x y).natAbs ≤ x.natAbs := by rw [Int.natAbs_tmod]; exact Nat.mod_le _ _
  omega
theorem signed_eq (a b : Int) (ha0 : 0 ≤ a) (ha : a ≤ 4294967295) (hb0 : 0 ≤ b) (hb : b ≤ 4294967295) (hz : b ≠ 0) :
    word_Signed.f a b = some (Int.tdiv (sg a) (sg b) % 4294967296, Int.tmod (sg a) (sg b) % 4294967296, none) := by
  have sa := sg_bd a ha0 ha
  have sb := sg_bd b hb0 hb
  have hy : sg b ≠ 0 := fun h => hz (sb.2.2.1.1 h)
  have hd := tdiv_bd (sg a) (sg b) sa.1 sa.2.1 hy
  unfold word_Signed.f
  rw [if_neg hz, w32_sg a ha0 ha, w32_sg b hb0 hb, if_neg hy, w64 (x := Int.tdiv (sg a) (sg b)) (by omega) (by omega)]

theorem refsigned_eq (k : Nat) (a b : Int) (ha0 : 0 ≤ a) (ha : a ≤ 4294967295) (hb0 : 0 ≤ b) (hb : b ≤ 4294967295) (hz : b ≠ 0) :
    halterref01_Signed.f (k + 2) a b = some (Int.tdiv (sg a) (sg b) % 4294967296, Int.tmod (sg a) (sg b) % 4294967296) := by
  have sa := sg_bd a ha0 ha
  have sb := sg_bd b hb0 hb
  have hy : sg b ≠ 0 := fun h => hz (sb.2.2.1.1 h)
  unfold halterref01_Signed.f
  rw [sign_eq a ha0 ha, sign_eq b hb0 hb]
  simp only [Option.bind_some]
  have e1 : (if 2147483648 ≤ a then a - 4294967296 else a) = sg a := rfl
  have e2 : (if 2147483648 ≤ b then b - 4294967296 else b) = sg b := rfl
  rw [e1, e2]
  obtain ⟨x1, x2, _, _⟩ := sa
  obtain ⟨y1, y2, _, _⟩ := sb
  generalize sg a = x at *
  generalize sg b = y at *
  clear e1 e2
  have hd := tdiv_bd x y x1 x2 hy
  have hm := tmod_bd x y x1 x2
  by_cases hx : x < 0
  · rw [if_pos hx, w64 (x := -x) (by omega) (by omega)]
    simp only [halterref01_Signed.j0]
    by_cases hy' : y < 0
    · rw [if_pos hy', w64 (x := -y) (by omega) (by omega)]
      simp only [halterref01_Signed.j1]
      rw [if_neg (by omega), if_pos hx, if_pos hy', Int.neg_tdiv, Int.tdiv_neg, Int.neg_neg, Int.neg_tmod, Int.tmod_neg, Int.neg_neg, w64 (by omega) (by omega), w64 (by omega) (by omega), of_eq, of_eq]
      rfl
    · rw [if_neg hy']
      simp only [halterref01_Signed.j1]
      rw [if_neg hy, if_pos hx, if_neg hy', Int.neg_tdiv, w64 (x := -(x.tdiv y)) (by omega) (by omega), Int.neg_neg, Int.neg_tmod, Int.neg_neg, w64 (by omega) (by omega), w64 (by omega) (by omega), of_eq, of_eq]
      rfl
  · rw [if_neg hx]
    simp only [halterref01_Signed.j0]
    by_cases hy' : y < 0
    · rw [if_pos hy', w64 (x := -y) (by omega) (by omega)]
      simp only [halterref01_Signed.j1]
      rw [if_neg (by omega), if_neg hx, if_pos hy', Int.tdiv_neg, w64 (x := -(x.tdiv y)) (by omega) (by omega), Int.neg_neg, Int.tmod_neg, w64 (by omega) (by omega), of_eq, of_eq]
      rfl
    · rw [if_neg hy']
      simp only [halterref01_Signed.j1]
      rw [if_neg hy, if_neg hx, if_neg hy', w64 (by omega) (by omega), of_eq, of_eq]
      rfl
theorem WordParts : halterlaw01_WordParts.Pure := by
  intro a b ha hb
  obtain ⟨ha0, ha1⟩ := u32_bd ha
  obtain ⟨hb0, hb1⟩ := u32_bd hb
  refine ⟨67, ?_⟩
  have hs : halterlaw01_sure.f 67 = some true := by decide +kernel
  unfold halterlaw01_WordParts.f
  by_cases hz : b = 0
  · subst hz
    simp [word_Div.f, word_Signed.f, halterlaw01_num.f, hs]
  · have hd : word_Div.f a b = some (Int.tdiv a b % 4294967296, Int.tmod a b, none) := by
      unfold word_Div.f
      rw [if_neg hz]
    rw [hd, signed_eq a b ha0 ha1 hb0 hb1 hz, refsigned_eq 65 a b ha0 ha1 hb0 hb1 hz]
    simp [hz, hs]

end Go.Proofs.YtgomfkjdffcbhaaDoor.Pure
