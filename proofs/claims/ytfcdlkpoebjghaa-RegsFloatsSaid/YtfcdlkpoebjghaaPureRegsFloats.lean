/- The plain law: what the law computes is true, whatever it is handed. -/
import Derived.Test.YtfcdlkpoebjghaaGRegsFloats
import Derived.Laws.BitsAllLaws
set_option linter.unusedVariables false
set_option linter.unusedSimpArgs false
set_option linter.unnecessarySimpa false
namespace Go.Proofs.Ytfcdlkpoebjghaa.Pure
open Go Go.Proofs.YtfcdlkpoebjghaaE Go.Proofs.YtfcdlkpoebjghaaGRegsFloats
theorem wu32 (x : Int) : IntKind.wrap .u32 x = x % 4294967296 := by simp [IntKind.wrap, IntKind.bits, IntKind.signed]
theorem wu64 (x : Int) : IntKind.wrap .u64 x = x % 18446744073709551616 := by simp [IntKind.wrap, IntKind.bits, IntKind.signed]
theorem wi64 {x : Int} (h : -9223372036854775808 ≤ x) (h' : x ≤ 9223372036854775807) : IntKind.wrap .i64 x = x := by
  simp [IntKind.wrap, IntKind.bits, IntKind.signed]
  omega
theorem u32_bd {a : Int} (h : (Lit.int .u32 a).wf = true) : 0 ≤ a ∧ a < 4294967296 := by
  simpa [Lit.wf, IntKind.min, IntKind.max, IntKind.signed, IntKind.bits, ← Int.lt_add_one_iff] using h
theorem u64_bd {a : Int} (h : (Lit.int .u64 a).wf = true) : 0 ≤ a ∧ a < 18446744073709551616 := by
  simpa [Lit.wf, IntKind.min, IntKind.max, IntKind.signed, IntKind.bits, ← Int.lt_add_one_iff] using h
theorem fuel5 : FUEL = 18446744073709551611 + 5 := by kernel_rfl
theorem shr32 (f : Int) : shr .u64 f 32 = f / 4294967296 := by simp [shr, IntKind.bits]
theorem sure_eq : halterlaw10_sure.f = some true := by kernel_rfl
theorem words_eq (x0 x1 x2 x3 x4 x5 x6 x7 x8 x9 x10 x11 x12 x13 x14 x15 a1 a2 f0 f1 f2 f3 : Int) :
    regs_words.f [x0, x1, x2, x3, x4, x5, x6, x7, x8, x9, x10, x11, x12, x13, x14, x15] a1 a2 [f0, f1, f2, f3] =
      some [x0, x1, x2, x3, x4, x5, x6, x7, x8, x9, x10, x11, x12, x13, x14, x15, a1, a2, f0 % 4294967296, f0 / 4294967296 % 4294967296, f1 % 4294967296, f1 / 4294967296 % 4294967296, f2 % 4294967296, f2 / 4294967296 % 4294967296, f3 % 4294967296, f3 / 4294967296 % 4294967296] := by
  unfold regs_words.f
  rw [fuel5]
  simp [regs_words.l0, wi64, wu32, shr32]
theorem shl32 {g : Int} (h : 0 ≤ g ∧ g < 4294967296) : shl .u64 (IntKind.wrap .u64 g) 32 = g * 4294967296 := by
  simp only [shl, wu64, IntKind.bits]
  have : (min (Int.toNat 32) 64) = 32 := by decide
  rw [this]
  simp
  omega
theorem or_join {f g : Int} (hf : 0 ≤ f ∧ f < 4294967296) (hg : 0 ≤ g ∧ g < 4294967296) : bits .or .u64 (IntKind.wrap .u64 f) (shl .u64 (IntKind.wrap .u64 g) 32) = f + g * 4294967296 := by
  rw [shl32 hg, wu64]
  have e : f % 18446744073709551616 = f := by omega
  rw [e, u64_or _ _ hf.1 (by omega) (by omega) (by omega)]
  obtain ⟨a, rfl⟩ := Int.eq_ofNat_of_zero_le hf.1
  obtain ⟨b, rfl⟩ := Int.eq_ofNat_of_zero_le hg.1
  have h1 : (Int.toNat (a : Int)) = a := rfl
  have h2 : (Int.toNat ((b : Int) * 4294967296)) = 2 ^ 32 * b := by omega
  rw [h1, h2, Nat.or_comm, ← Nat.two_pow_add_eq_or_of_lt (by omega : a < 2 ^ 32)]
  omega
theorem of_eq (w0 w1 w2 w3 w4 w5 w6 w7 w8 w9 w10 w11 w12 w13 w14 w15 w16 w17 l0 h0 l1 h1 l2 h2 l3 h3 : Int)
    (c0 : 0 ≤ l0 ∧ l0 < 4294967296) (d0 : 0 ≤ h0 ∧ h0 < 4294967296) (c1 : 0 ≤ l1 ∧ l1 < 4294967296) (d1 : 0 ≤ h1 ∧ h1 < 4294967296) (c2 : 0 ≤ l2 ∧ l2 < 4294967296) (d2 : 0 ≤ h2 ∧ h2 < 4294967296) (c3 : 0 ≤ l3 ∧ l3 < 4294967296) (d3 : 0 ≤ h3 ∧ h3 < 4294967296) :
    regs_of.f [w0, w1, w2, w3, w4, w5, w6, w7, w8, w9, w10, w11, w12, w13, w14, w15, w16, w17, l0, h0, l1, h1, l2, h2, l3, h3] =
      if w17 ≥ 32 then some (List.replicate 16 (0 : Int), 0, 0, List.replicate 4 (0 : Int), some 22)
      else some ([w0, w1, w2, w3, w4, w5, w6, w7, w8, w9, w10, w11, w12, w13, w14, w15], w16, w17, [l0 + h0 * 4294967296, l1 + h1 * 4294967296, l2 + h2 * 4294967296, l3 + h3 * 4294967296], none) := by
  unfold regs_of.f
  rw [fuel5]
  simp [regs_of.l0, wi64, or_join, c0, d0, c1, d1, c2, d2, c3, d3, regs_Check.f]
  split <;> simp_all
theorem mod_bd (x : Int) : 0 ≤ x % 4294967296 ∧ x % 4294967296 < 4294967296 := by omega
theorem joinf {f : Int} (h : 0 ≤ f ∧ f < 18446744073709551616) : f % 4294967296 + f / 4294967296 % 4294967296 * 4294967296 = f := by omega
theorem tmod32 {f : Int} (h : 0 ≤ f ∧ f < 18446744073709551616) : Int.tmod f 4294967296 = f % 4294967296 := Int.tmod_eq_emod_of_nonneg h.1
theorem tdiv32 {f : Int} (h : 0 ≤ f ∧ f < 18446744073709551616) : Int.tdiv f 4294967296 = f / 4294967296 := Int.tdiv_eq_ediv_of_nonneg h.1
theorem len16 {l : List Int} (h : l.length = 16) : ∃ x0 x1 x2 x3 x4 x5 x6 x7 x8 x9 x10 x11 x12 x13 x14 x15, l = [x0, x1, x2, x3, x4, x5, x6, x7, x8, x9, x10, x11, x12, x13, x14, x15] := by
  match l, h with
  | [x0, x1, x2, x3, x4, x5, x6, x7, x8, x9, x10, x11, x12, x13, x14, x15], _ => exact ⟨_, _, _, _, _, _, _, _, _, _, _, _, _, _, _, _, rfl⟩
theorem len4 {l : List Int} (h : l.length = 4) : ∃ x0 x1 x2 x3, l = [x0, x1, x2, x3] := by
  match l, h with
  | [x0, x1, x2, x3], _ => exact ⟨_, _, _, _, rfl⟩
theorem shr32' {f : Int} (h : 0 ≤ f ∧ f < 18446744073709551616) : IntKind.wrap .u32 (f / 4294967296) = f / 4294967296 := by rw [wu32]; omega
theorem RegsFloats (a0 : (List Int)) (a1 : Int) (a2 : Int) (a3 : (List Int)) (a4 : Int) (a5 : Int) (h0 : List.length a0 = 16) (h1 : ∀ z ∈ a0, (Lit.int .u32 z).wf = true) (h2 : (Lit.int .u32 a1).wf = true) (h3 : (Lit.int .u32 a2).wf = true) (h4 : List.length a3 = 4) (h5 : ∀ z ∈ a3, (Lit.int .u64 z).wf = true) (h6 : (Lit.int .i64 a4).wf = true) (h7 : (Lit.int .u64 a5).wf = true) : halterlaw10_RegsFloats.f a0 a1 a2 a3 a4 a5 = some true := by
  obtain ⟨x0, x1, x2, x3, x4, x5, x6, x7, x8, x9, x10, x11, x12, x13, x14, x15, rfl⟩ := len16 h0
  obtain ⟨f0, f1, f2, f3, rfl⟩ := len4 h4
  have F0 := u64_bd (h5 f0 (by simp))
  have F1 := u64_bd (h5 f1 (by simp))
  have F2 := u64_bd (h5 f2 (by simp))
  have F3 := u64_bd (h5 f3 (by simp))
  have A2 := u32_bd h3
  have A5 := u64_bd h7
  clear h0 h1 h2 h3 h4 h5 h6 h7
  have e2 : Int.tmod a2 32 = a2 % 32 := Int.tmod_eq_emod_of_nonneg A2.1
  have hk : IntKind.wrap .i64 (Int.tmod (IntKind.wrap .u64 a4) 4) = a4 % 18446744073709551616 % 4 := by
    rw [wu64, Int.tmod_eq_emod_of_nonneg (by omega)]
    exact wi64 (by omega) (by omega)
  have e5 : IntKind.wrap .u32 (Int.tmod a5 4294967296) = a5 % 4294967296 := by rw [tmod32 A5, wu32]; omega
  have e6 : IntKind.wrap .u32 (shr .u64 a5 32) = a5 / 4294967296 := by rw [shr32, wu32]; omega
  unfold halterlaw10_RegsFloats.f
  rw [hk, e2, e5, e6]
  have k4 : a4 % 18446744073709551616 % 4 = 0 ∨ a4 % 18446744073709551616 % 4 = 1 ∨ a4 % 18446744073709551616 % 4 = 2 ∨ a4 % 18446744073709551616 % 4 = 3 := by omega
  generalize a4 % 18446744073709551616 % 4 = k at k4
  have hd : 0 ≤ a5 / 4294967296 ∧ a5 / 4294967296 < 4294967296 := by omega
  have c2 : ¬ a2 % 32 ≥ 32 := by omega
  have j1 : ∀ l : Int, 0 ≤ l → l < 4294967296 → (l + a5 / 4294967296 * 4294967296) / 4294967296 % 4294967296 = a5 / 4294967296 := by intro l _ _; omega
  have j2 : ∀ (f : Int), 0 ≤ f ∧ f < 18446744073709551616 → (a5 % 4294967296 + f / 4294967296 % 4294967296 * 4294967296) % 4294967296 = a5 % 4294967296 := by intro f _; omega
  have j3 : (a5 % 4294967296 + a5 / 4294967296 * 4294967296) % 4294967296 = a5 % 4294967296 := by omega
  have j4 : a5 % 4294967296 + a5 / 4294967296 * 4294967296 = a5 := by omega
  have j5 : IntKind.wrap .u64 (IntKind.wrap .u64 (a5 % 4294967296) + shl .u64 (IntKind.wrap .u64 (a5 / 4294967296)) 32) = a5 := by
    rw [shl32 hd, wu64, wu64]; omega
  have j6 : a5 / 4294967296 % 4294967296 = a5 / 4294967296 := by omega
  have j7 : (a5 % 4294967296 + a5 / 4294967296 * 4294967296) / 4294967296 = a5 / 4294967296 := by omega
  rcases k4 with rfl | rfl | rfl | rfl
  all_goals
    simp [regs_Set.f, regs_Get.f, words_eq, of_eq, mod_bd, hd, joinf, F0, F1, F2, F3, c2, wi64, sure_eq, j2, j3, j4, j5, j6, j7, A5]
end Go.Proofs.Ytfcdlkpoebjghaa.Pure
