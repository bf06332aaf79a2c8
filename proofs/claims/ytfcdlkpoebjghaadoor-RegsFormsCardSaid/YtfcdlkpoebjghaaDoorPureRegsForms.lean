/- The plain law: what the law computes is true, whatever it is handed. -/
import Derived.Test.YtfcdlkpoebjghaaDoorGRegsForms
import Derived.Laws.BitsAllLaws
set_option linter.unusedVariables false
set_option linter.unusedSimpArgs false
set_option linter.unnecessarySimpa false
namespace Go.Proofs.YtfcdlkpoebjghaaDoor.Pure
open Go Go.Proofs.YtfcdlkpoebjghaaDoorE Go.Proofs.YtfcdlkpoebjghaaDoorGRegsForms
theorem wu32 (x : Int) : IntKind.wrap .u32 x = x % 4294967296 := by simp [IntKind.wrap, IntKind.bits, IntKind.signed]
theorem wu64 (x : Int) : IntKind.wrap .u64 x = x % 18446744073709551616 := by simp [IntKind.wrap, IntKind.bits, IntKind.signed]
theorem wi64 {x : Int} (h : -9223372036854775808 ≤ x) (h' : x ≤ 9223372036854775807) : IntKind.wrap .i64 x = x := by
  simp [IntKind.wrap, IntKind.bits, IntKind.signed]
  omega
theorem u32_bd {a : Int} (h : (Lit.int .u32 a).wf = true) : 0 ≤ a ∧ a < 4294967296 := by
  simpa [Lit.wf, IntKind.min, IntKind.max, IntKind.signed, IntKind.bits, ← Int.lt_add_one_iff] using h
theorem u64_bd {a : Int} (h : (Lit.int .u64 a).wf = true) : 0 ≤ a ∧ a < 18446744073709551616 := by
  simpa [Lit.wf, IntKind.min, IntKind.max, IntKind.signed, IntKind.bits, ← Int.lt_add_one_iff] using h
theorem fuel5 : FUEL = 18446744073709551611 + 5 := by kernel_rfl
theorem shr32 (f : Int) : shr .u64 f 32 = f / 4294967296 := by simp [shr, IntKind.bits]
theorem sure_eq : halterlaw10_sure.f = some true := by kernel_rfl
theorem words_eq (x0 x1 x2 x3 x4 x5 x6 x7 x8 x9 x10 x11 x12 x13 x14 x15 a1 a2 f0 f1 f2 f3 : Int) :
    regs_words.f [x0, x1, x2, x3, x4, x5, x6, x7, x8, x9, x10, x11, x12, x13, x14, x15] a1 a2 [f0, f1, f2, f3] =
      some [x0, x1, x2, x3, x4, x5, x6, x7, x8, x9, x10, x11, x12, x13, x14, x15, a1, a2, f0 % 4294967296, f0 / 4294967296 % 4294967296, f1 % 4294967296, f1 / 4294967296 % 4294967296, f2 % 4294967296, f2 / 4294967296 % 4294967296, f3 % 4294967296, f3 / 4294967296 % 4294967296] := by
  unfold regs_words.f
  rw [fuel5]
  simp [regs_words.l0, wi64, wu32, shr32]
theorem shl32 {g : Int} (h : 0 ≤ g ∧ g < 4294967296) : shl .u64 (IntKind.wrap .u64 g) 32 = g * 4294967296 := by
  simp only [shl, wu64, IntKind.bits]
  have : (min (Int.toNat 32) 64) = 32 := by decide
  rw [this]
  simp
  omega
theorem or_join {f g : Int} (hf : 0 ≤ f ∧ f < 4294967296) (hg : 0 ≤ g ∧ g < 4294967296) : bits .or .u64 (IntKind.wrap .u64 f) (shl .u64 (IntKind.wrap .u64 g) 32) = f + g * 4294967296 := by
  rw [shl32 hg, wu64]
  have e : f % 18446744073709551616 = f := by omega
  rw [e, u64_or _ _ hf.1 (by omega) (by omega) (by omega)]
  obtain ⟨a, rfl⟩ := Int.eq_ofNat_of_zero_le hf.1
  obtain ⟨b, rfl⟩ := Int.eq_ofNat_of_zero_le hg.1
  have h1 : (Int.toNat (a : Int)) = a := rfl
  have h2 : (Int.toNat ((b : Int) * 4294967296)) = 2 ^ 32 * b := by omega
  rw [h1, h2, Nat.or_comm, ← Nat.two_pow_add_eq_or_of_lt (by omega : a < 2 ^ 32)]
  omega
theorem of_eq (w0 w1 w2 w3 w4 w5 w6 w7 w8 w9 w10 w11 w12 w13 w14 w15 w16 w17 l0 h0 l1 h1 l2 h2 l3 h3 : Int)
    (c0 : 0 ≤ l0 ∧ l0 < 4294967296) (d0 : 0 ≤ h0 ∧ h0 < 4294967296) (c1 : 0 ≤ l1 ∧ l1 < 4294967296) (d1 : 0 ≤ h1 ∧ h1 < 4294967296) (c2 : 0 ≤ l2 ∧ l2 < 4294967296) (d2 : 0 ≤ h2 ∧ h2 < 4294967296) (c3 : 0 ≤ l3 ∧ l3 < 4294967296) (d3 : 0 ≤ h3 ∧ h3 < 4294967296) :
    regs_of.f [w0, w1, w2, w3, w4, w5, w6, w7, w8, w9, w10, w11, w12, w13, w14, w15, w16, w17, l0, h0, l1, h1, l2, h2, l3, h3] =
      if w17 ≥ 32 then some (List.replicate 16 (0 : Int), 0, 0, List.replicate 4 (0 : Int), some 22)
      else some ([w0, w1, w2, w3, w4, w5, w6, w7, w8, w9, w10, w11, w12, w13, w14, w15], w16, w17, [l0 + h0 * 4294967296, l1 + h1 * 4294967296, l2 + h2 * 4294967296, l3 + h3 * 4294967296], none) := by
  unfold regs_of.f
  rw [fuel5]
  simp [regs_of.l0, wi64, or_join, c0, d0, c1, d1, c2, d2, c3, d3, regs_Check.f]
  split <;> simp_all
theorem mod_bd (x : Int) : 0 ≤ x % 4294967296 ∧ x % 4294967296 < 4294967296 := by omega
theorem joinf {f : Int} (h : 0 ≤ f ∧ f < 18446744073709551616) : f % 4294967296 + f / 4294967296 % 4294967296 * 4294967296 = f := by omega
theorem tmod32 {f : Int} (h : 0 ≤ f ∧ f < 18446744073709551616) : Int.tmod f 4294967296 = f % 4294967296 := Int.tmod_eq_emod_of_nonneg h.1
theorem tdiv32 {f : Int} (h : 0 ≤ f ∧ f < 18446744073709551616) : Int.tdiv f 4294967296 = f / 4294967296 := Int.tdiv_eq_ediv_of_nonneg h.1
theorem refHi {f a : Int} (h : 0 ≤ f ∧ f < 18446744073709551616) (h' : 0 ≤ a ∧ a < 4294967296) : IntKind.wrap .u64 (Int.tmod f 4294967296 + IntKind.wrap .u64 (IntKind.wrap .u64 a * 4294967296)) = f % 4294967296 + a * 4294967296 := by
  rw [tmod32 h, wu64, wu64, wu64]; omega
theorem refLo {f a : Int} (h : 0 ≤ f ∧ f < 18446744073709551616) (h' : 0 ≤ a ∧ a < 4294967296) : IntKind.wrap .u64 (IntKind.wrap .u64 (IntKind.wrap .u64 (Int.tdiv f 4294967296) * 4294967296) + IntKind.wrap .u64 a) = a + f / 4294967296 % 4294967296 * 4294967296 := by
  rw [tdiv32 h, wu64, wu64, wu64, wu64]; omega
theorem len16 {l : List Int} (h : l.length = 16) : ∃ x0 x1 x2 x3 x4 x5 x6 x7 x8 x9 x10 x11 x12 x13 x14 x15, l = [x0, x1, x2, x3, x4, x5, x6, x7, x8, x9, x10, x11, x12, x13, x14, x15] := by
  match l, h with
  | [x0, x1, x2, x3, x4, x5, x6, x7, x8, x9, x10, x11, x12, x13, x14, x15], _ => exact ⟨_, _, _, _, _, _, _, _, _, _, _, _, _, _, _, _, rfl⟩
theorem len4 {l : List Int} (h : l.length = 4) : ∃ x0 x1 x2 x3, l = [x0, x1, x2, x3] := by
  match l, h with
  | [x0, x1, x2, x3], _ => exact ⟨_, _, _, _, rfl⟩
theorem orK {x b : Int} {k : Nat} (hk : k < 32) (hx : 0 ≤ x) (hx' : x.toNat < 2 ^ k) (hb : 0 ≤ b) (hb' : b * 2 ^ k < 4294967296) : bits .or .u32 x (b * 2 ^ k) = x + b * 2 ^ k := by
  obtain ⟨a, rfl⟩ := Int.eq_ofNat_of_zero_le hx
  obtain ⟨c, rfl⟩ := Int.eq_ofNat_of_zero_le hb
  have h0 : a < 4294967296 := Nat.lt_of_lt_of_le hx' (by
    have : 2 ^ k ≤ 2 ^ 32 := Nat.pow_le_pow_right (by omega) (by omega)
    simpa using this)
  have e : ((c : Int) * 2 ^ k) = ((2 ^ k * c : Nat) : Int) := by push_cast; exact Int.mul_comm _ _
  rw [e] at hb' ⊢
  rw [u32_or _ _ (by omega) (by omega) (by omega) hb']
  have h1 : Int.toNat (a : Int) = a := rfl
  have h2 : Int.toNat ((2 ^ k * c : Nat) : Int) = 2 ^ k * c := rfl
  rw [h1, h2, Nat.or_comm, ← Nat.two_pow_add_eq_or_of_lt (show a < 2 ^ k from hx')]
  push_cast
  exact Int.add_comm _ _
theorem shl_u32 {b : Int} (hb : 0 ≤ b ∧ b < 256) (k : Nat) (hk : k ≤ 24) : shl .u32 (IntKind.wrap .u32 b) (k : Int) = b * 2 ^ k := by
  have hp : (2 : Int) ^ k ≤ 2 ^ 24 := by
    have : 2 ^ k ≤ 2 ^ 24 := Nat.pow_le_pow_right (by omega) hk
    exact_mod_cast this
  have hp0 : (0 : Int) < 2 ^ k := by
    have : 0 < 2 ^ k := Nat.two_pow_pos k
    exact_mod_cast this
  simp only [shl, wu32, IntKind.bits]
  have e : min (Int.toNat (k : Int)) 32 = k := by simp; omega
  rw [e]
  have e2 : b % 4294967296 = b := by omega
  rw [e2]
  have h1 : 0 ≤ b * 2 ^ k := Int.mul_nonneg hb.1 (Int.le_of_lt hp0)
  have h2 : b * 2 ^ k ≤ 255 * 2 ^ 24 := Int.mul_le_mul (by omega) hp (Int.le_of_lt hp0) (by omega)
  exact Int.emod_eq_of_lt h1 (by omega)
def byteR (b : Int) : Prop := 0 ≤ b ∧ b < 256
theorem Load_eq {b0 b1 b2 b3 : Int} (c0 : 0 ≤ b0 ∧ b0 < 256) (c1 : 0 ≤ b1 ∧ b1 < 256) (c2 : 0 ≤ b2 ∧ b2 < 256) (c3 : 0 ≤ b3 ∧ b3 < 256) : word_Load.f [b0, b1, b2, b3] = some (b0 + b1 * 256 + b2 * 65536 + b3 * 16777216, none) := by
  have e0 : bits .or .u32 0 (shl .u32 (IntKind.wrap .u32 b0) 0) = b0 := by
    have := orK (x := 0) (b := b0) (k := 0) (by omega) (by omega) (by simp) c0.1 (by omega)
    rw [show (0 : Int) = ((0 : Nat) : Int) from rfl, shl_u32 c0 0 (by omega)]
    simpa using this
  have e1 : bits .or .u32 b0 (shl .u32 (IntKind.wrap .u32 b1) 8) = b0 + b1 * 256 := by
    have := orK (x := b0) (b := b1) (k := 8) (by omega) c0.1 (by omega) c1.1 (by omega)
    rw [show (8 : Int) = ((8 : Nat) : Int) from rfl, shl_u32 c1 8 (by omega)]
    simpa using this
  have e2 : bits .or .u32 (b0 + b1 * 256) (shl .u32 (IntKind.wrap .u32 b2) 16) = b0 + b1 * 256 + b2 * 65536 := by
    have := orK (x := b0 + b1 * 256) (b := b2) (k := 16) (by omega) (by omega) (by omega) c2.1 (by omega)
    rw [show (16 : Int) = ((16 : Nat) : Int) from rfl, shl_u32 c2 16 (by omega)]
    simpa using this
  have e3 : bits .or .u32 (b0 + b1 * 256 + b2 * 65536) (shl .u32 (IntKind.wrap .u32 b3) 24) = b0 + b1 * 256 + b2 * 65536 + b3 * 16777216 := by
    have := orK (x := b0 + b1 * 256 + b2 * 65536) (b := b3) (k := 24) (by omega) (by omega) (by omega) c3.1 (by omega)
    rw [show (24 : Int) = ((24 : Nat) : Int) from rfl, shl_u32 c3 24 (by omega)]
    simpa using this
  unfold word_Load.f
  rw [fuel5]
  simp [word_sized.f, word_Load.l0, wi64, e0, e1, e2, e3]
def By (w : Int) : List Int := [w % 256, w / 256 % 256, w / 65536 % 256, w / 16777216 % 256]
theorem By_len (w : Int) : (By w).length = 4 := rfl
theorem wu8 (x : Int) : IntKind.wrap .u8 x = x % 256 := by simp [IntKind.wrap, IntKind.bits, IntKind.signed]
theorem shr8 (f : Int) : shr .u32 f 8 = f / 256 := by simp [shr, IntKind.bits]
theorem Store_eq (w : Int) : word_Store.f w 4 = some (By w, none) := by
  unfold word_Store.f
  rw [fuel5]
  simp [word_sized.f, word_Store.l0, wi64, wu8, shr8, By]
  omega
theorem refStore {x : List Int} {w : Int} (hl : x.length ≤ 1000) (hw : 0 ≤ w ∧ w < 4294967296) (x38 : Int) (a0 : List Int) (a1 a2 : Int) (a3 : List Int) : halterref10_Encode.l1 x38 a0 a1 a2 a3 FUEL x w 0 = some (x ++ By w) := by
  rw [fuel5]
  have t0 : Int.tmod w 256 = w % 256 := Int.tmod_eq_emod_of_nonneg hw.1
  have d0 : IntKind.wrap .u32 (Int.tdiv w 256) = w / 256 := by rw [Int.tdiv_eq_ediv_of_nonneg hw.1, wu32]; omega
  have t1 : Int.tmod (w / 256) 256 = w / 256 % 256 := Int.tmod_eq_emod_of_nonneg (by omega)
  have d1 : IntKind.wrap .u32 (Int.tdiv (w / 256) 256) = w / 65536 := by rw [Int.tdiv_eq_ediv_of_nonneg (by omega), wu32]; omega
  have t2 : Int.tmod (w / 65536) 256 = w / 65536 % 256 := Int.tmod_eq_emod_of_nonneg (by omega)
  have d2 : IntKind.wrap .u32 (Int.tdiv (w / 65536) 256) = w / 16777216 := by rw [Int.tdiv_eq_ediv_of_nonneg (by omega), wu32]; omega
  have t3 : Int.tmod (w / 16777216) 256 = w / 16777216 % 256 := Int.tmod_eq_emod_of_nonneg (by omega)
  simp [halterref10_Encode.l1, wi64, wu8, t0, d0, t1, d1, t2, d2, t3, By, show x.length + 1 ≤ 140737488355328 by omega, show x.length + 1 + 1 ≤ 140737488355328 by omega, show x.length + 1 + 1 + 1 ≤ 140737488355328 by omega, show x.length + 1 + 1 + 1 + 1 ≤ 140737488355328 by omega,
    show x.length + 1 ≤ 9223372036854775807 by omega, show x.length + 1 + 1 ≤ 9223372036854775807 by omega, show x.length + 1 + 1 + 1 ≤ 9223372036854775807 by omega, show x.length + 1 + 1 + 1 + 1 ≤ 9223372036854775807 by omega]

/-- The words of registers. -/
abbrev Wd (x0 x1 x2 x3 x4 x5 x6 x7 x8 x9 x10 x11 x12 x13 x14 x15 a1 a2 f0 f1 f2 f3 : Int) : List Int :=
  [x0, x1, x2, x3, x4, x5, x6, x7, x8, x9, x10, x11, x12, x13, x14, x15, a1, a2, f0 % 4294967296, f0 / 4294967296 % 4294967296, f1 % 4294967296, f1 / 4294967296 % 4294967296, f2 % 4294967296, f2 / 4294967296 % 4294967296, f3 % 4294967296, f3 / 4294967296 % 4294967296]
theorem six26 {i : Int} (h : 0 ≤ i) (h' : i < 26) : i = 0 ∨ i = 1 ∨ i = 2 ∨ i = 3 ∨ i = 4 ∨ i = 5 ∨ i = 6 ∨ i = 7 ∨ i = 8 ∨ i = 9 ∨ i = 10 ∨ i = 11 ∨ i = 12 ∨ i = 13 ∨ i = 14 ∨ i = 15 ∨ i = 16 ∨ i = 17 ∨ i = 18 ∨ i = 19 ∨ i = 20 ∨ i = 21 ∨ i = 22 ∨ i = 23 ∨ i = 24 ∨ i = 25 := by omega
theorem hiW {f : Int} (h : 0 ≤ f ∧ f < 18446744073709551616) : IntKind.wrap .u32 (IntKind.wrap .u64 (Int.tdiv f 4294967296)) = f / 4294967296 % 4294967296 := by
  rw [tdiv32 h, wu64, wu32]; omega
theorem loW {f : Int} (h : 0 ≤ f ∧ f < 18446744073709551616) : IntKind.wrap .u32 (Int.tmod f 4294967296) = f % 4294967296 := by
  rw [tmod32 h, wu32]; omega
theorem Word_eq (x0 x1 x2 x3 x4 x5 x6 x7 x8 x9 x10 x11 x12 x13 x14 x15 a1 a2 f0 f1 f2 f3 : Int) (F0 : 0 ≤ f0 ∧ f0 < 18446744073709551616) (F1 : 0 ≤ f1 ∧ f1 < 18446744073709551616) (F2 : 0 ≤ f2 ∧ f2 < 18446744073709551616) (F3 : 0 ≤ f3 ∧ f3 < 18446744073709551616)
    (i : Int) (h : 0 ≤ i) (h' : i < 26) : halterref10_Word.f [x0, x1, x2, x3, x4, x5, x6, x7, x8, x9, x10, x11, x12, x13, x14, x15] a1 a2 [f0, f1, f2, f3] i = some ((Wd x0 x1 x2 x3 x4 x5 x6 x7 x8 x9 x10 x11 x12 x13 x14 x15 a1 a2 f0 f1 f2 f3).getD i.toNat 0) := by
  rcases six26 h h' with rfl | rfl | rfl | rfl | rfl | rfl | rfl | rfl | rfl | rfl | rfl | rfl | rfl | rfl | rfl | rfl | rfl | rfl | rfl | rfl | rfl | rfl | rfl | rfl | rfl | rfl <;>
    simp [halterref10_Word.f, wi64, hiW, loW, F0, F1, F2, F3]
theorem drop_flat (W : List Int) (i : Nat) (h : i < W.length) : (W.drop i).flatMap By = By (W.getD i 0) ++ (W.drop (i + 1)).flatMap By := by
  rw [List.drop_eq_getElem_cons h, List.flatMap_cons]
  simp [List.getD_eq_getElem?_getD, h]
/-- The kernel's writing. -/
theorem enc_loop (W : List Int) (hW : W.length = 26) (a0 : List Int) (a1 a2 : Int) (a3 : List Int) : ∀ (d i n : Nat) (acc : List Int), 26 - i = d → i ≤ 26 → acc.length = 4 * i → d < n →
    regs_Encode.l0 W a0 a1 a2 a3 n acc i = some (.inl (acc ++ (W.drop i).flatMap By)) := by
  intro d
  induction d with
  | zero =>
    intro i n acc hd hi hl hn
    obtain ⟨n, rfl⟩ : ∃ m, n = m + 1 := ⟨n - 1, by omega⟩
    have : i = 26 := by omega
    subst this
    rw [regs_Encode.l0, if_neg (by omega), List.drop_eq_nil_of_le (by omega)]
    simp
  | succ d ih =>
    intro i n acc hd hi hl hn
    obtain ⟨n, rfl⟩ : ∃ m, n = m + 1 := ⟨n - 1, by omega⟩
    rw [regs_Encode.l0, if_pos (by omega), if_pos (by omega), Store_eq]
    have hb : (By (W.getD (Int.toNat (i : Int)) 0)).length = 4 := rfl
    simp only [Option.bind_some, not_true_eq_false, if_false, hb]
    rw [if_pos (by refine ⟨trivial, trivial, trivial, ?_, ?_⟩ <;> omega), wi64 (by omega) (by omega)]
    have := ih (i + 1) n (acc ++ By (W.getD (Int.toNat (i : Int)) 0)) (by omega) (by omega) (by rw [List.length_append, By_len]; omega) (by omega)
    rw [show ((i : Int) + 1) = ((i + 1 : Nat) : Int) by omega, this, drop_flat W i (by omega)]
    simp
/-- The document's. -/
theorem ref_loop (x0 x1 x2 x3 x4 x5 x6 x7 x8 x9 x10 x11 x12 x13 x14 x15 a1 a2 f0 f1 f2 f3 : Int) (F0 : 0 ≤ f0 ∧ f0 < 18446744073709551616) (F1 : 0 ≤ f1 ∧ f1 < 18446744073709551616) (F2 : 0 ≤ f2 ∧ f2 < 18446744073709551616) (F3 : 0 ≤ f3 ∧ f3 < 18446744073709551616)
    (W : List Int) (eW : W = Wd x0 x1 x2 x3 x4 x5 x6 x7 x8 x9 x10 x11 x12 x13 x14 x15 a1 a2 f0 f1 f2 f3) (hr : ∀ z ∈ W, 0 ≤ z ∧ z < 4294967296) : ∀ (d i n : Nat) (acc : List Int), 26 - i = d → i ≤ 26 → acc.length = 4 * i → d < n →
    halterref10_Encode.l0 [x0, x1, x2, x3, x4, x5, x6, x7, x8, x9, x10, x11, x12, x13, x14, x15] a1 a2 [f0, f1, f2, f3] n acc i = some (acc ++ (W.drop i).flatMap By) := by
  have hW : W.length = 26 := by rw [eW]; rfl
  intro d
  induction d with
  | zero =>
    intro i n acc hd hi hl hn
    obtain ⟨n, rfl⟩ : ∃ m, n = m + 1 := ⟨n - 1, by omega⟩
    have : i = 26 := by omega
    subst this
    rw [halterref10_Encode.l0, if_neg (by omega), List.drop_eq_nil_of_le (by omega)]
    simp
  | succ d ih =>
    intro i n acc hd hi hl hn
    obtain ⟨n, rfl⟩ : ∃ m, n = m + 1 := ⟨n - 1, by omega⟩
    have hg : W.getD i 0 ∈ W := by
      rw [List.getD_eq_getElem?_getD, List.getElem?_eq_getElem (by omega)]
      exact List.getElem_mem _
    rw [halterref10_Encode.l0, if_pos (by omega), Word_eq _ _ _ _ _ _ _ _ _ _ _ _ _ _ _ _ _ _ _ _ _ _ F0 F1 F2 F3 _ (by omega) (by omega), ← eW]
    have e : Int.toNat (i : Int) = i := rfl
    simp only [Option.bind_some, e]
    rw [refStore (by omega) (hr _ hg)]
    simp only [Option.bind_some]
    rw [wi64 (by omega) (by omega)]
    have hb : (By (W.getD i 0)).length = 4 := rfl
    have := ih (i + 1) n (acc ++ By (W.getD i 0)) (by omega) (by omega) (by rw [List.length_append, By_len]; omega) (by omega)
    rw [show ((i : Int) + 1) = ((i + 1 : Nat) : Int) by omega, this, drop_flat W i (by omega)]
    simp
/-- A word of bytes. -/
def val (b : List Int) (i : Nat) : Int := b.getD (4 * i) 0 + b.getD (4 * i + 1) 0 * 256 + b.getD (4 * i + 2) 0 * 65536 + b.getD (4 * i + 3) 0 * 16777216
theorem slice4 (b : List Int) (i : Nat) (h : 4 * i + 4 ≤ b.length) : List.drop (4 * i) (List.take (4 * (i + 1)) b) = [b.getD (4 * i) 0, b.getD (4 * i + 1) 0, b.getD (4 * i + 2) 0, b.getD (4 * i + 3) 0] := by
  apply List.ext_getElem?
  intro j
  rw [List.getElem?_drop, List.getElem?_take]
  rcases j with _ | _ | _ | _ | j
  · rw [if_pos (by omega)]; simp [List.getD_eq_getElem?_getD, List.getElem?_eq_getElem (show 4 * i < b.length by omega)]
  · rw [if_pos (by omega)]; simp [List.getD_eq_getElem?_getD, List.getElem?_eq_getElem (show 4 * i + 1 < b.length by omega)]
  · rw [if_pos (by omega)]; simp [List.getD_eq_getElem?_getD, List.getElem?_eq_getElem (show 4 * i + 2 < b.length by omega)]
  · rw [if_pos (by omega)]; simp [List.getD_eq_getElem?_getD, List.getElem?_eq_getElem (show 4 * i + 3 < b.length by omega)]
  · rw [if_neg (by omega)]; simp
theorem byte_at {b : List Int} (hb : ∀ z ∈ b, 0 ≤ z ∧ z < 256) (j : Nat) : 0 ≤ b.getD j 0 ∧ b.getD j 0 < 256 := by
  rw [List.getD_eq_getElem?_getD]
  cases h : b[j]? with
  | none => simp
  | some z => exact hb z (List.mem_of_getElem? h)
theorem val_bd {b : List Int} (hb : ∀ z ∈ b, 0 ≤ z ∧ z < 256) (i : Nat) : 0 ≤ val b i ∧ val b i < 4294967296 := by
  unfold val
  have := byte_at hb (4 * i)
  have := byte_at hb (4 * i + 1)
  have := byte_at hb (4 * i + 2)
  have := byte_at hb (4 * i + 3)
  omega
/-- All words of bytes. -/
def vals (b : List Int) : List Int := (List.range 26).map (val b)
theorem dec_loop (b : List Int) (hl : b.length = 104) (hb : ∀ z ∈ b, 0 ≤ z ∧ z < 256) : ∀ (d i n : Nat) (x : List Int), 26 - i = d → i ≤ 26 → x.length = 26 → d < n →
    regs_Decode.l0 b n x i = some (.inl (x.take i ++ (vals b).drop i)) := by
  have hv : (vals b).length = 26 := by simp [vals]
  intro d
  induction d with
  | zero =>
    intro i n x hd hi hx hn
    obtain ⟨n, rfl⟩ : ∃ m, n = m + 1 := ⟨n - 1, by omega⟩
    have : i = 26 := by omega
    subst this
    rw [regs_Decode.l0, if_neg (by omega), List.drop_eq_nil_of_le (by omega), List.take_of_length_le (by omega)]
    simp
  | succ d ih =>
    intro i n x hd hi hx hn
    obtain ⟨n, rfl⟩ : ∃ m, n = m + 1 := ⟨n - 1, by omega⟩
    rw [regs_Decode.l0, if_pos (by omega)]
    rw [wi64 (x := (i : Int) + 1) (by omega) (by omega), wi64 (x := ((i : Int) + 1) * 4) (by omega) (by omega), wi64 (x := (i : Int) * 4) (by omega) (by omega)]
    have e1 : Int.toNat ((i : Int) * 4) = 4 * i := by omega
    have e2 : Int.toNat (((i : Int) + 1) * 4) = 4 * (i + 1) := by omega
    rw [e1, e2, if_pos (by rw [hl]; omega), slice4 b i (by omega), Load_eq (byte_at hb _) (byte_at hb _) (byte_at hb _) (byte_at hb _)]
    simp only [Option.bind_some, not_true_eq_false, if_false]
    have e3 : Int.toNat (i : Int) = i := rfl
    rw [if_pos (by omega), if_pos (by omega), e3]
    have := ih (i + 1) n (x.set i (val b i)) (by omega) (by omega) (by simpa using hx) (by omega)
    rw [show ((i : Int) + 1) = ((i + 1 : Nat) : Int) by omega]
    unfold val at this
    rw [this]
    congr 2
    rw [List.drop_eq_getElem_cons (show i < (vals b).length by omega)]
    have hg : (vals b)[i]'(by omega) = val b i := by simp [vals]
    rw [hg]
    have ht : (x.set i (val b i)).take (i + 1) = x.take i ++ [val b i] := by
      rw [List.take_succ_eq_append_getElem (by simp; omega), List.take_set_of_le (Nat.le_refl _)]
      simp
    unfold val at ht ⊢
    rw [ht]
    simp
theorem ref_val (b : List Int) (hl : b.length = 104) (hb : ∀ z ∈ b, 0 ≤ z ∧ z < 256) (i : Nat) (hi : i < 26) (x13 : List Int) (x14 x15 : Int) (x16 : List Int) : halterref10_Decode.l1 x13 x14 x15 x16 (i : Int) b FUEL 0 3 = some (val b i) := by
  have b0 := byte_at hb (4 * i)
  have b1 := byte_at hb (4 * i + 1)
  have b2 := byte_at hb (4 * i + 2)
  have b3 := byte_at hb (4 * i + 3)
  rw [fuel5]
  have e : IntKind.wrap .i64 (4 * (i : Int)) = 4 * (i : Int) := wi64 (by omega) (by omega)
  have n0 : Int.toNat (4 * (i : Int)) = 4 * i := by omega
  have n1 : Int.toNat (4 * (i : Int) + 1) = 4 * i + 1 := by omega
  have n2 : Int.toNat (4 * (i : Int) + 2) = 4 * i + 2 := by omega
  have n3 : Int.toNat (4 * (i : Int) + 3) = 4 * i + 3 := by omega
  have w0 : IntKind.wrap .i64 (4 * (i : Int) + 0) = 4 * (i : Int) := by rw [Int.add_zero]; exact e
  have w1 : IntKind.wrap .i64 (4 * (i : Int) + 1) = 4 * (i : Int) + 1 := wi64 (by omega) (by omega)
  have w2 : IntKind.wrap .i64 (4 * (i : Int) + 2) = 4 * (i : Int) + 2 := wi64 (by omega) (by omega)
  have w3 : IntKind.wrap .i64 (4 * (i : Int) + 3) = 4 * (i : Int) + 3 := wi64 (by omega) (by omega)
  have m1 : IntKind.wrap .i64 (3 - 1) = 2 := by decide
  have m2 : IntKind.wrap .i64 (2 - 1) = 1 := by decide
  have m3 : IntKind.wrap .i64 (1 - 1) = 0 := by decide
  have m4 : IntKind.wrap .i64 (0 - 1) = -1 := by decide
  rw [halterref10_Decode.l1, if_pos (by omega), e, w3, n3, if_pos (by omega), m1]
  rw [halterref10_Decode.l1, if_pos (by omega), e, w2, n2, if_pos (by omega), m2]
  rw [halterref10_Decode.l1, if_pos (by omega), e, w1, n1, if_pos (by omega), m3]
  rw [halterref10_Decode.l1, if_pos (by omega), e, w0, n0, if_pos (by omega), m4]
  rw [halterref10_Decode.l1, if_neg (by omega)]
  simp only [wu32]
  unfold val
  congr 1
  generalize b.getD (4 * i) 0 = p at *
  generalize b.getD (4 * i + 1) 0 = q at *
  generalize b.getD (4 * i + 2) 0 = r at *
  generalize b.getD (4 * i + 3) 0 = s at *
  omega
theorem fuel30 : ∃ m, FUEL = m + 30 := ⟨18446744073709551586, by kernel_rfl⟩
theorem lo0 {a : Int} (h : 0 ≤ a ∧ a < 4294967296) : IntKind.wrap .u64 (IntKind.wrap .u64 (IntKind.wrap .u64 (Int.tdiv 0 4294967296) * 4294967296) + IntKind.wrap .u64 a) = a := by
  have := refLo (f := 0) (a := a) (by omega) h
  rw [this]; omega
theorem lo1 {a : Int} (h : 0 ≤ a ∧ a < 4294967296) : IntKind.wrap .u64 (IntKind.wrap .u64 (IntKind.wrap .u64 0 * 4294967296) + IntKind.wrap .u64 a) = a := lo0 h
theorem hi0 {f a : Int} (h : 0 ≤ f ∧ f < 4294967296) (h' : 0 ≤ a ∧ a < 4294967296) : IntKind.wrap .u64 (Int.tmod f 4294967296 + IntKind.wrap .u64 (IntKind.wrap .u64 a * 4294967296)) = f + a * 4294967296 := by
  rw [refHi (by omega) h']; omega
theorem ref_dec (b : List Int) (hl : b.length = 104) (hb : ∀ z ∈ b, 0 ≤ z ∧ z < 256) :
    halterref10_Decode.l0 b FUEL (List.replicate 16 (0 : Int)) 0 0 (List.replicate 4 (0 : Int)) 0 = some ([val b 0, val b 1, val b 2, val b 3, val b 4, val b 5, val b 6, val b 7, val b 8, val b 9, val b 10, val b 11, val b 12, val b 13, val b 14, val b 15], val b 16, val b 17,
      [val b 18 + val b 19 * 4294967296, val b 20 + val b 21 * 4294967296, val b 22 + val b 23 * 4294967296, val b 24 + val b 25 * 4294967296]) := by
  have V := val_bd hb
  obtain ⟨m, hm⟩ := fuel30
  have st : ∀ (i : Nat) (z : Int) (n : Nat) (x13 : List Int) (x14 x15 : Int) (x16 : List Int), z = (i : Int) → i < 26 → halterref10_Decode.l0 b (n + 1) x13 x14 x15 x16 z = (halterref10_With.f x13 x14 x15 x16 z (val b i)).bind fun t => halterref10_Decode.l0 b n t.1 t.2.1 t.2.2.1 t.2.2.2 (z + 1) := by
    intro i z n x13 x14 x15 x16 hz hi
    subst hz
    rw [halterref10_Decode.l0, if_pos (by omega), ref_val b hl hb i hi]
    simp only [Option.bind_some]
    rw [wi64 (by omega) (by omega)]
  rw [hm]
  generalize val b = v at *
  rw [st 0 0 _ _ _ _ _ rfl (by omega)]
  simp [halterref10_With.f, wi64, lo1, hi0, V, List.replicate]
  rw [st 1 1 _ _ _ _ _ rfl (by omega)]
  simp [halterref10_With.f, wi64, lo1, hi0, V]
  rw [st 2 2 _ _ _ _ _ rfl (by omega)]
  simp [halterref10_With.f, wi64, lo1, hi0, V]
  rw [st 3 3 _ _ _ _ _ rfl (by omega)]
  simp [halterref10_With.f, wi64, lo1, hi0, V]
  rw [st 4 4 _ _ _ _ _ rfl (by omega)]
  simp [halterref10_With.f, wi64, lo1, hi0, V]
  rw [st 5 5 _ _ _ _ _ rfl (by omega)]
  simp [halterref10_With.f, wi64, lo1, hi0, V]
  rw [st 6 6 _ _ _ _ _ rfl (by omega)]
  simp [halterref10_With.f, wi64, lo1, hi0, V]
  rw [st 7 7 _ _ _ _ _ rfl (by omega)]
  simp [halterref10_With.f, wi64, lo1, hi0, V]
  rw [st 8 8 _ _ _ _ _ rfl (by omega)]
  simp [halterref10_With.f, wi64, lo1, hi0, V]
  rw [st 9 9 _ _ _ _ _ rfl (by omega)]
  simp [halterref10_With.f, wi64, lo1, hi0, V]
  rw [st 10 10 _ _ _ _ _ rfl (by omega)]
  simp [halterref10_With.f, wi64, lo1, hi0, V]
  rw [st 11 11 _ _ _ _ _ rfl (by omega)]
  simp [halterref10_With.f, wi64, lo1, hi0, V]
  rw [st 12 12 _ _ _ _ _ rfl (by omega)]
  simp [halterref10_With.f, wi64, lo1, hi0, V]
  rw [st 13 13 _ _ _ _ _ rfl (by omega)]
  simp [halterref10_With.f, wi64, lo1, hi0, V]
  rw [st 14 14 _ _ _ _ _ rfl (by omega)]
  simp [halterref10_With.f, wi64, lo1, hi0, V]
  rw [st 15 15 _ _ _ _ _ rfl (by omega)]
  simp [halterref10_With.f, wi64, lo1, hi0, V]
  rw [st 16 16 _ _ _ _ _ rfl (by omega)]
  simp [halterref10_With.f, wi64, lo1, hi0, V]
  rw [st 17 17 _ _ _ _ _ rfl (by omega)]
  simp [halterref10_With.f, wi64, lo1, hi0, V]
  rw [st 18 18 _ _ _ _ _ rfl (by omega)]
  simp [halterref10_With.f, wi64, lo1, hi0, V]
  rw [st 19 19 _ _ _ _ _ rfl (by omega)]
  simp [halterref10_With.f, wi64, lo1, hi0, V]
  rw [st 20 20 _ _ _ _ _ rfl (by omega)]
  simp [halterref10_With.f, wi64, lo1, hi0, V]
  rw [st 21 21 _ _ _ _ _ rfl (by omega)]
  simp [halterref10_With.f, wi64, lo1, hi0, V]
  rw [st 22 22 _ _ _ _ _ rfl (by omega)]
  simp [halterref10_With.f, wi64, lo1, hi0, V]
  rw [st 23 23 _ _ _ _ _ rfl (by omega)]
  simp [halterref10_With.f, wi64, lo1, hi0, V]
  rw [st 24 24 _ _ _ _ _ rfl (by omega)]
  simp [halterref10_With.f, wi64, lo1, hi0, V]
  rw [st 25 25 _ _ _ _ _ rfl (by omega)]
  simp [halterref10_With.f, wi64, lo1, hi0, V]
  rw [halterref10_Decode.l0, if_neg (by omega)]
theorem Check_eq (a0 : List Int) (a1 a2 : Int) (a3 : List Int) : regs_Check.f a0 a1 a2 a3 = some (if a2 ≥ 32 then some 22 else none) := by
  unfold regs_Check.f
  split <;> rfl
theorem vals_eq (b : List Int) : vals b = [val b 0, val b 1, val b 2, val b 3, val b 4, val b 5, val b 6, val b 7, val b 8, val b 9, val b 10, val b 11, val b 12, val b 13, val b 14, val b 15, val b 16, val b 17, val b 18, val b 19, val b 20, val b 21, val b 22, val b 23, val b 24, val b 25] := rfl
theorem dec_eq (b : List Int) (hb : ∀ z ∈ b, 0 ≤ z ∧ z < 256) : ∃ r : List Int × Int × Int × List Int, ∃ e : Option Int, regs_Decode.f b = some (r.1, r.2.1, r.2.2.1, r.2.2.2, e) ∧ halterref10_Decode.f b = some (r.1, r.2.1, r.2.2.1, r.2.2.2, e.getD 0) := by
  by_cases hl : b.length = 104
  · have V := val_bd hb
    unfold regs_Decode.f halterref10_Decode.f
    rw [if_neg (by omega), if_neg (by omega), ref_dec b hl hb]
    have := dec_loop b hl hb 26 0 FUEL (List.replicate 26 0) (by omega) (by omega) (by simp) (by rw [fuel5]; omega)
    rw [show ((0 : Nat) : Int) = 0 from rfl] at this
    rw [this]
    simp only [List.take_zero, List.nil_append, List.drop_zero, Option.bind_some, vals_eq]
    rw [of_eq _ _ _ _ _ _ _ _ _ _ _ _ _ _ _ _ _ _ _ _ _ _ _ _ _ _ (V _) (V _) (V _) (V _) (V _) (V _) (V _) (V _)]
    by_cases h : val b 17 ≥ 32
    · rw [if_pos h, if_pos (by omega)]
      exact ⟨(_, _, _, _), some 22, rfl, rfl⟩
    · rw [if_neg h, if_neg (by omega)]
      exact ⟨(_, _, _, _), none, rfl, rfl⟩
  · unfold regs_Decode.f halterref10_Decode.f
    rw [if_pos (by omega), if_pos (by omega)]
    exact ⟨(_, _, _, _), some 22, rfl, rfl⟩
theorem RegsForms (a0 : (List Int)) (a1 : Int) (a2 : Int) (a3 : (List Int)) (a4 : (List Int)) (a5 : Int) (h0 : List.length a0 = 16) (h1 : ∀ z ∈ a0, (Lit.int .u32 z).wf = true) (h2 : (Lit.int .u32 a1).wf = true) (h3 : (Lit.int .u32 a2).wf = true) (h4 : List.length a3 = 4) (h5 : ∀ z ∈ a3, (Lit.int .u64 z).wf = true) (h6 : List.length a4 * 1 ≤ reachBytes) (h7 : ∀ z ∈ a4, (Lit.int .u8 z).wf = true) (h8 : (Lit.int .i64 a5).wf = true) : halterlaw10_RegsForms.f a0 a1 a2 a3 a4 a5 = some true := by
  obtain ⟨x0, x1, x2, x3, x4, x5, x6, x7, x8, x9, x10, x11, x12, x13, x14, x15, rfl⟩ := len16 h0
  obtain ⟨f0, f1, f2, f3, rfl⟩ := len4 h4
  have F0 := u64_bd (h5 f0 (by simp))
  have F1 := u64_bd (h5 f1 (by simp))
  have F2 := u64_bd (h5 f2 (by simp))
  have F3 := u64_bd (h5 f3 (by simp))
  have A1 := u32_bd h2
  have A2 := u32_bd h3
  have hx : ∀ z ∈ Wd x0 x1 x2 x3 x4 x5 x6 x7 x8 x9 x10 x11 x12 x13 x14 x15 a1 a2 f0 f1 f2 f3, 0 ≤ z ∧ z < 4294967296 := by
    intro z hz
    by_cases hm : z ∈ [x0, x1, x2, x3, x4, x5, x6, x7, x8, x9, x10, x11, x12, x13, x14, x15]
    · exact u32_bd (h1 z hm)
    · simp only [Wd, List.mem_cons, List.not_mem_nil, or_false, not_or] at hz hm
      obtain ⟨m0, m1, m2, m3, m4, m5, m6, m7, m8, m9, m10, m11, m12, m13, m14, m15⟩ := hm
      simp only [m0, m1, m2, m3, m4, m5, m6, m7, m8, m9, m10, m11, m12, m13, m14, m15, false_or] at hz
      rcases hz with rfl | rfl | rfl | rfl | rfl | rfl | rfl | rfl | rfl | rfl
      · exact A1
      · exact A2
      all_goals exact mod_bd _
  have hb : ∀ z ∈ a4, 0 ≤ z ∧ z < 256 := fun z hz => by
    have := h7 z hz
    simpa [Lit.wf, IntKind.min, IntKind.max, IntKind.signed, IntKind.bits, ← Int.lt_add_one_iff] using this
  clear h0 h1 h2 h3 h4 h5 h6 h7 h8
  obtain ⟨r, e, hd1, hd2⟩ := dec_eq a4 hb
  generalize hW : Wd x0 x1 x2 x3 x4 x5 x6 x7 x8 x9 x10 x11 x12 x13 x14 x15 a1 a2 f0 f1 f2 f3 = W at hx
  have hlen : W.length = 26 := by rw [← hW]; rfl
  have hw := words_eq x0 x1 x2 x3 x4 x5 x6 x7 x8 x9 x10 x11 x12 x13 x14 x15 a1 a2 f0 f1 f2 f3
  have hw : regs_words.f [x0, x1, x2, x3, x4, x5, x6, x7, x8, x9, x10, x11, x12, x13, x14, x15] a1 a2 [f0, f1, f2, f3] = some W := by rw [hw, ← hW]
  have hE : regs_Encode.f [x0, x1, x2, x3, x4, x5, x6, x7, x8, x9, x10, x11, x12, x13, x14, x15] a1 a2 [f0, f1, f2, f3] = some (if a2 ≥ 32 then ([], some 22) else (W.flatMap By, none)) := by
    unfold regs_Encode.f
    rw [Check_eq]
    by_cases h : a2 ≥ 32
    · simp [h]
    · have := enc_loop W hlen [x0, x1, x2, x3, x4, x5, x6, x7, x8, x9, x10, x11, x12, x13, x14, x15] a1 a2 [f0, f1, f2, f3] 26 0 FUEL [] (by omega) (by omega) rfl (by rw [fuel5]; omega)
      rw [show ((0 : Nat) : Int) = 0 from rfl] at this
      simp only [if_neg h, Option.bind_some, not_true_eq_false, if_false, hw, this]
      simp
  have hR : halterref10_Encode.f [x0, x1, x2, x3, x4, x5, x6, x7, x8, x9, x10, x11, x12, x13, x14, x15] a1 a2 [f0, f1, f2, f3] = some (if a2 ≥ 32 then ([], 22) else (W.flatMap By, 0)) := by
    unfold halterref10_Encode.f
    by_cases h : a2 ≥ 32
    · rw [if_pos (by omega), if_pos h]
    · have := ref_loop x0 x1 x2 x3 x4 x5 x6 x7 x8 x9 x10 x11 x12 x13 x14 x15 a1 a2 f0 f1 f2 f3 F0 F1 F2 F3 W hW.symm hx 26 0 FUEL [] (by omega) (by omega) rfl (by rw [fuel5]; omega)
      rw [show ((0 : Nat) : Int) = 0 from rfl] at this
      rw [if_neg (by omega), if_neg h, this]
      simp
  have hG : regs_Get.f [x0, x1, x2, x3, x4, x5, x6, x7, x8, x9, x10, x11, x12, x13, x14, x15] a1 a2 [f0, f1, f2, f3] a5 = some (if 0 ≤ a5 ∧ a5 < 26 then (W.getD a5.toNat 0, none) else (0, some 22)) := by
    unfold regs_Get.f
    by_cases h1 : a5 < 0
    · rw [if_pos h1, if_neg (by omega)]
    · by_cases h2 : a5 ≥ 26
      · rw [if_neg h1, if_pos h2, if_neg (by omega)]
      · rw [if_neg h1, if_neg h2, hw, if_pos (by omega)]
        simp only [Option.bind_some]
        rw [if_pos (by omega)]
  unfold halterlaw10_RegsForms.f
  rw [hE, hR, hd1, hd2, hG]
  simp only [Option.bind_some]
  have c1 : (if a2 ≥ 32 then (([] : List Int), some (22 : Int)) else (W.flatMap By, none)).1 = (if a2 ≥ 32 then (([] : List Int), (22 : Int)) else (W.flatMap By, 0)).1 := by split <;> rfl
  have c2 : num.f (if a2 ≥ 32 then (([] : List Int), some (22 : Int)) else (W.flatMap By, none)).2 = some (if a2 ≥ 32 then (([] : List Int), (22 : Int)) else (W.flatMap By, 0)).2 := by split <;> rfl
  rw [c1, if_neg (by simp), c2]
  simp only [Option.bind_some, not_true_eq_false, if_false, and_self, num.f, Check_eq]
  rw [if_neg (by by_cases h : a2 ≥ 32 <;> simp [h])]
  by_cases h1 : a5 < 0
  · have g : ¬ (0 ≤ a5 ∧ a5 < 26) := by omega
    simp [h1, g, sure_eq]
  · by_cases h2 : a5 > 25
    · have g : ¬ (0 ≤ a5 ∧ a5 < 26) := by omega
      rw [if_neg h1, if_pos h2, if_neg g]
      simp [sure_eq]
    · have g : 0 ≤ a5 ∧ a5 < 26 := by omega
      rw [if_neg h1, if_neg h2, if_pos g, Word_eq _ _ _ _ _ _ _ _ _ _ _ _ _ _ _ _ _ _ _ _ _ _ F0 F1 F2 F3 a5 (by omega) (by omega), hW]
      simp [sure_eq]
end Go.Proofs.YtfcdlkpoebjghaaDoor.Pure
