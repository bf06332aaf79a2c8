/- The plain law: what the law computes is true, whatever it is handed. -/
import Derived.Test.YtfcdlkpoebjghaaGRegsBack
import Derived.Laws.BitsAllLaws
set_option linter.unusedVariables false
set_option linter.unusedSimpArgs false
set_option linter.unnecessarySimpa false
namespace Go.Proofs.Ytfcdlkpoebjghaa.Pure
open Go Go.Proofs.YtfcdlkpoebjghaaE Go.Proofs.YtfcdlkpoebjghaaGRegsBack
theorem wu32 (x : Int) : IntKind.wrap .u32 x = x % 4294967296 := by simp [IntKind.wrap, IntKind.bits, IntKind.signed]
theorem wu64 (x : Int) : IntKind.wrap .u64 x = x % 18446744073709551616 := by simp [IntKind.wrap, IntKind.bits, IntKind.signed]
theorem wi64 {x : Int} (h : -9223372036854775808 ≤ x) (h' : x ≤ 9223372036854775807) : IntKind.wrap .i64 x = x := by
  simp [IntKind.wrap, IntKind.bits, IntKind.signed]
  omega
theorem u32_bd {a : Int} (h : (Lit.int .u32 a).wf = true) : 0 ≤ a ∧ a < 4294967296 := by
  simpa [Lit.wf, IntKind.min, IntKind.max, IntKind.signed, IntKind.bits, ← Int.lt_add_one_iff] using h
theorem u64_bd {a : Int} (h : (Lit.int .u64 a).wf = true) : 0 ≤ a ∧ a < 18446744073709551616 := by
  simpa [Lit.wf, IntKind.min, IntKind.max, IntKind.signed, IntKind.bits, ← Int.lt_add_one_iff] using h
theorem fuel5 : FUEL = 18446744073709551611 + 5 := by kernel_rfl
theorem shr32 (f : Int) : shr .u64 f 32 = f / 4294967296 := by simp [shr, IntKind.bits]
theorem sure_eq : halterlaw10_sure.f = some true := by kernel_rfl
theorem words_eq (x0 x1 x2 x3 x4 x5 x6 x7 x8 x9 x10 x11 x12 x13 x14 x15 a1 a2 f0 f1 f2 f3 : Int) :
    regs_words.f [x0, x1, x2, x3, x4, x5, x6, x7, x8, x9, x10, x11, x12, x13, x14, x15] a1 a2 [f0, f1, f2, f3] =
      some [x0, x1, x2, x3, x4, x5, x6, x7, x8, x9, x10, x11, x12, x13, x14, x15, a1, a2, f0 % 4294967296, f0 / 4294967296 % 4294967296, f1 % 4294967296, f1 / 4294967296 % 4294967296, f2 % 4294967296, f2 / 4294967296 % 4294967296, f3 % 4294967296, f3 / 4294967296 % 4294967296] := by
  unfold regs_words.f
  rw [fuel5]
  simp [regs_words.l0, wi64, wu32, shr32]
theorem shl32 {g : Int} (h : 0 ≤ g ∧ g < 4294967296) : shl .u64 (IntKind.wrap .u64 g) 32 = g * 4294967296 := by
  simp only [shl, wu64, IntKind.bits]
  have : (min (Int.toNat 32) 64) = 32 := by decide
  rw [this]
  simp
  omega
theorem or_join {f g : Int} (hf : 0 ≤ f ∧ f < 4294967296) (hg : 0 ≤ g ∧ g < 4294967296) : bits .or .u64 (IntKind.wrap .u64 f) (shl .u64 (IntKind.wrap .u64 g) 32) = f + g * 4294967296 := by
  rw [shl32 hg, wu64]
  have e : f % 18446744073709551616 = f := by omega
  rw [e, u64_or _ _ hf.1 (by omega) (by omega) (by omega)]
  obtain ⟨a, rfl⟩ := Int.eq_ofNat_of_zero_le hf.1
  obtain ⟨b, rfl⟩ := Int.eq_ofNat_of_zero_le hg.1
  have h1 : (Int.toNat (a : Int)) = a := rfl
  have h2 : (Int.toNat ((b : Int) * 4294967296)) = 2 ^ 32 * b := by omega
  rw [h1, h2, Nat.or_comm, ← Nat.two_pow_add_eq_or_of_lt (by omega : a < 2 ^ 32)]
  omega
theorem of_eq (w0 w1 w2 w3 w4 w5 w6 w7 w8 w9 w10 w11 w12 w13 w14 w15 w16 w17 l0 h0 l1 h1 l2 h2 l3 h3 : Int)
    (c0 : 0 ≤ l0 ∧ l0 < 4294967296) (d0 : 0 ≤ h0 ∧ h0 < 4294967296) (c1 : 0 ≤ l1 ∧ l1 < 4294967296) (d1 : 0 ≤ h1 ∧ h1 < 4294967296) (c2 : 0 ≤ l2 ∧ l2 < 4294967296) (d2 : 0 ≤ h2 ∧ h2 < 4294967296) (c3 : 0 ≤ l3 ∧ l3 < 4294967296) (d3 : 0 ≤ h3 ∧ h3 < 4294967296) :
    regs_of.f [w0, w1, w2, w3, w4, w5, w6, w7, w8, w9, w10, w11, w12, w13, w14, w15, w16, w17, l0, h0, l1, h1, l2, h2, l3, h3] =
      if w17 ≥ 32 then some (List.replicate 16 (0 : Int), 0, 0, List.replicate 4 (0 : Int), some 22)
      else some ([w0, w1, w2, w3, w4, w5, w6, w7, w8, w9, w10, w11, w12, w13, w14, w15], w16, w17, [l0 + h0 * 4294967296, l1 + h1 * 4294967296, l2 + h2 * 4294967296, l3 + h3 * 4294967296], none) := by
  unfold regs_of.f
  rw [fuel5]
  simp [regs_of.l0, wi64, or_join, c0, d0, c1, d1, c2, d2, c3, d3, regs_Check.f]
  split <;> simp_all
theorem mod_bd (x : Int) : 0 ≤ x % 4294967296 ∧ x % 4294967296 < 4294967296 := by omega
theorem joinf {f : Int} (h : 0 ≤ f ∧ f < 18446744073709551616) : f % 4294967296 + f / 4294967296 % 4294967296 * 4294967296 = f := by omega
theorem tmod32 {f : Int} (h : 0 ≤ f ∧ f < 18446744073709551616) : Int.tmod f 4294967296 = f % 4294967296 := Int.tmod_eq_emod_of_nonneg h.1
theorem tdiv32 {f : Int} (h : 0 ≤ f ∧ f < 18446744073709551616) : Int.tdiv f 4294967296 = f / 4294967296 := Int.tdiv_eq_ediv_of_nonneg h.1
theorem len16 {l : List Int} (h : l.length = 16) : ∃ x0 x1 x2 x3 x4 x5 x6 x7 x8 x9 x10 x11 x12 x13 x14 x15, l = [x0, x1, x2, x3, x4, x5, x6, x7, x8, x9, x10, x11, x12, x13, x14, x15] := by
  match l, h with
  | [x0, x1, x2, x3, x4, x5, x6, x7, x8, x9, x10, x11, x12, x13, x14, x15], _ => exact ⟨_, _, _, _, _, _, _, _, _, _, _, _, _, _, _, _, rfl⟩
theorem len4 {l : List Int} (h : l.length = 4) : ∃ x0 x1 x2 x3, l = [x0, x1, x2, x3] := by
  match l, h with
  | [x0, x1, x2, x3], _ => exact ⟨_, _, _, _, rfl⟩
theorem orK {x b : Int} {k : Nat} (hk : k < 32) (hx : 0 ≤ x) (hx' : x.toNat < 2 ^ k) (hb : 0 ≤ b) (hb' : b * 2 ^ k < 4294967296) : bits .or .u32 x (b * 2 ^ k) = x + b * 2 ^ k := by
  obtain ⟨a, rfl⟩ := Int.eq_ofNat_of_zero_le hx
  obtain ⟨c, rfl⟩ := Int.eq_ofNat_of_zero_le hb
  have h0 : a < 4294967296 := Nat.lt_of_lt_of_le hx' (by
    have : 2 ^ k ≤ 2 ^ 32 := Nat.pow_le_pow_right (by omega) (by omega)
    simpa using this)
  have e : ((c : Int) * 2 ^ k) = ((2 ^ k * c : Nat) : Int) := by push_cast; exact Int.mul_comm _ _
  rw [e] at hb' ⊢
  rw [u32_or _ _ (by omega) (by omega) (by omega) hb']
  have h1 : Int.toNat (a : Int) = a := rfl
  have h2 : Int.toNat ((2 ^ k * c : Nat) : Int) = 2 ^ k * c := rfl
  rw [h1, h2, Nat.or_comm, ← Nat.two_pow_add_eq_or_of_lt (show a < 2 ^ k from hx')]
  push_cast
  exact Int.add_comm _ _
theorem shl_u32 {b : Int} (hb : 0 ≤ b ∧ b < 256) (k : Nat) (hk : k ≤ 24) : shl .u32 (IntKind.wrap .u32 b) (k : Int) = b * 2 ^ k := by
  have hp : (2 : Int) ^ k ≤ 2 ^ 24 := by
    have : 2 ^ k ≤ 2 ^ 24 := Nat.pow_le_pow_right (by omega) hk
    exact_mod_cast this
  have hp0 : (0 : Int) < 2 ^ k := by
    have : 0 < 2 ^ k := Nat.two_pow_pos k
    exact_mod_cast this
  simp only [shl, wu32, IntKind.bits]
  have e : min (Int.toNat (k : Int)) 32 = k := by simp; omega
  rw [e]
  have e2 : b % 4294967296 = b := by omega
  rw [e2]
  have h1 : 0 ≤ b * 2 ^ k := Int.mul_nonneg hb.1 (Int.le_of_lt hp0)
  have h2 : b * 2 ^ k ≤ 255 * 2 ^ 24 := Int.mul_le_mul (by omega) hp (Int.le_of_lt hp0) (by omega)
  exact Int.emod_eq_of_lt h1 (by omega)
theorem Load_eq {b0 b1 b2 b3 : Int} (c0 : 0 ≤ b0 ∧ b0 < 256) (c1 : 0 ≤ b1 ∧ b1 < 256) (c2 : 0 ≤ b2 ∧ b2 < 256) (c3 : 0 ≤ b3 ∧ b3 < 256) : word_Load.f [b0, b1, b2, b3] = some (b0 + b1 * 256 + b2 * 65536 + b3 * 16777216, none) := by
  have e0 : bits .or .u32 0 (shl .u32 (IntKind.wrap .u32 b0) 0) = b0 := by
    have := orK (x := 0) (b := b0) (k := 0) (by omega) (by omega) (by simp) c0.1 (by omega)
    rw [show (0 : Int) = ((0 : Nat) : Int) from rfl, shl_u32 c0 0 (by omega)]
    simpa using this
  have e1 : bits .or .u32 b0 (shl .u32 (IntKind.wrap .u32 b1) 8) = b0 + b1 * 256 := by
    have := orK (x := b0) (b := b1) (k := 8) (by omega) c0.1 (by omega) c1.1 (by omega)
    rw [show (8 : Int) = ((8 : Nat) : Int) from rfl, shl_u32 c1 8 (by omega)]
    simpa using this
  have e2 : bits .or .u32 (b0 + b1 * 256) (shl .u32 (IntKind.wrap .u32 b2) 16) = b0 + b1 * 256 + b2 * 65536 := by
    have := orK (x := b0 + b1 * 256) (b := b2) (k := 16) (by omega) (by omega) (by omega) c2.1 (by omega)
    rw [show (16 : Int) = ((16 : Nat) : Int) from rfl, shl_u32 c2 16 (by omega)]
    simpa using this
  have e3 : bits .or .u32 (b0 + b1 * 256 + b2 * 65536) (shl .u32 (IntKind.wrap .u32 b3) 24) = b0 + b1 * 256 + b2 * 65536 + b3 * 16777216 := by
    have := orK (x := b0 + b1 * 256 + b2 * 65536) (b := b3) (k := 24) (by omega) (by omega) (by omega) c3.1 (by omega)
    rw [show (24 : Int) = ((24 : Nat) : Int) from rfl, shl_u32 c3 24 (by omega)]
    simpa using this
  unfold word_Load.f
  rw [fuel5]
  simp [word_sized.f, word_Load.l0, wi64, e0, e1, e2, e3]
def By (w : Int) : List Int := [w % 256, w / 256 % 256, w / 65536 % 256, w / 16777216 % 256]
theorem By_len (w : Int) : (By w).length = 4 := rfl
theorem wu8 (x : Int) : IntKind.wrap .u8 x = x % 256 := by simp [IntKind.wrap, IntKind.bits, IntKind.signed]
theorem shr8 (f : Int) : shr .u32 f 8 = f / 256 := by simp [shr, IntKind.bits]
theorem Store_eq (w : Int) : word_Store.f w 4 = some (By w, none) := by
  unfold word_Store.f
  rw [fuel5]
  simp [word_sized.f, word_Store.l0, wi64, wu8, shr8, By]
  omega
theorem drop_flat (W : List Int) (i : Nat) (h : i < W.length) : (W.drop i).flatMap By = By (W.getD i 0) ++ (W.drop (i + 1)).flatMap By := by
  rw [List.drop_eq_getElem_cons h, List.flatMap_cons]
  simp [List.getD_eq_getElem?_getD, h]
theorem enc_loop (W : List Int) (hW : W.length = 26) (a0 : List Int) (a1 a2 : Int) (a3 : List Int) : ∀ (d i n : Nat) (acc : List Int), 26 - i = d → i ≤ 26 → acc.length = 4 * i → d < n →
    regs_Encode.l0 W a0 a1 a2 a3 n acc i = some (.inl (acc ++ (W.drop i).flatMap By)) := by
  intro d
  induction d with
  | zero =>
    intro i n acc hd hi hl hn
    obtain ⟨n, rfl⟩ : ∃ m, n = m + 1 := ⟨n - 1, by omega⟩
    have : i = 26 := by omega
    subst this
    rw [regs_Encode.l0, if_neg (by omega), List.drop_eq_nil_of_le (by omega)]
    simp
  | succ d ih =>
    intro i n acc hd hi hl hn
    obtain ⟨n, rfl⟩ : ∃ m, n = m + 1 := ⟨n - 1, by omega⟩
    rw [regs_Encode.l0, if_pos (by omega), if_pos (by omega), Store_eq]
    have hb : (By (W.getD (Int.toNat (i : Int)) 0)).length = 4 := rfl
    simp only [Option.bind_some, not_true_eq_false, if_false, hb]
    rw [if_pos (by refine ⟨trivial, trivial, trivial, ?_, ?_⟩ <;> omega), wi64 (by omega) (by omega)]
    have := ih (i + 1) n (acc ++ By (W.getD (Int.toNat (i : Int)) 0)) (by omega) (by omega) (by rw [List.length_append, By_len]; omega) (by omega)
    rw [show ((i : Int) + 1) = ((i + 1 : Nat) : Int) by omega, this, drop_flat W i (by omega)]
    simp
def val (b : List Int) (i : Nat) : Int := b.getD (4 * i) 0 + b.getD (4 * i + 1) 0 * 256 + b.getD (4 * i + 2) 0 * 65536 + b.getD (4 * i + 3) 0 * 16777216
theorem slice4 (b : List Int) (i : Nat) (h : 4 * i + 4 ≤ b.length) : List.drop (4 * i) (List.take (4 * (i + 1)) b) = [b.getD (4 * i) 0, b.getD (4 * i + 1) 0, b.getD (4 * i + 2) 0, b.getD (4 * i + 3) 0] := by
  apply List.ext_getElem?
  intro j
  rw [List.getElem?_drop, List.getElem?_take]
  rcases j with _ | _ | _ | _ | j
  · rw [if_pos (by omega)]; simp [List.getD_eq_getElem?_getD, List.getElem?_eq_getElem (show 4 * i < b.length by omega)]
  · rw [if_pos (by omega)]; simp [List.getD_eq_getElem?_getD, List.getElem?_eq_getElem (show 4 * i + 1 < b.length by omega)]
  · rw [if_pos (by omega)]; simp [List.getD_eq_getElem?_getD, List.getElem?_eq_getElem (show 4 * i + 2 < b.length by omega)]
  · rw [if_pos (by omega)]; simp [List.getD_eq_getElem?_getD, List.getElem?_eq_getElem (show 4 * i + 3 < b.length by omega)]
  · rw [if_neg (by omega)]; simp
theorem byte_at {b : List Int} (hb : ∀ z ∈ b, 0 ≤ z ∧ z < 256) (j : Nat) : 0 ≤ b.getD j 0 ∧ b.getD j 0 < 256 := by
  rw [List.getD_eq_getElem?_getD]
  cases h : b[j]? with
  | none => simp
  | some z => exact hb z (List.mem_of_getElem? h)
theorem val_bd {b : List Int} (hb : ∀ z ∈ b, 0 ≤ z ∧ z < 256) (i : Nat) : 0 ≤ val b i ∧ val b i < 4294967296 := by
  unfold val
  have := byte_at hb (4 * i)
  have := byte_at hb (4 * i + 1)
  have := byte_at hb (4 * i + 2)
  have := byte_at hb (4 * i + 3)
  omega
def vals (b : List Int) : List Int := (List.range 26).map (val b)
theorem dec_loop (b : List Int) (hl : b.length = 104) (hb : ∀ z ∈ b, 0 ≤ z ∧ z < 256) : ∀ (d i n : Nat) (x : List Int), 26 - i = d → i ≤ 26 → x.length = 26 → d < n →
    regs_Decode.l0 b n x i = some (.inl (x.take i ++ (vals b).drop i)) := by
  have hv : (vals b).length = 26 := by simp [vals]
  intro d
  induction d with
  | zero =>
    intro i n x hd hi hx hn
    obtain ⟨n, rfl⟩ : ∃ m, n = m + 1 := ⟨n - 1, by omega⟩
    have : i = 26 := by omega
    subst this
    rw [regs_Decode.l0, if_neg (by omega), List.drop_eq_nil_of_le (by omega), List.take_of_length_le (by omega)]
    simp
  | succ d ih =>
    intro i n x hd hi hx hn
    obtain ⟨n, rfl⟩ : ∃ m, n = m + 1 := ⟨n - 1, by omega⟩
    rw [regs_Decode.l0, if_pos (by omega)]
    rw [wi64 (x := (i : Int) + 1) (by omega) (by omega), wi64 (x := ((i : Int) + 1) * 4) (by omega) (by omega), wi64 (x := (i : Int) * 4) (by omega) (by omega)]
    have e1 : Int.toNat ((i : Int) * 4) = 4 * i := by omega
    have e2 : Int.toNat (((i : Int) + 1) * 4) = 4 * (i + 1) := by omega
    rw [e1, e2, if_pos (by rw [hl]; omega), slice4 b i (by omega), Load_eq (byte_at hb _) (byte_at hb _) (byte_at hb _) (byte_at hb _)]
    simp only [Option.bind_some, not_true_eq_false, if_false]
    have e3 : Int.toNat (i : Int) = i := rfl
    rw [if_pos (by omega), if_pos (by omega), e3]
    have := ih (i + 1) n (x.set i (val b i)) (by omega) (by omega) (by simpa using hx) (by omega)
    rw [show ((i : Int) + 1) = ((i + 1 : Nat) : Int) by omega]
    unfold val at this
    rw [this]
    congr 2
    rw [List.drop_eq_getElem_cons (show i < (vals b).length by omega)]
    have hg : (vals b)[i]'(by omega) = val b i := by simp [vals]
    rw [hg]
    have ht : (x.set i (val b i)).take (i + 1) = x.take i ++ [val b i] := by
      rw [List.take_succ_eq_append_getElem (by simp; omega), List.take_set_of_le (Nat.le_refl _)]
      simp
    unfold val at ht ⊢
    rw [ht]
    simp
theorem Check_eq (a0 : List Int) (a1 a2 : Int) (a3 : List Int) : regs_Check.f a0 a1 a2 a3 = some (if a2 ≥ 32 then some 22 else none) := by
  unfold regs_Check.f
  split <;> rfl
theorem By_at (W : List Int) : ∀ (i j : Nat), i < W.length → j < 4 → (W.flatMap By).getD (4 * i + j) 0 = (By (W.getD i 0)).getD j 0 := by
  induction W with
  | nil => intro i j h; simp at h
  | cons w W ih =>
    intro i j h hj
    rw [List.flatMap_cons]
    cases i with
    | zero =>
      simp only [List.getD_eq_getElem?_getD, Nat.mul_zero, Nat.zero_add]
      rw [List.getElem?_append_left (by rw [By_len]; exact hj)]
      simp
    | succ i =>
      have := ih i j (by simpa using h) hj
      simp only [List.getD_eq_getElem?_getD] at this ⊢
      rw [List.getElem?_append_right (by rw [By_len]; omega), By_len, show 4 * (i + 1) + j - 4 = 4 * i + j by omega, this]
      simp
theorem val_By {W : List Int} (hr : ∀ z ∈ W, 0 ≤ z ∧ z < 4294967296) {i : Nat} (h : i < W.length) : val (W.flatMap By) i = W.getD i 0 := by
  have hg : W.getD i 0 ∈ W := by
    rw [List.getD_eq_getElem?_getD, List.getElem?_eq_getElem h]
    exact List.getElem_mem _
  have := hr _ hg
  unfold val
  have e0 := By_at W i 0 h (by omega)
  rw [Nat.add_zero] at e0
  rw [e0, By_at W i 1 h (by omega), By_at W i 2 h (by omega), By_at W i 3 h (by omega)]
  generalize W.getD i 0 = w at *
  simp [By]
  omega
theorem vals_By {W : List Int} (hl : W.length = 26) (hr : ∀ z ∈ W, 0 ≤ z ∧ z < 4294967296) : vals (W.flatMap By) = W := by
  apply List.ext_getElem
  · simp [vals, hl]
  · intro i h1 h2
    have := val_By hr h2
    rw [List.getD_eq_getElem?_getD, List.getElem?_eq_getElem h2] at this
    simpa [vals] using this
theorem len_By (W : List Int) : (W.flatMap By).length = 4 * W.length := by
  induction W with
  | nil => rfl
  | cons w W ih => rw [List.flatMap_cons, List.length_append, ih, By_len, List.length_cons]; omega
theorem mem_By {W : List Int} {z : Int} (h : z ∈ W.flatMap By) : 0 ≤ z ∧ z < 256 := by
  obtain ⟨w, _, hz⟩ := List.mem_flatMap.1 h
  simp only [By, List.mem_cons, List.not_mem_nil, or_false] at hz
  rcases hz with rfl | rfl | rfl | rfl <;> omega
theorem len26 {l : List Int} (h : l.length = 26) : ∃ w0 w1 w2 w3 w4 w5 w6 w7 w8 w9 w10 w11 w12 w13 w14 w15 w16 w17 l0 h0 l1 h1 l2 h2 l3 h3, l = [w0, w1, w2, w3, w4, w5, w6, w7, w8, w9, w10, w11, w12, w13, w14, w15, w16, w17, l0, h0, l1, h1, l2, h2, l3, h3] := by
  match l, h with
  | [w0, w1, w2, w3, w4, w5, w6, w7, w8, w9, w10, w11, w12, w13, w14, w15, w16, w17, l0, h0, l1, h1, l2, h2, l3, h3], _ => exact ⟨_, _, _, _, _, _, _, _, _, _, _, _, _, _, _, _, _, _, _, _, _, _, _, _, _, _, rfl⟩
/-- Registers of words have these words. -/
theorem of_words {V : List Int} (hl : V.length = 26) (hr : ∀ z ∈ V, 0 ≤ z ∧ z < 4294967296) (h17 : V.getD 17 0 < 32) : ∃ r0 r1 r2 r3, regs_of.f V = some (r0, r1, r2, r3, none) ∧ regs_words.f r0 r1 r2 r3 = some V := by
  obtain ⟨w0, w1, w2, w3, w4, w5, w6, w7, w8, w9, w10, w11, w12, w13, w14, w15, w16, w17, l0, h0, l1, h1, l2, h2, l3, h3, rfl⟩ := len26 hl
  have c0 := hr l0 (by simp)
  have d0 := hr h0 (by simp)
  have c1 := hr l1 (by simp)
  have d1 := hr h1 (by simp)
  have c2 := hr l2 (by simp)
  have d2 := hr h2 (by simp)
  have c3 := hr l3 (by simp)
  have d3 := hr h3 (by simp)
  have h17 : w17 < 32 := h17
  rw [of_eq _ _ _ _ _ _ _ _ _ _ _ _ _ _ _ _ _ _ _ _ _ _ _ _ _ _ c0 d0 c1 d1 c2 d2 c3 d3, if_neg (by omega)]
  refine ⟨_, _, _, _, rfl, ?_⟩
  rw [words_eq]
  have a : ∀ {l h : Int}, 0 ≤ l ∧ l < 4294967296 → 0 ≤ h ∧ h < 4294967296 → (l + h * 4294967296) % 4294967296 = l := by intro l h _ _; omega
  have b : ∀ {l h : Int}, 0 ≤ l ∧ l < 4294967296 → 0 ≤ h ∧ h < 4294967296 → (l + h * 4294967296) / 4294967296 % 4294967296 = h := by intro l h _ _; omega
  rw [a c0 d0, b c0 d0, a c1 d1, b c1 d1, a c2 d2, b c2 d2, a c3 d3, b c3 d3]
theorem Get_of {r0 : List Int} {r1 r2 : Int} {r3 : List Int} {V : List Int} (h : regs_words.f r0 r1 r2 r3 = some V) {x : Int} (h0 : 0 ≤ x) (h1 : x < 26) : regs_Get.f r0 r1 r2 r3 x = some (V.getD x.toNat 0, none) := by
  unfold regs_Get.f
  rw [if_neg (by omega), if_neg (by omega), h]
  simp only [Option.bind_some]
  rw [if_pos (by omega)]
theorem Set_of {r0 : List Int} {r1 r2 : Int} {r3 : List Int} {V : List Int} (h : regs_words.f r0 r1 r2 r3 = some V) (hl : V.length = 26) (hr : ∀ z ∈ V, 0 ≤ z ∧ z < 4294967296) {k v : Int} (h0 : 0 ≤ k) (h1 : k < 26) (hv : 0 ≤ v ∧ v < 4294967296) (h17 : (V.set k.toNat v).getD 17 0 < 32) :
    ∃ s0 s1 s2 s3, regs_Set.f r0 r1 r2 r3 k v = some (s0, s1, s2, s3, none) ∧ regs_words.f s0 s1 s2 s3 = some (V.set k.toNat v) := by
  obtain ⟨s0, s1, s2, s3, e1, e2⟩ := of_words (V := V.set k.toNat v) (by simpa using hl) (fun z hz => by
    rcases List.mem_or_eq_of_mem_set hz with hz | rfl
    · exact hr z hz
    · exact hv) h17
  refine ⟨s0, s1, s2, s3, ?_, e2⟩
  unfold regs_Set.f
  rw [if_neg (by omega), if_neg (by omega), h]
  simp only [Option.bind_some]
  rw [if_pos (by omega), if_pos (by omega), e1]
  rfl
theorem kk (a4 : Int) : IntKind.wrap .i64 (Int.tmod (IntKind.wrap .u64 a4) 26) = a4 % 18446744073709551616 % 26 := by
  rw [wu64, Int.tmod_eq_emod_of_nonneg (by omega)]
  exact wi64 (by omega) (by omega)
theorem getD_set (V : List Int) (i j : Nat) (v : Int) (h : i < V.length) : (V.set i v).getD j 0 = if i = j then v else V.getD j 0 := by
  simp only [List.getD_eq_getElem?_getD, List.getElem?_set]
  by_cases e : i = j
  · subst e; simp [h]
  · simp [e]
theorem back_loop0 {a0 : List Int} {a1 a2 : Int} {a3 : List Int} {a4 a5 : Int} {V : List Int} (hl : V.length = 26) (h : regs_words.f a0 a1 (Int.tmod a2 32) a3 = some V) {t8 : List Int × Int × Int × List Int × Option Int} {k v : Int} (hk : k = a4 % 18446744073709551616 % 26) (hv : v = Int.tmod a5 32)
    (h8 : regs_words.f t8.1 t8.2.1 t8.2.2.1 t8.2.2.2.1 = some (V.set k.toNat v)) (t2 : List Int × Int × Int × List Int × Option Int) : ∀ (d i n : Nat), 26 - i = d → i ≤ 26 → d < n → halterlaw10_RegsBack.l0 t2 t8 a0 a1 a2 a3 a4 a5 n (i : Int) = some (.inl ()) := by
  intro d
  induction d with
  | zero =>
    intro i n hd hi hn
    obtain ⟨n, rfl⟩ : ∃ m, n = m + 1 := ⟨n - 1, by omega⟩
    rw [halterlaw10_RegsBack.l0, if_neg (by omega)]
  | succ d ih =>
    intro i n hd hi hn
    obtain ⟨n, rfl⟩ : ∃ m, n = m + 1 := ⟨n - 1, by omega⟩
    have := ih (i + 1) n (by omega) (by omega) (by omega)
    rw [halterlaw10_RegsBack.l0, if_pos (by omega), Get_of h (by omega) (by omega), Get_of h8 (by omega) (by omega)]
    simp only [Option.bind_some, not_true_eq_false, if_false]
    rw [kk, ← hk, getD_set _ _ _ _ (by omega), wi64 (by omega) (by omega), show ((i : Int) + 1) = ((i + 1 : Nat) : Int) by omega, this]
    by_cases e : (i : Int) = k
    · subst e
      simp [hv]
    · rw [if_neg e, if_pos e, if_neg (by omega)]
theorem back_loop1 {a0 : List Int} {a1 a2 : Int} {a3 : List Int} {a4 a5 : Int} {V : List Int} (hl : V.length = 26) (h : regs_words.f a0 a1 (Int.tmod a2 32) a3 = some V) {t8 : List Int × Int × Int × List Int × Option Int} {k v : Int} (hk : k = a4 % 18446744073709551616 % 26) (hv : v = a5)
    (h8 : regs_words.f t8.1 t8.2.1 t8.2.2.1 t8.2.2.2.1 = some (V.set k.toNat v)) (t2 : List Int × Int × Int × List Int × Option Int) : ∀ (d i n : Nat), 26 - i = d → i ≤ 26 → d < n → halterlaw10_RegsBack.l1 t2 t8 a0 a1 a2 a3 a4 a5 n (i : Int) = some (.inl ()) := by
  intro d
  induction d with
  | zero =>
    intro i n hd hi hn
    obtain ⟨n, rfl⟩ : ∃ m, n = m + 1 := ⟨n - 1, by omega⟩
    rw [halterlaw10_RegsBack.l1, if_neg (by omega)]
  | succ d ih =>
    intro i n hd hi hn
    obtain ⟨n, rfl⟩ : ∃ m, n = m + 1 := ⟨n - 1, by omega⟩
    have := ih (i + 1) n (by omega) (by omega) (by omega)
    rw [halterlaw10_RegsBack.l1, if_pos (by omega), Get_of h (by omega) (by omega), Get_of h8 (by omega) (by omega)]
    simp only [Option.bind_some, not_true_eq_false, if_false]
    rw [kk, ← hk, getD_set _ _ _ _ (by omega), wi64 (by omega) (by omega), show ((i : Int) + 1) = ((i + 1 : Nat) : Int) by omega, this]
    by_cases e : (i : Int) = k
    · subst e
      simp [hv]
    · rw [if_neg e, if_pos e, if_neg (by omega)]
theorem RegsBack (a0 : (List Int)) (a1 : Int) (a2 : Int) (a3 : (List Int)) (a4 : Int) (a5 : Int) (h0 : List.length a0 = 16) (h1 : ∀ z ∈ a0, (Lit.int .u32 z).wf = true) (h2 : (Lit.int .u32 a1).wf = true) (h3 : (Lit.int .u32 a2).wf = true) (h4 : List.length a3 = 4) (h5 : ∀ z ∈ a3, (Lit.int .u64 z).wf = true) (h6 : (Lit.int .i64 a4).wf = true) (h7 : (Lit.int .u32 a5).wf = true) : halterlaw10_RegsBack.f a0 a1 a2 a3 a4 a5 = some true := by
  obtain ⟨x0, x1, x2, x3, x4, x5, x6, x7, x8, x9, x10, x11, x12, x13, x14, x15, rfl⟩ := len16 h0
  obtain ⟨f0, f1, f2, f3, rfl⟩ := len4 h4
  have F0 := u64_bd (h5 f0 (by simp))
  have F1 := u64_bd (h5 f1 (by simp))
  have F2 := u64_bd (h5 f2 (by simp))
  have F3 := u64_bd (h5 f3 (by simp))
  have A1 := u32_bd h2
  have A2 := u32_bd h3
  have A5 := u32_bd h7
  have e2 : Int.tmod a2 32 = a2 % 32 := Int.tmod_eq_emod_of_nonneg A2.1
  have e5 : Int.tmod a5 32 = a5 % 32 := Int.tmod_eq_emod_of_nonneg A5.1
  have hx : ∀ z ∈ [x0, x1, x2, x3, x4, x5, x6, x7, x8, x9, x10, x11, x12, x13, x14, x15, a1, Int.tmod a2 32, f0 % 4294967296, f0 / 4294967296 % 4294967296, f1 % 4294967296, f1 / 4294967296 % 4294967296, f2 % 4294967296, f2 / 4294967296 % 4294967296, f3 % 4294967296, f3 / 4294967296 % 4294967296], 0 ≤ z ∧ z < 4294967296 := by
    intro z hz
    by_cases hm : z ∈ [x0, x1, x2, x3, x4, x5, x6, x7, x8, x9, x10, x11, x12, x13, x14, x15]
    · exact u32_bd (h1 z hm)
    · simp only [List.mem_cons, List.not_mem_nil, or_false, not_or] at hz hm
      obtain ⟨m0, m1, m2, m3, m4, m5, m6, m7, m8, m9, m10, m11, m12, m13, m14, m15⟩ := hm
      simp only [m0, m1, m2, m3, m4, m5, m6, m7, m8, m9, m10, m11, m12, m13, m14, m15, false_or] at hz
      rcases hz with rfl | rfl | rfl | rfl | rfl | rfl | rfl | rfl | rfl | rfl
      · exact A1
      · rw [e2]; omega
      all_goals exact mod_bd _
  clear h0 h1 h2 h3 h4 h5 h6 h7
  have hw := words_eq x0 x1 x2 x3 x4 x5 x6 x7 x8 x9 x10 x11 x12 x13 x14 x15 a1 (Int.tmod a2 32) f0 f1 f2 f3
  have hof : regs_of.f [x0, x1, x2, x3, x4, x5, x6, x7, x8, x9, x10, x11, x12, x13, x14, x15, a1, Int.tmod a2 32, f0 % 4294967296, f0 / 4294967296 % 4294967296, f1 % 4294967296, f1 / 4294967296 % 4294967296, f2 % 4294967296, f2 / 4294967296 % 4294967296, f3 % 4294967296, f3 / 4294967296 % 4294967296] =
      some ([x0, x1, x2, x3, x4, x5, x6, x7, x8, x9, x10, x11, x12, x13, x14, x15], a1, Int.tmod a2 32, [f0, f1, f2, f3], none) := by
    rw [of_eq _ _ _ _ _ _ _ _ _ _ _ _ _ _ _ _ _ _ _ _ _ _ _ _ _ _ (mod_bd _) (mod_bd _) (mod_bd _) (mod_bd _) (mod_bd _) (mod_bd _) (mod_bd _) (mod_bd _), if_neg (by omega), joinf F0, joinf F1, joinf F2, joinf F3]
  have h17 : ([x0, x1, x2, x3, x4, x5, x6, x7, x8, x9, x10, x11, x12, x13, x14, x15, a1, Int.tmod a2 32, f0 % 4294967296, f0 / 4294967296 % 4294967296, f1 % 4294967296, f1 / 4294967296 % 4294967296, f2 % 4294967296, f2 / 4294967296 % 4294967296, f3 % 4294967296, f3 / 4294967296 % 4294967296] : List Int).getD 17 0 < 32 := by
    show Int.tmod a2 32 < 32
    omega
  have hlen : ([x0, x1, x2, x3, x4, x5, x6, x7, x8, x9, x10, x11, x12, x13, x14, x15, a1, Int.tmod a2 32, f0 % 4294967296, f0 / 4294967296 % 4294967296, f1 % 4294967296, f1 / 4294967296 % 4294967296, f2 % 4294967296, f2 / 4294967296 % 4294967296, f3 % 4294967296, f3 / 4294967296 % 4294967296] : List Int).length = 26 := rfl
  generalize ([x0, x1, x2, x3, x4, x5, x6, x7, x8, x9, x10, x11, x12, x13, x14, x15, a1, Int.tmod a2 32, f0 % 4294967296, f0 / 4294967296 % 4294967296, f1 % 4294967296, f1 / 4294967296 % 4294967296, f2 % 4294967296, f2 / 4294967296 % 4294967296, f3 % 4294967296, f3 / 4294967296 % 4294967296] : List Int) = W at *
  generalize [x0, x1, x2, x3, x4, x5, x6, x7, x8, x9, x10, x11, x12, x13, x14, x15] = a0 at *
  generalize [f0, f1, f2, f3] = a3 at *
  have hE : regs_Encode.f a0 a1 (Int.tmod a2 32) a3 = some (W.flatMap By, none) := by
    unfold regs_Encode.f
    rw [Check_eq, if_neg (by omega)]
    have := enc_loop W hlen a0 a1 (Int.tmod a2 32) a3 26 0 FUEL [] (by omega) (by omega) rfl (by rw [fuel5]; omega)
    rw [show ((0 : Nat) : Int) = 0 from rfl] at this
    simp only [Option.bind_some, not_true_eq_false, if_false, hw, this]
    simp
  have hD : regs_Decode.f (W.flatMap By) = some (a0, a1, Int.tmod a2 32, a3, none) := by
    unfold regs_Decode.f
    have hl := len_By W
    rw [hlen] at hl
    rw [if_neg (by rw [hl]; decide)]
    have := dec_loop (W.flatMap By) hl (fun z hz => mem_By hz) 26 0 FUEL (List.replicate 26 0) (by omega) (by omega) (by simp) (by rw [fuel5]; omega)
    rw [show ((0 : Nat) : Int) = 0 from rfl] at this
    rw [this]
    simp only [List.take_zero, List.nil_append, List.drop_zero, Option.bind_some, vals_By hlen hx, hof]
  have hl := len_By W
  rw [hlen] at hl
  have k0 : 0 ≤ a4 % 18446744073709551616 % 26 := by omega
  have k1 : a4 % 18446744073709551616 % 26 < 26 := by omega
  unfold halterlaw10_RegsBack.f
  rw [hE]
  simp only [Option.bind_some, hD, not_true_eq_false, if_false, and_self, hl]
  rw [if_neg (by decide), kk]
  by_cases h : a4 % 18446744073709551616 % 26 = 17
  · obtain ⟨s0, s1, s2, s3, g1, g2⟩ := Set_of hw hlen hx k0 k1 (v := Int.tmod a5 32) (by omega) (by
      rw [h, getD_set _ _ _ _ (by rw [hlen]; decide)]
      simp
      omega)
    rw [if_pos h, g1]
    simp only [Option.bind_some, not_true_eq_false, if_false]
    have := back_loop0 (a4 := a4) (a5 := a5) hlen hw (t8 := (s0, s1, s2, s3, none)) rfl rfl g2 (a0, a1, Int.tmod a2 32, a3, none) 26 0 FUEL (by omega) (by omega) (by rw [fuel5]; omega)
    rw [show ((0 : Nat) : Int) = 0 from rfl] at this
    rw [this]
    simp [sure_eq]
  · obtain ⟨s0, s1, s2, s3, g1, g2⟩ := Set_of hw hlen hx k0 k1 (v := a5) A5 (by
      rw [getD_set _ _ _ _ (by omega), if_neg (by omega)]
      exact h17)
    rw [if_neg h, g1]
    simp only [Option.bind_some, not_true_eq_false, if_false]
    have := back_loop1 (a4 := a4) (a5 := a5) hlen hw (t8 := (s0, s1, s2, s3, none)) rfl rfl g2 (a0, a1, Int.tmod a2 32, a3, none) 26 0 FUEL (by omega) (by omega) (by rw [fuel5]; omega)
    rw [show ((0 : Nat) : Int) = 0 from rfl] at this
    rw [this]
    simp [sure_eq]
end Go.Proofs.Ytfcdlkpoebjghaa.Pure
