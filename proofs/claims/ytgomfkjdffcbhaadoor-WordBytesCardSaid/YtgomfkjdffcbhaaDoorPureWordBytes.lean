/- WordBytes, read purely. -/
import Derived.Test.YtgomfkjdffcbhaaDoorPWordBytesx2
set_option linter.unusedVariables false
set_option linter.unusedSimpArgs false
set_option linter.unnecessarySimpa false
namespace Go.Proofs.YtgomfkjdffcbhaaDoor.Pure
open Go.RowKit Go.Proofs.YtgomfkjdffcbhaaDoor.PWordBytes Go.Proofs.YtgomfkjdffcbhaaDoorW.PrintWords Go.Proofs.YtgomfkjdffcbhaaDoorW.PrintLast Go.Proofs.YtgomfkjdffcbhaaDoorW.PrintMore

theorem u64w (x : Int) : IntKind.u64.wrap x = x % 18446744073709551616 := by simp [IntKind.wrap, IntKind.bits, IntKind.signed]
theorem u32_bd {a : Int} (h : (Lit.int .u32 a).wf = true) : 0 ≤ a ∧ a ≤ 4294967295 := by
  simpa [Lit.wf, IntKind.min, IntKind.max, IntKind.signed, IntKind.bits] using h
theorem i64_bd {a : Int} (h : (Lit.int .i64 a).wf = true) : -9223372036854775808 ≤ a ∧ a ≤ 9223372036854775807 := by
  simpa [Lit.wf, IntKind.min, IntKind.max, IntKind.signed, IntKind.bits] using h
theorem tmod_pos {a m : Int} (h : 0 ≤ a) : Int.tmod a m = a % m := Int.tmod_eq_emod_of_nonneg h
theorem tdiv_pos {a m : Int} (h : 0 ≤ a) : Int.tdiv a m = a / m := Int.tdiv_eq_ediv_of_nonneg h
theorem w64 {x : Int} (h0 : -9223372036854775808 ≤ x) (h1 : x ≤ 9223372036854775807) : wrap64 x = x := by unfold wrap64; omega

theorem shl_eq (v : Int) (n : Nat) (h : n ≤ 32) : shl .u32 v n = v * 2 ^ n % 4294967296 := by
  unfold shl
  rw [IntKind.wrap_u32, Int.toNat_natCast, Nat.min_eq_left (show n ≤ IntKind.u32.bits from h)]
theorem shr_eq (k : IntKind) (v : Int) (n : Nat) (h : n ≤ k.bits) : shr k v n = v / 2 ^ n := by
  unfold shr
  rw [Int.toNat_natCast, Nat.min_eq_left h]

theorem or_low (i : Nat) (v y : Int) (hv0 : 0 ≤ v) (hv : v < 2 ^ i) (hv1 : v < 4294967296) (hy0 : 0 ≤ y) (hy1 : y < 4294967296) (hy : y % 2 ^ i = 0) : Go.bits .or .u32 v y = v + y := by
  have hw : ∀ x : Int, 0 ≤ x → x < 2 ^ 32 → IntKind.u32.wrap x = x := fun x h0 h1 => by rw [IntKind.wrap_u32]; omega
  have hj := bits_join .u32 32 (by decide) hw i y v hy0 hy hy1 hv0 hv hv1
  obtain ⟨a, rfl⟩ := Int.eq_ofNat_of_zero_le hv0
  obtain ⟨b, rfl⟩ := Int.eq_ofNat_of_zero_le hy0
  have h1 := (bits_nat .u32 32 (by decide) hw a b (by omega) (by omega)).2
  have h2 := (bits_nat .u32 32 (by decide) hw b a (by omega) (by omega)).2
  rw [h1, Nat.or_comm, ← h2, hj, Int.add_comm]
theorem shl0 (v : Int) : shl .u32 v 0 = v % 4294967296 := by have := shl_eq v 0 (by decide); simpa using this
theorem shl8 (v : Int) : shl .u32 v 8 = v * 256 % 4294967296 := shl_eq v 8 (by decide)
theorem shl16 (v : Int) : shl .u32 v 16 = v * 65536 % 4294967296 := shl_eq v 16 (by decide)
theorem shl24 (v : Int) : shl .u32 v 24 = v * 16777216 % 4294967296 := shl_eq v 24 (by decide)
theorem store4 (k : Nat) (a : Int) : word_Store.f (k + 5) a 4 = some ([a % 256, a / 256 % 256, a / 256 / 256 % 256, a / 256 / 256 / 256 % 256], none) := by
  simp [word_Store.f, word_sized.f, word_Store.l0, wrap64]
theorem load4 (k : Nat) (a b c d : Int) (ha : 0 ≤ a ∧ a < 256) (hb : 0 ≤ b ∧ b < 256) (hc : 0 ≤ c ∧ c < 256) (hd : 0 ≤ d ∧ d < 256) :
    word_Load.f (k + 5) [a, b, c, d] = some (a + b * 256 + c * 65536 + d * 16777216, none) := by
  have e0 : Go.bits .or .u32 0 (shl .u32 (a % 4294967296) 0) = a := by
    rw [shl0, or_low 0 0 _ (by decide) (by decide) (by decide) (by omega) (by omega) (by omega)]
    omega
  have e1 : Go.bits .or .u32 a (shl .u32 (b % 4294967296) 8) = a + b * 256 := by
    rw [shl8, or_low 8 a _ (by omega) (by omega) (by omega) (by omega) (by omega) (by omega)]
    omega
  have e2 : Go.bits .or .u32 (a + b * 256) (shl .u32 (c % 4294967296) 16) = a + b * 256 + c * 65536 := by
    rw [shl16, or_low 16 _ _ (by omega) (by omega) (by omega) (by omega) (by omega) (by omega)]
    omega
  have e3 : Go.bits .or .u32 (a + b * 256 + c * 65536) (shl .u32 (d % 4294967296) 24) = a + b * 256 + c * 65536 + d * 16777216 := by
    rw [shl24, or_low 24 _ _ (by omega) (by omega) (by omega) (by omega) (by omega) (by omega)]
    omega
  simp [word_Load.f, word_sized.f, word_Load.l0, wrap64, rd, e0, e1, e2, e3]

theorem u8_bd {a : Int} (h : (Lit.int .u8 a).wf = true) : 0 ≤ a ∧ a < 256 := by
  have : 0 ≤ a ∧ a ≤ 255 := by simpa [Lit.wf, IntKind.min, IntKind.max, IntKind.signed, IntKind.bits] using h
  omega
theorem rw_ (x : Int) (h0 : 0 ≤ x) (h1 : x < 1099511627776) : wrap64 x = x := w64 (by omega) (by omega)
theorem k_0m1 : wrap64 (0 - 1) = -1 := by unfold wrap64; decide
theorem k_m1 : wrap64 (-1) = -1 := by unfold wrap64; decide
theorem k_1m1 : wrap64 (1 - 1) = 0 := by unfold wrap64; decide
theorem k_2m1 : wrap64 (2 - 1) = 1 := by unfold wrap64; decide
theorem k_1 : wrap64 1 = 1 := by unfold wrap64; decide
theorem k_0 : wrap64 0 = 0 := by unfold wrap64; decide
theorem k_3m1 : wrap64 (3 - 1) = 2 := by unfold wrap64; decide
theorem k_3 : wrap64 3 = 3 := by unfold wrap64; decide
theorem k_2 : wrap64 2 = 2 := by unfold wrap64; decide
set_option maxRecDepth 8000 in
theorem load_same (l : List Int) (hl : l.length ≤ maxLen) (hb : ∀ x ∈ l, (Lit.int .u8 x).wf = true) : ∃ n e, word_Load.f 40 l = some (n, e) ∧ halterref01_Load.f 40 l = some (n, e.getD 0) := by
  have e0 : ∀ a : Int, 0 ≤ a → a < 256 → Go.bits .or .u32 0 (shl .u32 (a % 4294967296) 0) = a := by
    intro a h0 h1
    rw [shl0, or_low 0 0 _ (by decide) (by decide) (by decide) (by omega) (by omega) (by omega)]
    omega
  have e1 : ∀ a b : Int, 0 ≤ a → a < 256 → 0 ≤ b → b < 256 → Go.bits .or .u32 a (shl .u32 (b % 4294967296) 8) = a + b * 256 := by
    intro a b _ _ _ _
    rw [shl8, or_low 8 a _ (by omega) (by omega) (by omega) (by omega) (by omega) (by omega)]
    omega
  match l, hl, hb with
  | [], _, _ => exact ⟨0, some 22, by simp [word_Load.f, word_sized.f], by simp [halterref01_Load.f, halterref01_Load.j0]⟩
  | [a], _, hb =>
    have ha := u8_bd (hb a (by simp))
    refine ⟨a, none, by simp [word_Load.f, word_sized.f, word_Load.l0, wrap64, rd, e0 a ha.1 ha.2], ?_⟩
    have w1 := rw_ a ha.1 (by omega)
    have m1 : a % 4294967296 = a := by omega
    simp [halterref01_Load.f, halterref01_Load.j0, halterref01_Load.l0, rd, w1, m1, k_0m1, k_m1, k_0]
  | [a, b], _, hb =>
    have ha := u8_bd (hb a (by simp))
    have hb' := u8_bd (hb b (by simp))
    refine ⟨a + b * 256, none, by simp [word_Load.f, word_sized.f, word_Load.l0, wrap64, rd, e0 a ha.1 ha.2, e1 a b ha.1 ha.2 hb'.1 hb'.2], ?_⟩
    have w1 := rw_ a ha.1 (by omega)
    have w2 := rw_ b hb'.1 (by omega)
    have w3 := rw_ (256 * b) (by omega) (by omega)
    have w4 := rw_ (256 * b + a) (by omega) (by omega)
    have m1 : (256 * b + a) % 4294967296 = a + b * 256 := by omega
    simp [halterref01_Load.f, halterref01_Load.j0, halterref01_Load.l0, rd, w1, w2, w3, w4, m1, k_1m1, k_2m1, k_1, k_0, k_m1]
  | [a, b, c], _, _ => exact ⟨0, some 22, by simp [word_Load.f, word_sized.f], by simp [halterref01_Load.f, halterref01_Load.j0]⟩
  | [a, b, c, d], _, hb =>
    have ha := u8_bd (hb a (by simp))
    have hb' := u8_bd (hb b (by simp))
    have hc := u8_bd (hb c (by simp))
    have hd := u8_bd (hb d (by simp))
    refine ⟨_, none, load4 35 a b c d ha hb' hc hd, ?_⟩
    have w1 := rw_ a ha.1 (by omega)
    have w2 := rw_ b hb'.1 (by omega)
    have w3 := rw_ c hc.1 (by omega)
    have w4 := rw_ d hd.1 (by omega)
    have w5 := rw_ (256 * d) (by omega) (by omega)
    have w6 := rw_ (256 * d + c) (by omega) (by omega)
    have w7 := rw_ (256 * (256 * d + c)) (by omega) (by omega)
    have w8 := rw_ (256 * (256 * d + c) + b) (by omega) (by omega)
    have w9 := rw_ (256 * (256 * (256 * d + c) + b)) (by omega) (by omega)
    have w10 := rw_ (256 * (256 * (256 * d + c) + b) + a) (by omega) (by omega)
    have m1 : (256 * (256 * (256 * d + c) + b) + a) % 4294967296 = a + b * 256 + c * 65536 + d * 16777216 := by omega
    simp [halterref01_Load.f, halterref01_Load.j0, halterref01_Load.l0, rd, w1, w2, w3, w4, w5, w6, w7, w8, w9, w10, m1, k_3m1, k_2m1, k_1m1, k_3, k_2, k_1, k_0, k_m1]
  | a :: b :: c :: d :: e :: r, hl, _ =>
    have n1 : ¬ ((r.length : Int) + 1 + 1 + 1 + 1 + 1 = 1) := by omega
    have n2 : ¬ ((r.length : Int) + 1 + 1 + 1 + 1 + 1 = 2) := by omega
    have n4 : ¬ ((r.length : Int) + 1 + 1 + 1 + 1 + 1 = 4) := by omega
    refine ⟨0, some 22, ?_, ?_⟩
    · simp [word_Load.f, word_sized.f, n1, n2, n4]
    · simp [halterref01_Load.f, halterref01_Load.j0, n1, n2, n4]
set_option maxRecDepth 8000 in
theorem store_same (v s : Int) (h0 : 0 ≤ v) (h1 : v ≤ 4294967295) : ∃ c e, word_Store.f 40 v s = some (c, e) ∧ halterref01_Store.f 40 v s = some (c, e.getD 0) := by
  have w1 := rw_ v h0 (by omega)
  have w2 := rw_ (v / 256) (by omega) (by omega)
  have w3 := rw_ (v / 256 / 256) (by omega) (by omega)
  have w4 := rw_ (v / 256 / 256 / 256) (by omega) (by omega)
  have w5 := rw_ (v / 256 / 256 / 256 / 256) (by omega) (by omega)
  have d1 : Int.tdiv v 256 = v / 256 := tdiv_pos h0
  have d2 : Int.tdiv (v / 256) 256 = v / 256 / 256 := tdiv_pos (by omega)
  have d3 : Int.tdiv (v / 256 / 256) 256 = v / 256 / 256 / 256 := tdiv_pos (by omega)
  have d4 : Int.tdiv (v / 256 / 256 / 256) 256 = v / 256 / 256 / 256 / 256 := tdiv_pos (by omega)
  have m1 : Int.tmod v 256 = v % 256 := tmod_pos h0
  have m2 : Int.tmod (v / 256) 256 = v / 256 % 256 := tmod_pos (by omega)
  have m3 : Int.tmod (v / 256 / 256) 256 = v / 256 / 256 % 256 := tmod_pos (by omega)
  have m4 : Int.tmod (v / 256 / 256 / 256) 256 = v / 256 / 256 / 256 % 256 := tmod_pos (by omega)
  have k0 : wrap64 1 = 1 := by unfold wrap64; decide
  have k1 : wrap64 (1 + 1) = 2 := by unfold wrap64; decide
  have k2 : wrap64 (2 + 1) = 3 := by unfold wrap64; decide
  have k3 : wrap64 (3 + 1) = 4 := by unfold wrap64; decide
  have k4 : wrap64 2 = 2 := by unfold wrap64; decide
  have k5 : wrap64 3 = 3 := by unfold wrap64; decide
  have k6 : wrap64 4 = 4 := by unfold wrap64; decide
  by_cases a : s = 1
  · subst a
    exact ⟨[v % 256], none, by simp [word_Store.f, word_sized.f, word_Store.l0, k0], by simp [halterref01_Store.f, halterref01_Store.j0, halterref01_Store.l0, List.replicate, w1, w2, d1, m1, k0, k1, k4]⟩
  by_cases b : s = 2
  · subst b
    exact ⟨[v % 256, v / 256 % 256], none, by simp [word_Store.f, word_sized.f, word_Store.l0, k0, k1, k4], by simp [halterref01_Store.f, halterref01_Store.j0, halterref01_Store.l0, List.replicate, w1, w2, w3, d1, d2, m1, m2, k0, k1, k2, k4, k5]⟩
  by_cases c : s = 4
  · subst c
    exact ⟨_, none, store4 35 v, by simp [halterref01_Store.f, halterref01_Store.j0, halterref01_Store.l0, List.replicate, w1, w2, w3, w4, w5, d1, d2, d3, d4, m1, m2, m3, m4, k0, k1, k2, k3, k4, k5, k6]⟩
  · exact ⟨[], some 22, by simp [word_Store.f, word_sized.f, a, b, c], by simp [halterref01_Store.f, halterref01_Store.j0, a, b, c]⟩
theorem WordBytes : halterlaw01_WordBytes.Pure := by
  intro l v s hl _ hb hv _
  obtain ⟨v0, v1⟩ := u32_bd hv
  refine ⟨40, ?_⟩
  have hs : halterlaw01_sure.f 40 = some true := by decide +kernel
  obtain ⟨n, e, h1, h2⟩ := load_same l hl hb
  obtain ⟨c, g, h3, h4⟩ := store_same v s v0 v1
  unfold halterlaw01_WordBytes.f
  rw [h1, h2, h3, h4, hs]
  simp [halterlaw01_num.f]

end Go.Proofs.YtgomfkjdffcbhaaDoor.Pure
