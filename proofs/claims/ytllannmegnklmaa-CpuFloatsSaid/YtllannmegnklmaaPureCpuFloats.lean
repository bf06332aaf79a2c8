/- The plain law: what the law computes is true, whatever it is handed. -/
import Derived.Test.YtllannmegnklmaaGCpuFloats
import Derived.Test.YtllannmegnklmaaE16
set_option linter.unusedVariables false
set_option linter.unusedSimpArgs false
set_option linter.unnecessarySimpa false
namespace Go.Proofs.Ytllannmegnklmaa.Pure
open Go Go.Proofs.YtllannmegnklmaaE Go.Proofs.YtllannmegnklmaaGCpuFloats
theorem wu8 (x : Int) : IntKind.wrap .u8 x = x % 256 := by simp [IntKind.wrap, IntKind.bits, IntKind.signed]
theorem wu16 (x : Int) : IntKind.wrap .u16 x = x % 65536 := by simp [IntKind.wrap, IntKind.bits, IntKind.signed]
theorem wu32 (x : Int) : IntKind.wrap .u32 x = x % 4294967296 := by simp [IntKind.wrap, IntKind.bits, IntKind.signed]
theorem wu64 (x : Int) : IntKind.wrap .u64 x = x % 18446744073709551616 := by simp [IntKind.wrap, IntKind.bits, IntKind.signed]
theorem wi64 {x : Int} (h : -9223372036854775808 ≤ x) (h' : x ≤ 9223372036854775807) : IntKind.wrap .i64 x = x := by
  simp [IntKind.wrap, IntKind.bits, IntKind.signed]
  omega
theorem wu8_id {x : Int} (h : 0 ≤ x ∧ x < 256) : IntKind.wrap .u8 x = x := by rw [wu8]; omega
theorem wu32_id {x : Int} (h : 0 ≤ x ∧ x < 4294967296) : IntKind.wrap .u32 x = x := by rw [wu32]; omega
theorem wu64_id {x : Int} (h : 0 ≤ x ∧ x < 18446744073709551616) : IntKind.wrap .u64 x = x := by rw [wu64]; omega
theorem wsucc {i : Nat} (h : i < 9223372036854775807) : IntKind.wrap .i64 ((i : Int) + 1) = ((i + 1 : Nat) : Int) := by rw [wi64 (by omega) (by omega)]; omega
theorem u8_bd {a : Int} (h : (Lit.int .u8 a).wf = true) : 0 ≤ a ∧ a < 256 := by
  simpa [Lit.wf, IntKind.min, IntKind.max, IntKind.signed, IntKind.bits, ← Int.lt_add_one_iff] using h
theorem u32_bd {a : Int} (h : (Lit.int .u32 a).wf = true) : 0 ≤ a ∧ a < 4294967296 := by
  simpa [Lit.wf, IntKind.min, IntKind.max, IntKind.signed, IntKind.bits, ← Int.lt_add_one_iff] using h
theorem u64_bd {a : Int} (h : (Lit.int .u64 a).wf = true) : 0 ≤ a ∧ a < 18446744073709551616 := by
  simpa [Lit.wf, IntKind.min, IntKind.max, IntKind.signed, IntKind.bits, ← Int.lt_add_one_iff] using h
theorem i64_bd {a : Int} (h : (Lit.int .i64 a).wf = true) : -9223372036854775808 ≤ a ∧ a < 9223372036854775808 := by
  simpa [Lit.wf, IntKind.min, IntKind.max, IntKind.signed, IntKind.bits, ← Int.lt_add_one_iff] using h
theorem fuel_gt {n : Nat} (h : n < 18446744073709551616) : n < FUEL := h
theorem bind_go {α β : Type} (a : α) (f : α → Option β) : (some a).bind f = f a := by rw [Option.bind_some]
theorem drop_getD {α : Type} (l : List α) (i : Nat) (d : α) (h : i < l.length) : l.drop i = l.getD i d :: l.drop (i + 1) := by
  rw [List.drop_eq_getElem_cons h, List.getD_eq_getElem?_getD, List.getElem?_eq_getElem h, Option.getD_some]
theorem getD_mem {α : Type} (l : List α) (i : Nat) (d : α) (h : i < l.length) : l.getD i d ∈ l := by
  rw [List.getD_eq_getElem?_getD, List.getElem?_eq_getElem h, Option.getD_some]; exact List.getElem_mem _
theorem toNat_nat (i : Nat) : Int.toNat (i : Int) = i := rfl
/-- A number behind another one: a round of a loop. -/
theorem fuel_step {d n : Nat} (h : d < n) : ∃ m, n = m + 1 := ⟨n - 1, by omega⟩
/-- Where something stands first. -/
def first (v : Int) : List Int → Option Nat
  | [] => none
  | x :: xs => if x = v then some 0 else (first v xs).map (· + 1)
theorem first_none {v : Int} : ∀ {l : List Int}, first v l = none → ∀ z ∈ l, z ≠ v
  | [], _, z, hz => by cases hz
  | x :: xs, h, z, hz => by
    unfold first at h
    split at h
    · cases h
    · rename_i hx
      rcases List.mem_cons.1 hz with rfl | hz
      · exact hx
      · exact first_none (by simpa using h) z hz
theorem first_some {v : Int} : ∀ {l : List Int} {k : Nat}, first v l = some k → k < l.length ∧ l.getD k 0 = v ∧ ∀ j, j < k → l.getD j 0 ≠ v
  | [], _, h => by cases h
  | x :: xs, k, h => by
    unfold first at h
    split at h
    · cases h
      rename_i hx
      exact ⟨by simp, by simpa using hx, fun j hj => by omega⟩
    · rename_i hx
      cases hf : first v xs with
      | none => simp [hf] at h
      | some m =>
        simp [hf] at h
        subst h
        obtain ⟨h1, h2, h3⟩ := first_some hf
        refine ⟨by simp; omega, by simpa using h2, fun j hj => ?_⟩
        cases j with
        | zero => simpa using hx
        | succ j => simpa using h3 j (by omega)

theorem sure_true : halterlaw12_sure.f = some true := by kernel_rfl

def wb (v : Int) : List Int := [v % 256, v / 256 % 256, v / 256 / 256 % 256, v / 256 / 256 / 256 % 256]
theorem fuel6 : ∃ m, FUEL = m + 6 := ⟨18446744073709551610, rfl⟩
theorem st_step {a1 : Int} (h1 : a1 = 4) {n : Nat} {l : List Int} {v i : Int} (hv : 0 ≤ v ∧ v < 4294967296) (hi : 0 ≤ i ∧ i < 4) :
    halterref01_Store.l0 a1 (n + 1) l v i = halterref01_Store.l0 a1 n (List.set l i.toNat (v % 256)) (v / 256) (i + 1) := by
  subst h1
  rw [halterref01_Store.l0]
  rw [if_pos (show i < 4 by omega), if_pos (show 0 ≤ i ∧ i < ((Int.toNat 4 : Nat) : Int) from ⟨hi.1, by show i < ((4 : Nat) : Int); omega⟩), if_pos (show 0 + i.toNat < Int.toNat 4 by show 0 + i.toNat < 4; omega)]
  rw [Nat.zero_add, Int.tmod_eq_emod_of_nonneg hv.1, Int.tdiv_eq_ediv_of_nonneg hv.1, wi64 (by omega) (by omega), wi64 (by omega) (by omega), wu8]
  rw [show v % 256 % 256 = v % 256 by omega]
theorem store4 {v : Int} (hv : 0 ≤ v ∧ v < 4294967296) : halterref01_Store.f v 4 = some (wb v, 0) := by
  obtain ⟨m, hm⟩ := fuel6
  rw [halterref01_Store.f]
  rw [if_pos (show ¬ ((4 : Int) = 1) by decide), if_pos (show ¬ ((4 : Int) = 2) by decide), if_neg (show ¬ ¬ ((4 : Int) = 4) by decide), if_pos (by decide)]
  have w : IntKind.wrap .i64 v = v := wi64 (by omega) (by omega)
  rw [w, hm, st_step rfl hv (by decide), st_step rfl (by omega) (by decide), st_step rfl (by omega) (by decide), st_step rfl (by omega) (by decide)]
  rw [halterref01_Store.l0, if_neg (by decide), bind_go, if_pos ⟨by decide, trivial⟩]
  rfl
theorem wb_len (v : Int) : (wb v).length = 4 := rfl
theorem take_drop64 (l : List Int) (i : Nat) (h1 : i < l.length) (h2 : i < 64) : (l.take 64).drop i = l.getD i 0 :: (l.take 64).drop (i + 1) := by
  rw [drop_getD (l.take 64) i 0 (by rw [List.length_take]; omega)]
  congr 1
  rw [List.getD_eq_getElem?_getD, List.getD_eq_getElem?_getD, List.getElem?_take_of_lt h2]
theorem laid_l0 {a0 : List Int} (hw : ∀ z ∈ a0, 0 ≤ z ∧ z < 4294967296) : ∀ (d i n : Nat) (x : List Int), min a0.length 64 - i = d → i ≤ min a0.length 64 → d < n → x.length = 4 * i →
    halterlaw12_laid.l0 a0 n x (i : Int) = some (x ++ ((a0.take 64).drop i).flatMap wb) := by
  intro d
  induction d with
  | zero =>
    intro i n x hd hi hn hx
    obtain ⟨m, rfl⟩ := fuel_step hn
    have hnil : (a0.take 64).drop i = [] := List.drop_eq_nil_of_le (by rw [List.length_take]; omega)
    rw [halterlaw12_laid.l0, hnil]
    by_cases h : (i : Int) < ((a0.length : Nat) : Int)
    · rw [if_pos h, if_neg (show ¬ (i : Int) < 64 by omega)]; simp
    · rw [if_neg h]; simp
  | succ d ih =>
    intro i n x hd hi hn hx
    obtain ⟨m, rfl⟩ := fuel_step hn
    have h1 : i < a0.length := by omega
    have h2 : i < 64 := by omega
    have hb := hw _ (getD_mem a0 i 0 h1)
    rw [halterlaw12_laid.l0, if_pos (show (i : Int) < ((a0.length : Nat) : Int) by omega), if_pos (show (i : Int) < 64 by omega), if_pos (show 0 ≤ (i : Int) ∧ (i : Int) < ((a0.length : Nat) : Int) by omega)]
    rw [toNat_nat, store4 hb, bind_go]
    dsimp only
    rw [if_pos (show _ from ⟨trivial, rfl, rfl, by rw [hx, wb_len]; omega, by rw [hx, wb_len]; omega⟩), wsucc (by omega), ih (i + 1) m _ (by omega) (by omega) (by omega) (by rw [List.length_append, hx, wb_len]; omega)]
    rw [take_drop64 a0 i h1 h2, List.flatMap_cons, List.append_assoc]
theorem laid_eq {a0 : List Int} (hw : ∀ z ∈ a0, 0 ≤ z ∧ z < 4294967296) : halterlaw12_laid.f a0 = some (0, 0, (a0.take 64).flatMap wb) := by
  rw [halterlaw12_laid.f, show (0 : Int) = ((0 : Nat) : Int) from rfl, laid_l0 hw _ 0 FUEL [] rfl (by omega) (fuel_gt (by omega)) rfl, bind_go]
  rfl
def byt (b : List Int) : Prop := ∀ z ∈ b, 0 ≤ z ∧ z < 256
theorem byt_getD {b : List Int} (hb : byt b) (i : Nat) : 0 ≤ b.getD i 0 ∧ b.getD i 0 < 256 := by
  by_cases h : i < b.length
  · exact hb _ (getD_mem b i 0 h)
  · rw [List.getD_eq_getElem?_getD, List.getElem?_eq_none (by omega)]; simp
theorem ld_step {a0 a2 a3 : Int} {b : List Int} (hb : byt b) (ha : 0 ≤ a0 ∧ a0 < 4294967296) {n : Nat} {v x : Int} (hv : 0 ≤ v ∧ v < 16777216) (hx : 0 ≤ x ∧ x < 4) (hl : a0 + x < b.length) :
    halterlaw12_board_Load.l0 a0 a2 a3 b (n + 1) v x = halterlaw12_board_Load.l0 a0 a2 a3 b n (256 * v + b.getD (a0.toNat + x.toNat) 0) (x - 1) := by
  have e0 : IntKind.wrap .i64 a0 = a0 := wi64 (by omega) (by omega)
  have e1 : IntKind.wrap .i64 (a0 + x) = a0 + x := wi64 (by omega) (by omega)
  have e2 : (a0 + x).toNat = a0.toNat + x.toNat := by omega
  have e3 := byt_getD hb (a0.toNat + x.toNat)
  rw [halterlaw12_board_Load.l0, if_pos (show x ≥ 0 from hx.1), e0, e1, if_pos ⟨by omega, by omega⟩, if_pos (by omega), Nat.zero_add, e2]
  generalize b.getD (a0.toNat + x.toNat) 0 = y at e3
  rw [wi64 (by omega) (by omega), wu32, wu32, wu32, show ((256 * v) % 4294967296 + y % 4294967296) % 4294967296 = 256 * v + y by omega]
theorem ld_end {a0 a2 a3 : Int} {b : List Int} {n : Nat} {v : Int} : halterlaw12_board_Load.l0 a0 a2 a3 b (n + 1) v (-1) = some v := by
  rw [halterlaw12_board_Load.l0, if_neg (by decide)]
def rd1 (b : List Int) (p : Nat) : Int := b.getD p 0
def rd4 (b : List Int) (p : Nat) : Int := 256 * (256 * (256 * b.getD (p + 3) 0 + b.getD (p + 2) 0) + b.getD (p + 1) 0) + b.getD p 0
theorem load_out {a0 a1 a2 a3 : Int} {b : List Int} (ha : 0 ≤ a0 ∧ a0 < 4294967296) (h1 : 0 ≤ a1 ∧ a1 ≤ 4) (hl : a0 + a1 > b.length) : halterlaw12_board_Load.f a0 a1 a2 a3 b = some (0, some 14) := by
  have e0 : IntKind.wrap .i64 a0 = a0 := wi64 (by omega) (by omega)
  have e1 : IntKind.wrap .i64 (a0 + a1) = a0 + a1 := wi64 (by omega) (by omega)
  rw [halterlaw12_board_Load.f, if_neg (by omega), if_neg (by omega), e0, e1, if_pos (by omega)]
theorem load4 {a0 a2 a3 : Int} {b : List Int} (hb : byt b) (ha : 0 ≤ a0 ∧ a0 < 4294967296) (hl : a0 + 4 ≤ b.length) : halterlaw12_board_Load.f a0 4 a2 a3 b = some (rd4 b a0.toNat, none) := by
  have e0 : IntKind.wrap .i64 a0 = a0 := wi64 (by omega) (by omega)
  have e1 : IntKind.wrap .i64 (a0 + 4) = a0 + 4 := wi64 (by omega) (by omega)
  obtain ⟨m, hm⟩ := fuel6
  have g3 := byt_getD hb (a0.toNat + 3)
  have g2 := byt_getD hb (a0.toNat + 2)
  have g1 := byt_getD hb (a0.toNat + 1)
  rw [halterlaw12_board_Load.f, if_neg (by decide), if_neg (by decide), e0, e1, if_neg (by omega), wi64 (by decide) (by decide), hm]
  rw [show (4 : Int) - 1 = 3 by decide, ld_step hb ha (by omega) (by omega) (by omega), show Int.toNat 3 = 3 from rfl, show (3 : Int) - 1 = 2 by decide, ld_step hb ha (by omega) (by omega) (by omega), show Int.toNat 2 = 2 from rfl, show (2 : Int) - 1 = 1 by decide,
    ld_step hb ha (by omega) (by omega) (by omega), show Int.toNat 1 = 1 from rfl, show (1 : Int) - 1 = 0 by decide, ld_step hb ha (by omega) (by omega) (by omega), show Int.toNat 0 = 0 from rfl, show (0 : Int) - 1 = -1 by decide, ld_end, bind_go]
  rw [Nat.add_zero, show (256 : Int) * 0 + b.getD (a0.toNat + 3) 0 = b.getD (a0.toNat + 3) 0 by omega]
  rfl
theorem load1 {a0 a2 a3 : Int} {b : List Int} (hb : byt b) (ha : 0 ≤ a0 ∧ a0 < 4294967296) (hl : a0 + 1 ≤ b.length) : halterlaw12_board_Load.f a0 1 a2 a3 b = some (rd1 b a0.toNat, none) := by
  have e0 : IntKind.wrap .i64 a0 = a0 := wi64 (by omega) (by omega)
  have e1 : IntKind.wrap .i64 (a0 + 1) = a0 + 1 := wi64 (by omega) (by omega)
  obtain ⟨m, hm⟩ := fuel6
  rw [halterlaw12_board_Load.f, if_neg (by decide), if_neg (by decide), e0, e1, if_neg (by omega), wi64 (by decide) (by decide), hm]
  rw [show (1 : Int) - 1 = 0 by decide, ld_step hb ha (by omega) (by omega) (by omega), show Int.toNat 0 = 0 from rfl, show (0 : Int) - 1 = -1 by decide, ld_end, bind_go]
  rw [Nat.add_zero, show (256 : Int) * 0 + b.getD a0.toNat 0 = b.getD a0.toNat 0 by omega]
  rfl
theorem bs_step {a0 a1 a3 a4 : Int} {b x14 : List Int} (ha : 0 ≤ a0 ∧ a0 < 4294967296) {n : Nat} {v x : Int} (hv : 0 ≤ v ∧ v < 4294967296) (hx : 0 ≤ x ∧ x < a1) (h4 : a1 ≤ 4) (hl : a0 + x < b.length) (hlen : x14.length = b.length) :
    halterlaw12_board_Store.l0 a0 a1 a3 a4 b (n + 1) x14 v x = halterlaw12_board_Store.l0 a0 a1 a3 a4 b n (List.set x14 (a0.toNat + x.toNat) (v % 256)) (v / 256) (x + 1) := by
  have e0 : IntKind.wrap .i64 a0 = a0 := wi64 (by omega) (by omega)
  have e1 : IntKind.wrap .i64 (a0 + x) = a0 + x := wi64 (by omega) (by omega)
  have e2 : (a0 + x).toNat = a0.toNat + x.toNat := by omega
  rw [halterlaw12_board_Store.l0, if_pos hx.2, e0, e1, if_pos ⟨by omega, by omega⟩, if_pos (by omega), Nat.zero_add, e2, Int.tmod_eq_emod_of_nonneg hv.1, Int.tdiv_eq_ediv_of_nonneg hv.1, wi64 (by omega) (by omega), wu8, wu32]
  rw [show v % 256 % 256 = v % 256 by omega, show v / 256 % 4294967296 = v / 256 by omega]
theorem bs_end {a0 a1 a3 a4 : Int} {b x14 : List Int} {n : Nat} {v x : Int} (hx : ¬ x < a1) : halterlaw12_board_Store.l0 a0 a1 a3 a4 b (n + 1) x14 v x = some x14 := by
  rw [halterlaw12_board_Store.l0, if_neg hx]
def wr1 (b : List Int) (p : Nat) (v : Int) : List Int := b.set p (v % 256)
def wr4 (b : List Int) (p : Nat) (v : Int) : List Int := (((b.set p (v % 256)).set (p + 1) (v / 256 % 256)).set (p + 2) (v / 256 / 256 % 256)).set (p + 3) (v / 256 / 256 / 256 % 256)
theorem wr1_len (b : List Int) (p : Nat) (v : Int) : (wr1 b p v).length = b.length := by simp [wr1]
theorem wr4_len (b : List Int) (p : Nat) (v : Int) : (wr4 b p v).length = b.length := by simp [wr4]
theorem store_out {a0 a1 a2 a3 a4 : Int} {b : List Int} (ha : 0 ≤ a0 ∧ a0 < 4294967296) (h1 : 0 ≤ a1 ∧ a1 ≤ 4) (hl : a0 + a1 > b.length) : halterlaw12_board_Store.f a0 a1 a2 a3 a4 b = some (some 14, a4, b) := by
  have e0 : IntKind.wrap .i64 a0 = a0 := wi64 (by omega) (by omega)
  have e1 : IntKind.wrap .i64 (a0 + a1) = a0 + a1 := wi64 (by omega) (by omega)
  rw [halterlaw12_board_Store.f, if_neg (by omega), if_neg (by omega), e0, e1, if_pos (by omega)]
theorem bstore4 {a0 v a3 a4 : Int} {b : List Int} (ha : 0 ≤ a0 ∧ a0 < 4294967296) (hv : 0 ≤ v ∧ v < 4294967296) (hl : a0 + 4 ≤ b.length) : halterlaw12_board_Store.f a0 4 v a3 a4 b = some (none, IntKind.wrap .i64 (a4 + 1), wr4 b a0.toNat v) := by
  have e0 : IntKind.wrap .i64 a0 = a0 := wi64 (by omega) (by omega)
  have e1 : IntKind.wrap .i64 (a0 + 4) = a0 + 4 := wi64 (by omega) (by omega)
  obtain ⟨m, hm⟩ := fuel6
  rw [halterlaw12_board_Store.f, if_neg (by decide), if_neg (by decide), e0, e1, if_neg (by omega), hm]
  rw [bs_step ha hv (by omega) (by omega) (by omega) rfl, show (0 : Int) + 1 = 1 by decide, bs_step ha (by omega) (by omega) (by omega) (by omega) (by simp), show (1 : Int) + 1 = 2 by decide, bs_step ha (by omega) (by omega) (by omega) (by omega) (by simp), show (2 : Int) + 1 = 3 by decide, bs_step ha (by omega) (by omega) (by omega) (by omega) (by simp), show (3 : Int) + 1 = 4 by decide, bs_end (by decide), bind_go]
  rw [if_pos (by simp)]
  rfl
theorem bstore1 {a0 v a3 a4 : Int} {b : List Int} (ha : 0 ≤ a0 ∧ a0 < 4294967296) (hv : 0 ≤ v ∧ v < 4294967296) (hl : a0 + 1 ≤ b.length) : halterlaw12_board_Store.f a0 1 v a3 a4 b = some (none, IntKind.wrap .i64 (a4 + 1), wr1 b a0.toNat v) := by
  have e0 : IntKind.wrap .i64 a0 = a0 := wi64 (by omega) (by omega)
  have e1 : IntKind.wrap .i64 (a0 + 1) = a0 + 1 := wi64 (by omega) (by omega)
  obtain ⟨m, hm⟩ := fuel6
  rw [halterlaw12_board_Store.f, if_neg (by decide), if_neg (by decide), e0, e1, if_neg (by omega), hm]
  rw [bs_step ha hv (by omega) (by omega) (by omega) rfl, show (0 : Int) + 1 = 1 by decide, bs_end (by decide), bind_go]
  rw [if_pos (by simp)]
  rfl
theorem told_ok {p : Int} : cpu_told.f none p = some (.inl ()) := by rw [cpu_told.f, if_pos rfl]
theorem mload4 {p a6 a8 a4 a7 a9 a10 a11 a12 a13 a3 : Int} {A F b : List Int} (hb : byt b) (ha : 0 ≤ p ∧ p < 4294967296) (hl : p + 4 ≤ b.length) : cpu_machine_load.f p 4 A a3 a4 F a6 a7 a8 a9 a10 a11 a12 a13 b = some (.inl (rd4 b p.toNat)) := by
  rw [cpu_machine_load.f, load4 hb ha hl, bind_go]
  dsimp only
  rw [told_ok, bind_go]
theorem mstore4 {p v a8 a4 a5 a7 a9 a10 a11 a12 a13 a14 : Int} {A F b : List Int} (ha : 0 ≤ p ∧ p < 4294967296) (hv : 0 ≤ v ∧ v < 4294967296) (hl : p + 4 ≤ b.length) : cpu_machine_store.f p 4 v A a4 a5 F a7 a8 a9 a10 a11 a12 a13 a14 b = some (.inl (IntKind.wrap .i64 (a14 + 1), wr4 b p.toNat v)) := by
  rw [cpu_machine_store.f, bstore4 ha hv hl, bind_go]
  dsimp only
  rw [told_ok, bind_go]
theorem check_ok {A F : List Int} {pc fl : Int} (h : fl < 32) : regs_Check.f A pc fl F = some none := by rw [regs_Check.f, if_neg (by omega)]
theorem whole_ok {p : Int} (hp : 0 ≤ p) (h : p % 4 = 0) : cpu_whole.f p 4 = some (.inr ()) := by
  rw [cpu_whole.f, if_pos (by decide), if_neg (by rw [Int.tmod_eq_emod_of_nonneg hp]; omega)]
theorem fetch_ok {p fe st : Int} {b : List Int} (hb : byt b) (ha : 0 ≤ p ∧ p < 4294967296) (hl : p + 4 ≤ b.length) : halterlaw12_board_Fetch.f p fe st b = some (rd4 b p.toNat, none, IntKind.wrap .i64 (fe + 1)) := by
  rw [halterlaw12_board_Fetch.f, load4 hb ha hl, bind_go]
theorem step_do {A F b A' F' b' : List Int} {pc fl fe st op a bb im pc' fl' ev' st' : Int} (hfl : fl < 32) (hpc : 0 ≤ pc ∧ pc < 4294967296) (h4 : pc % 4 = 0) (hb : byt b) (hl : pc + 4 ≤ b.length) (hdec : isa_Decode.f (rd4 b pc.toNat) = some (op, a, bb, im, none))
    (hdo : cpu_machine_do.f A (IntKind.wrap .u32 (pc + 4)) fl F op a bb im pc 0 (IntKind.wrap .i64 (fe + 1)) st b = some (.inl (A', pc', fl', F', ev', st', b'))) :
    cpu_Step.f A pc fl F fe st b = some (A', pc', fl', F', (if ev' = 0 ∧ ¬ bits .and .u32 fl' 16 = 0 then 3 else ev'), 0, 0, IntKind.wrap .i64 (fe + 1), st', b') := by
  rw [cpu_Step.f, check_ok hfl, bind_go, if_neg (by simp), cpu_machine_run.f, whole_ok hpc.1 h4, bind_go]
  dsimp only
  rw [fetch_ok hb hpc hl, bind_go]
  dsimp only
  rw [told_ok, bind_go]
  dsimp only
  rw [hdec, bind_go]
  dsimp only
  rw [if_neg (by simp), hdo, bind_go]
  dsimp only
  by_cases h1 : ev' = 0
  · by_cases h2 : bits .and .u32 fl' 16 = 0
    · rw [if_pos h1, if_neg (by simpa using h2), bind_go, if_neg (by simp [h2])]
      rfl
    · rw [if_pos h1, if_pos (by simpa using h2), bind_go, if_pos ⟨h1, h2⟩]
      rfl
  · rw [if_neg h1, bind_go, if_neg (by simp [h1])]
    rfl
theorem step_pan {A F b b' : List Int} {pc fl fe st op a bb im sig at_ st' : Int} (hfl : fl < 32) (hpc : 0 ≤ pc ∧ pc < 4294967296) (h4 : pc % 4 = 0) (hb : byt b) (hl : pc + 4 ≤ b.length) (hdec : isa_Decode.f (rd4 b pc.toNat) = some (op, a, bb, im, none))
    (hdo : cpu_machine_do.f A (IntKind.wrap .u32 (pc + 4)) fl F op a bb im pc 0 (IntKind.wrap .i64 (fe + 1)) st b = some (.inr (sig, at_, st', b'))) :
    cpu_Step.f A pc fl F fe st b = some (A, pc, fl, F, 4, sig, at_, IntKind.wrap .i64 (fe + 1), st', b') := by
  rw [cpu_Step.f, check_ok hfl, bind_go, if_neg (by simp), cpu_machine_run.f, whole_ok hpc.1 h4, bind_go]
  dsimp only
  rw [fetch_ok hb hpc hl, bind_go]
  dsimp only
  rw [told_ok, bind_go]
  dsimp only
  rw [hdec, bind_go]
  dsimp only
  rw [if_neg (by simp), hdo, bind_go]
  rfl

theorem enc31 : ∀ k : Fin 4, halterref08_Encode.f 31 (k.1 : Int) 5 0 = some (520421376 + (k.1 : Int) * 1048576, 0) := by decide +kernel
theorem enc32 : ∀ k : Fin 4, halterref08_Encode.f 32 (k.1 : Int) 5 8 = some (537198600 + (k.1 : Int) * 1048576, 0) := by decide +kernel
theorem dec31 : ∀ k : Fin 4, isa_Decode.f (520421376 + (k.1 : Int) * 1048576) = some (31, (k.1 : Int), 5, 0, none) := by decide +kernel
theorem dec32 : ∀ k : Fin 4, isa_Decode.f (537198600 + (k.1 : Int) * 1048576) = some (32, (k.1 : Int), 5, 8, none) := by decide +kernel
theorem whole16 : cpu_whole.f 16 8 = some (.inr ()) := by kernel_rfl
theorem whole24 : cpu_whole.f 24 8 = some (.inr ()) := by kernel_rfl
theorem float_ok {k pc fl a5 a6 a7 a8 a9 a10 a11 a12 : Int} {A F b : List Int} (hk : 0 ≤ k ∧ k < 4) : cpu_machine_float.f k A pc fl F a5 a6 a7 a8 a9 a10 a11 a12 b = some (.inr k) := by rw [cpu_machine_float.f, if_neg (by omega)]
theorem move31 {A F b : List Int} {pc fl k here ev fe st : Int} (hA : A.getD 5 0 = 16) (hk : 0 ≤ k ∧ k < 4) (hb : byt b) (hl : 24 ≤ b.length) :
    cpu_machine_move.f A pc fl F 31 k 5 0 here ev fe st b = some (.inl (A, F.set k.toNat (bits .or .u64 (IntKind.wrap .u64 (rd4 b 16)) (shl .u64 (IntKind.wrap .u64 (rd4 b 20)) 32)), st, b)) := by
  have hat : cpu_machine_at.f A pc fl F 31 k 5 0 here ev fe st b = some 16 := by
    rw [cpu_machine_at.f, if_pos (by decide), if_pos (by decide), show Int.toNat 5 = 5 from rfl, hA]; rfl
  rw [cpu_machine_move.f, hat, bind_go, if_neg (by decide), if_neg (by decide), if_neg (by decide), if_neg (by decide), if_pos rfl, float_ok hk, bind_go]
  dsimp only
  rw [whole16, bind_go]
  dsimp only
  rw [mload4 hb (by decide) (by omega), bind_go]
  dsimp only
  rw [show IntKind.wrap .u32 (16 + 4) = 20 by decide, mload4 hb (by decide) (by omega), bind_go]
  dsimp only
  rw [if_pos (show 0 ≤ k ∧ k < ((4 : Nat) : Int) by omega), if_pos (show k.toNat < 4 by omega)]
  rfl
theorem move32 {A F b : List Int} {pc fl k here ev fe st : Int} (hA : A.getD 5 0 = 16) (hk : 0 ≤ k ∧ k < 4) (hl : 32 ≤ b.length) :
    cpu_machine_move.f A pc fl F 32 k 5 8 here ev fe st b = some (.inl (A, F, IntKind.wrap .i64 (IntKind.wrap .i64 (st + 1) + 1), wr4 (wr4 b 24 (IntKind.wrap .u32 (F.getD k.toNat 0))) 28 (IntKind.wrap .u32 (shr .u64 (F.getD k.toNat 0) 32)))) := by
  have hat : cpu_machine_at.f A pc fl F 32 k 5 8 here ev fe st b = some 24 := by
    rw [cpu_machine_at.f, if_pos (by decide), if_pos (by decide), show Int.toNat 5 = 5 from rfl, hA]; rfl
  have w : ∀ x : Int, 0 ≤ IntKind.wrap .u32 x ∧ IntKind.wrap .u32 x < 4294967296 := fun x => by rw [wu32]; omega
  rw [cpu_machine_move.f, hat, bind_go, if_neg (by decide), if_neg (by decide), if_neg (by decide), if_neg (by decide), if_neg (by decide), if_pos rfl, float_ok hk, bind_go]
  dsimp only
  rw [if_pos (show 0 ≤ k ∧ k < ((4 : Nat) : Int) by omega), if_pos (show k.toNat < 4 by omega), whole24, bind_go]
  dsimp only
  rw [mstore4 (by decide) (w _) (by omega), bind_go]
  dsimp only
  rw [show IntKind.wrap .u32 (24 + 4) = 28 by decide, mstore4 (by decide) (w _) (by rw [wr4_len]; omega), bind_go]
  rfl
theorem do31 {A F b : List Int} {pc fl k here ev fe st : Int} (hA : A.getD 5 0 = 16) (hk : 0 ≤ k ∧ k < 4) (hb : byt b) (hl : 24 ≤ b.length) :
    cpu_machine_do.f A pc fl F 31 k 5 0 here ev fe st b = some (.inl (A, pc, fl, F.set k.toNat (bits .or .u64 (IntKind.wrap .u64 (rd4 b 16)) (shl .u64 (IntKind.wrap .u64 (rd4 b 20)) 32)), ev, st, b)) := by
  rw [cpu_machine_do.f]
  repeat (first | rw [if_neg (by decide)] | rw [if_pos (by decide)])
  rw [move31 hA hk hb hl]
  rfl
theorem do32 {A F b : List Int} {pc fl k here ev fe st : Int} (hA : A.getD 5 0 = 16) (hk : 0 ≤ k ∧ k < 4) (hl : 32 ≤ b.length) :
    cpu_machine_do.f A pc fl F 32 k 5 8 here ev fe st b = some (.inl (A, pc, fl, F, ev, IntKind.wrap .i64 (IntKind.wrap .i64 (st + 1) + 1), wr4 (wr4 b 24 (IntKind.wrap .u32 (F.getD k.toNat 0))) 28 (IntKind.wrap .u32 (shr .u64 (F.getD k.toNat 0) 32)))) := by
  rw [cpu_machine_do.f]
  repeat (first | rw [if_neg (by decide)] | rw [if_pos (by decide)])
  rw [move32 hA hk hl]
  rfl
theorem rd_wb {v : Int} (hv : 0 ≤ v ∧ v < 4294967296) : 256 * (256 * (256 * (v / 256 / 256 / 256 % 256) + v / 256 / 256 % 256) + v / 256 % 256) + v % 256 = v := by omega
theorem and16 : ∀ x : Fin 16, bits .and .u32 (x.1 : Int) 16 = 0 := by decide +kernel
theorem and16' {x : Int} (h : 0 ≤ x ∧ x < 16) : bits .and .u32 x 16 = 0 := by
  have := and16 ⟨x.toNat, by omega⟩
  rwa [show ((x.toNat : Nat) : Int) = x by omega] at this
theorem shr32 {a : Int} (h : 0 ≤ a ∧ a < 18446744073709551616) : shr .u64 a 32 = a / 4294967296 := by
  obtain ⟨A, rfl⟩ := Int.eq_ofNat_of_zero_le h.1
  have : shr .u64 (A : Int) 32 = ((A / 4294967296 : Nat) : Int) := by simp [shr, IntKind.bits]
  rw [this]; omega
theorem shl32 {a : Int} (h : 0 ≤ a ∧ a < 4294967296) : shl .u64 a 32 = a * 4294967296 := by
  obtain ⟨A, rfl⟩ := Int.eq_ofNat_of_zero_le h.1
  have : shl .u64 (A : Int) 32 = ((A : Int) * 4294967296) % 18446744073709551616 := by simp [shl, IntKind.bits, IntKind.wrap, IntKind.signed]
  rw [this]; omega
theorem orlh {lo hi : Int} (h1 : 0 ≤ lo ∧ lo < 4294967296) (h2 : 0 ≤ hi ∧ hi < 4294967296) : bits .or .u64 lo (hi * 4294967296) = hi * 4294967296 + lo := by
  rw [Go.u64_or _ _ h1.1 (by omega) (by omega) (by omega)]
  obtain ⟨L, rfl⟩ := Int.eq_ofNat_of_zero_le h1.1
  obtain ⟨H, rfl⟩ := Int.eq_ofNat_of_zero_le h2.1
  have e : ((H : Int) * 4294967296).toNat = 2 ^ 32 * H := by omega
  rw [e, toNat_nat, Nat.or_comm, ← Nat.two_pow_add_eq_or_of_lt (by omega) H]
  omega
theorem k4 (a5 : Int) : ∃ k : Fin 4, IntKind.wrap .i64 (Int.tmod (IntKind.wrap .u64 a5) 4) = (k.1 : Int) := by
  rw [wu64, Int.tmod_eq_emod_of_nonneg (by omega), wi64 (by omega) (by omega)]
  exact ⟨⟨(a5 % 18446744073709551616 % 4).toNat, by omega⟩, by show _ = (((a5 % 18446744073709551616 % 4).toNat : Nat) : Int); omega⟩
theorem cf_len (w0 w1 w4 w5 w6 w7 : Int) : ([w0, w1, 0, 0, w4, w5, w6, w7].flatMap wb).length = 32 := rfl
theorem cf_byt (l : List Int) : byt (l.flatMap wb) := by
  intro z hz
  rw [List.mem_flatMap] at hz
  obtain ⟨v, _, hz⟩ := hz
  simp only [wb, List.mem_cons, List.not_mem_nil, or_false] at hz
  rcases hz with rfl | rfl | rfl | rfl <;> omega
theorem set5 {a1 : List Int} (h : a1.length = 16) : (a1.set 5 16).getD 5 0 = 16 := by
  rw [List.getD_eq_getElem?_getD, List.getElem?_set_self (by omega)]; rfl
theorem CpuFloats_ (a0 : Int) (a1 : (List Int)) (a2 : Int) (a3 : Int) (a4 : (List Int)) (a5 : Int) (h0 : 0 ≤ a0 ∧ a0 < 18446744073709551616) (h1 : List.length a1 = 16) (h4 : 0 ≤ a3 ∧ a3 < 4294967296) (h5 : List.length a4 = 4) : halterlaw12_CpuFloats.f a0 a1 a2 a3 a4 a5 = some true := by
  obtain ⟨k, hk⟩ := k4 a5
  have kk : 0 ≤ (k.1 : Int) ∧ (k.1 : Int) < 4 := by have := k.2; omega
  have efl : Int.tmod a3 16 = a3 % 16 := Int.tmod_eq_emod_of_nonneg h4.1
  have elo : IntKind.wrap .u32 (Int.tmod a0 4294967296) = a0 % 4294967296 := by rw [wu32, Int.tmod_eq_emod_of_nonneg h0.1]; omega
  have ehi : IntKind.wrap .u32 (shr .u64 a0 32) = a0 / 4294967296 := by rw [wu32, shr32 h0]; omega
  have hlo : 0 ≤ a0 % 4294967296 ∧ a0 % 4294967296 < 4294967296 := by omega
  have hhi : 0 ≤ a0 / 4294967296 ∧ a0 / 4294967296 < 4294967296 := by omega
  have hw31 : 0 ≤ (520421376 + (k.1 : Int) * 1048576) ∧ (520421376 + (k.1 : Int) * 1048576) < 4294967296 := by omega
  have hw32 : 0 ≤ (537198600 + (k.1 : Int) * 1048576) ∧ (537198600 + (k.1 : Int) * 1048576) < 4294967296 := by omega
  have d31 := dec31 k
  have d32 := dec32 k
  have e31 := enc31 k
  have e32 := enc32 k
  have kN : (k.1 : Int).toNat = k.1 := rfl
  rw [halterlaw12_CpuFloats.f, hk, efl, elo, ehi, e31, bind_go, e32, bind_go]
  dsimp only
  clear e31 e32 hk efl elo ehi
  have hW : ∀ z ∈ [520421376 + (k.1 : Int) * 1048576, 537198600 + (k.1 : Int) * 1048576, (0 : Int), 0, a0 % 4294967296, a0 / 4294967296, 7, 9], 0 ≤ z ∧ z < 4294967296 := by
    intro z hz
    simp only [List.mem_cons, List.not_mem_nil, or_false] at hz
    rcases hz with rfl | rfl | rfl | rfl | rfl | rfl | rfl | rfl <;> omega
  rw [laid_eq hW, bind_go]
  dsimp only
  rw [show List.take 64 [520421376 + (k.1 : Int) * 1048576, 537198600 + (k.1 : Int) * 1048576, (0 : Int), 0, a0 % 4294967296, a0 / 4294967296, 7, 9] = [520421376 + (k.1 : Int) * 1048576, 537198600 + (k.1 : Int) * 1048576, (0 : Int), 0, a0 % 4294967296, a0 / 4294967296, 7, 9] from rfl]
  generalize hB : [520421376 + (k.1 : Int) * 1048576, 537198600 + (k.1 : Int) * 1048576, (0 : Int), 0, a0 % 4294967296, a0 / 4294967296, 7, 9].flatMap wb = B
  have hb : byt B := by rw [← hB]; exact cf_byt _
  have hl : B.length = 32 := by rw [← hB]; rfl
  have r0 : rd4 B 0 = 520421376 + (k.1 : Int) * 1048576 := by rw [← hB]; exact rd_wb hw31
  have r4 : rd4 B 4 = 537198600 + (k.1 : Int) * 1048576 := by rw [← hB]; exact rd_wb hw32
  have r16 : rd4 B 16 = a0 % 4294967296 := by rw [← hB]; exact rd_wb hlo
  have r20 : rd4 B 20 = a0 / 4294967296 := by rw [← hB]; exact rd_wb hhi
  have hV : bits .or .u64 (IntKind.wrap .u64 (rd4 B 16)) (shl .u64 (IntKind.wrap .u64 (rd4 B 20)) 32) = a0 := by
    rw [r16, r20, wu64_id (by omega), wu64_id (by omega), shl32 hhi, orlh hlo hhi]; omega
  have s1 := step_do (A := a1.set 5 16) (F := a4) (pc := 0) (fl := a3 % 16) (fe := 0) (st := 0) (b := B) (by omega) (by decide) (by decide) hb (by omega) (by rw [show (0 : Int).toNat = 0 from rfl, r0]; exact d31) (do31 (set5 h1) kk hb (by omega))
  rw [hV, if_neg (fun h => h.2 (and16' (by omega))), show IntKind.wrap .u32 ((0 : Int) + 4) = 4 by decide, show IntKind.wrap .i64 ((0 : Int) + 1) = 1 by decide] at s1
  have s2 := step_do (A := a1.set 5 16) (F := a4.set (k.1 : Int).toNat a0) (pc := 4) (fl := a3 % 16) (fe := 1) (st := 0) (b := B) (by omega) (by decide) (by decide) hb (by omega) (by rw [show (4 : Int).toNat = 4 from rfl, r4]; exact d32) (do32 (set5 h1) kk (by omega))
  rw [if_neg (fun h => h.2 (and16' (by omega))), show IntKind.wrap .u32 ((4 : Int) + 4) = 8 by decide, show IntKind.wrap .i64 ((1 : Int) + 1) = 2 by decide, show IntKind.wrap .i64 (IntKind.wrap .i64 ((0 : Int) + 1) + 1) = 2 by decide] at s2
  have hF : (a4.set (k.1 : Int).toNat a0).getD (k.1 : Int).toNat 0 = a0 := by
    rw [kN, List.getD_eq_getElem?_getD, List.getElem?_set_self (by have := k.2; omega)]; rfl
  rw [hF, wu32, shr32 h0, wu32_id hhi] at s2
  rw [s1, bind_go]
  dsimp only
  rw [s2, bind_go]
  dsimp only
  generalize hB2 : wr4 (wr4 B 24 (a0 % 4294967296)) 28 (a0 / 4294967296) = B2
  have hl2 : B2.length = 32 := by rw [← hB2, wr4_len, wr4_len, hl]
  have hs : List.take (B2.length - 24) (List.drop 24 B2) = List.take 8 (List.drop 16 B2) := by
    rw [hl2, ← hB2, ← hB]; rfl
  rw [if_pos (show 0 ≤ (k.1 : Int) ∧ (k.1 : Int) < ((4 : Nat) : Int) by omega), if_pos (show (k.1 : Int).toNat < 4 by omega), if_pos rfl, if_pos rfl, if_pos ⟨rfl, rfl, rfl, rfl⟩, if_pos rfl, if_pos (by rw [hl2]; rfl), if_pos (by rw [hl2]; exact ⟨trivial, by decide, by decide⟩), if_pos (by rw [hl2]; decide), if_pos (by rw [hl2]; exact ⟨⟨by decide, by decide⟩, by decide, by decide⟩), if_pos (by rw [hl2]; decide), if_pos (by rw [hs]), sure_true]
  rfl
theorem CpuFloats (a0 : Int) (a1 : (List Int)) (a2 : Int) (a3 : Int) (a4 : (List Int)) (a5 : Int) (h0 : (Lit.int .u64 a0).wf = true) (h1 : List.length a1 = 16) (h2 : ∀ z ∈ a1, (Lit.int .u32 z).wf = true) (h3 : (Lit.int .u32 a2).wf = true) (h4 : (Lit.int .u32 a3).wf = true) (h5 : List.length a4 = 4) (h6 : ∀ z ∈ a4, (Lit.int .u64 z).wf = true) (h7 : (Lit.int .i64 a5).wf = true) : halterlaw12_CpuFloats.f a0 a1 a2 a3 a4 a5 = some true :=
  CpuFloats_ a0 a1 a2 a3 a4 a5 (u64_bd h0) h1 (u32_bd h4) h5

end Go.Proofs.Ytllannmegnklmaa.Pure
