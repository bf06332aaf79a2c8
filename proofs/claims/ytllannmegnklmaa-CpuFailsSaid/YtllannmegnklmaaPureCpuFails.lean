/- The plain law: what the law computes is true, whatever it is handed. -/
import Derived.Test.YtllannmegnklmaaGCpuFails
import Derived.Test.YtllannmegnklmaaE16
import Derived.Laws.BitsLemmas
import Derived.Laws.BitsAllLaws
set_option linter.unusedVariables false
set_option linter.unusedSimpArgs false
set_option linter.unnecessarySimpa false
namespace Go.Proofs.Ytllannmegnklmaa.Pure
open Go Go.Proofs.YtllannmegnklmaaE Go.Proofs.YtllannmegnklmaaGCpuFails
theorem wu8 (x : Int) : IntKind.wrap .u8 x = x % 256 := by simp [IntKind.wrap, IntKind.bits, IntKind.signed]
theorem wu32 (x : Int) : IntKind.wrap .u32 x = x % 4294967296 := by simp [IntKind.wrap, IntKind.bits, IntKind.signed]
theorem wu64 (x : Int) : IntKind.wrap .u64 x = x % 18446744073709551616 := by simp [IntKind.wrap, IntKind.bits, IntKind.signed]
theorem wi64 {x : Int} (h : -9223372036854775808 ≤ x) (h' : x ≤ 9223372036854775807) : IntKind.wrap .i64 x = x := by
  simp [IntKind.wrap, IntKind.bits, IntKind.signed]
  omega
theorem wu32_id {x : Int} (h : 0 ≤ x ∧ x < 4294967296) : IntKind.wrap .u32 x = x := by rw [wu32]; omega
theorem wu64_id {x : Int} (h : 0 ≤ x ∧ x < 18446744073709551616) : IntKind.wrap .u64 x = x := by rw [wu64]; omega
theorem wsucc {i : Nat} (h : i < 9223372036854775807) : IntKind.wrap .i64 ((i : Int) + 1) = ((i + 1 : Nat) : Int) := by rw [wi64 (by omega) (by omega)]; omega
theorem u32_bd {a : Int} (h : (Lit.int .u32 a).wf = true) : 0 ≤ a ∧ a < 4294967296 := by
  simpa [Lit.wf, IntKind.min, IntKind.max, IntKind.signed, IntKind.bits, ← Int.lt_add_one_iff] using h
theorem u64_bd {a : Int} (h : (Lit.int .u64 a).wf = true) : 0 ≤ a ∧ a < 18446744073709551616 := by
  simpa [Lit.wf, IntKind.min, IntKind.max, IntKind.signed, IntKind.bits, ← Int.lt_add_one_iff] using h
theorem fg {n : Nat} (h : n < 18446744073709551616) : n < FUEL := h
theorem bg {α β : Type} (a : α) (f : α → Option β) : (some a).bind f = f a := by rw [Option.bind_some]
theorem dg {α : Type} (l : List α) (i : Nat) (d : α) (h : i < l.length) : l.drop i = l.getD i d :: l.drop (i + 1) := by
  rw [List.drop_eq_getElem_cons h, List.getD_eq_getElem?_getD, List.getElem?_eq_getElem h, Option.getD_some]
theorem getD_mem {α : Type} (l : List α) (i : Nat) (d : α) (h : i < l.length) : l.getD i d ∈ l := by
  rw [List.getD_eq_getElem?_getD, List.getElem?_eq_getElem h, Option.getD_some]; exact List.getElem_mem _
theorem tn (i : Nat) : Int.toNat (i : Int) = i := rfl
theorem fz {d n : Nat} (h : d < n) : ∃ m, n = m + 1 := ⟨n - 1, by omega⟩
def first (v : Int) : List Int → Option Nat
  | [] => none
  | x :: xs => if x = v then some 0 else (first v xs).map (· + 1)
theorem sure_true : halterlaw12_sure.f = some true := by kernel_rfl
def wb (v : Int) : List Int := [v % 256, v / 256 % 256, v / 256 / 256 % 256, v / 256 / 256 / 256 % 256]
theorem fuel6 : ∃ m, FUEL = m + 6 := ⟨18446744073709551610, rfl⟩
theorem st_step {a1 : Int} (h1 : a1 = 4) {n : Nat} {l : List Int} {v i : Int} (hv : 0 ≤ v ∧ v < 4294967296) (hi : 0 ≤ i ∧ i < 4) :
    halterref01_Store.l0 a1 (n + 1) l v i = halterref01_Store.l0 a1 n (List.set l i.toNat (v % 256)) (v / 256) (i + 1) := by
  subst h1; rw [halterref01_Store.l0]; rw [if_pos (show i < 4 by omega), if_pos (show 0 ≤ i ∧ i < ((Int.toNat 4 : Nat) : Int) from ⟨hi.1, by show i < ((4 : Nat) : Int); omega⟩), if_pos (show 0 + i.toNat < Int.toNat 4 by show 0 + i.toNat < 4; omega)]
  rw [Nat.zero_add, Int.tmod_eq_emod_of_nonneg hv.1, Int.tdiv_eq_ediv_of_nonneg hv.1, wi64 (by omega) (by omega), wi64 (by omega) (by omega), wu8]; rw [show v % 256 % 256 = v % 256 by omega]
theorem store4 {v : Int} (hv : 0 ≤ v ∧ v < 4294967296) : halterref01_Store.f v 4 = some (wb v, 0) := by
  obtain ⟨m, hm⟩ := fuel6
  rw [halterref01_Store.f]; rw [if_pos (show ¬ ((4 : Int) = 1) by decide), if_pos (show ¬ ((4 : Int) = 2) by decide), if_neg (show ¬ ¬ ((4 : Int) = 4) by decide), if_pos (by decide)]
  have w : IntKind.wrap .i64 v = v := wi64 (by omega) (by omega)
  rw [w, hm, st_step rfl hv (by decide), st_step rfl (by omega) (by decide), st_step rfl (by omega) (by decide), st_step rfl (by omega) (by decide)]; rw [halterref01_Store.l0, if_neg (by decide), bg, if_pos ⟨by decide, trivial⟩]; rfl
theorem wb_len (v : Int) : (wb v).length = 4 := rfl
theorem take_drop64 (l : List Int) (i : Nat) (h1 : i < l.length) (h2 : i < 64) : (l.take 64).drop i = l.getD i 0 :: (l.take 64).drop (i + 1) := by
  rw [dg (l.take 64) i 0 (by rw [List.length_take]; omega)]
  congr 1
  rw [List.getD_eq_getElem?_getD, List.getD_eq_getElem?_getD, List.getElem?_take_of_lt h2]
theorem laid_l0 {a0 : List Int} (hw : ∀ z ∈ a0, 0 ≤ z ∧ z < 4294967296) : ∀ (d i n : Nat) (x : List Int), min a0.length 64 - i = d → i ≤ min a0.length 64 → d < n → x.length = 4 * i →
    halterlaw12_laid.l0 a0 n x (i : Int) = some (x ++ ((a0.take 64).drop i).flatMap wb) := by
  intro d
  induction d with
  | zero =>
    intro i n x hd hi hn hx
    obtain ⟨m, rfl⟩ := fz hn
    have hnil : (a0.take 64).drop i = [] := List.drop_eq_nil_of_le (by rw [List.length_take]; omega)
    rw [halterlaw12_laid.l0, hnil]
    by_cases h : (i : Int) < ((a0.length : Nat) : Int)
    · rw [if_pos h, if_neg (show ¬ (i : Int) < 64 by omega)]; simp
    · rw [if_neg h]; simp
  | succ d ih =>
    intro i n x hd hi hn hx
    obtain ⟨m, rfl⟩ := fz hn
    have h1 : i < a0.length := by omega
    have h2 : i < 64 := by omega
    have hb := hw _ (getD_mem a0 i 0 h1)
    rw [halterlaw12_laid.l0, if_pos (show (i : Int) < ((a0.length : Nat) : Int) by omega), if_pos (show (i : Int) < 64 by omega), if_pos (show 0 ≤ (i : Int) ∧ (i : Int) < ((a0.length : Nat) : Int) by omega)]; rw [tn, store4 hb, bg]; dsimp only; rw [if_pos (show _ from ⟨trivial, rfl, rfl, by rw [hx, wb_len]; omega, by rw [hx, wb_len]; omega⟩), wsucc (by omega), ih (i + 1) m _ (by omega) (by omega) (by omega) (by rw [List.length_append, hx, wb_len]; omega)]
    rw [take_drop64 a0 i h1 h2, List.flatMap_cons, List.append_assoc]
theorem laid_eq {a0 : List Int} (hw : ∀ z ∈ a0, 0 ≤ z ∧ z < 4294967296) : halterlaw12_laid.f a0 = some (0, 0, (a0.take 64).flatMap wb) := by
  rw [halterlaw12_laid.f, show (0 : Int) = ((0 : Nat) : Int) from rfl, laid_l0 hw _ 0 FUEL [] rfl (by omega) (fg (by omega)) rfl, bg]
  rfl
def byt (b : List Int) : Prop := ∀ z ∈ b, 0 ≤ z ∧ z < 256
theorem byt_getD {b : List Int} (hb : byt b) (i : Nat) : 0 ≤ b.getD i 0 ∧ b.getD i 0 < 256 := by
  by_cases h : i < b.length
  · exact hb _ (getD_mem b i 0 h)
  · rw [List.getD_eq_getElem?_getD, List.getElem?_eq_none (by omega)]; simp
theorem ld_step {a0 a2 a3 : Int} {b : List Int} (hb : byt b) (ha : 0 ≤ a0 ∧ a0 < 4294967296) {n : Nat} {v x : Int} (hv : 0 ≤ v ∧ v < 16777216) (hx : 0 ≤ x ∧ x < 4) (hl : a0 + x < b.length) :
    halterlaw12_board_Load.l0 a0 a2 a3 b (n + 1) v x = halterlaw12_board_Load.l0 a0 a2 a3 b n (256 * v + b.getD (a0.toNat + x.toNat) 0) (x - 1) := by
  have e0 : IntKind.wrap .i64 a0 = a0 := wi64 (by omega) (by omega)
  have e1 : IntKind.wrap .i64 (a0 + x) = a0 + x := wi64 (by omega) (by omega)
  have e2 : (a0 + x).toNat = a0.toNat + x.toNat := by omega
  have e3 := byt_getD hb (a0.toNat + x.toNat)
  rw [halterlaw12_board_Load.l0, if_pos (show x ≥ 0 from hx.1), e0, e1, if_pos ⟨by omega, by omega⟩, if_pos (by omega), Nat.zero_add, e2]
  generalize b.getD (a0.toNat + x.toNat) 0 = y at e3
  rw [wi64 (by omega) (by omega), wu32, wu32, wu32, show ((256 * v) % 4294967296 + y % 4294967296) % 4294967296 = 256 * v + y by omega]
theorem ld_end {a0 a2 a3 : Int} {b : List Int} {n : Nat} {v : Int} : halterlaw12_board_Load.l0 a0 a2 a3 b (n + 1) v (-1) = some v := by
  rw [halterlaw12_board_Load.l0, if_neg (by decide)]
def rd1 (b : List Int) (p : Nat) : Int := b.getD p 0
def rd4 (b : List Int) (p : Nat) : Int := 256 * (256 * (256 * b.getD (p + 3) 0 + b.getD (p + 2) 0) + b.getD (p + 1) 0) + b.getD p 0
theorem load_out {a0 a1 a2 a3 : Int} {b : List Int} (ha : 0 ≤ a0 ∧ a0 < 4294967296) (h1 : 0 ≤ a1 ∧ a1 ≤ 4) (hl : a0 + a1 > b.length) : halterlaw12_board_Load.f a0 a1 a2 a3 b = some (0, some 14) := by
  have e0 : IntKind.wrap .i64 a0 = a0 := wi64 (by omega) (by omega)
  have e1 : IntKind.wrap .i64 (a0 + a1) = a0 + a1 := wi64 (by omega) (by omega)
  rw [halterlaw12_board_Load.f, if_neg (by omega), if_neg (by omega), e0, e1, if_pos (by omega)]
theorem load4 {a0 a2 a3 : Int} {b : List Int} (hb : byt b) (ha : 0 ≤ a0 ∧ a0 < 4294967296) (hl : a0 + 4 ≤ b.length) : halterlaw12_board_Load.f a0 4 a2 a3 b = some (rd4 b a0.toNat, none) := by
  have e0 : IntKind.wrap .i64 a0 = a0 := wi64 (by omega) (by omega)
  have e1 : IntKind.wrap .i64 (a0 + 4) = a0 + 4 := wi64 (by omega) (by omega)
  obtain ⟨m, hm⟩ := fuel6
  have g3 := byt_getD hb (a0.toNat + 3)
  have g2 := byt_getD hb (a0.toNat + 2)
  have g1 := byt_getD hb (a0.toNat + 1)
  rw [halterlaw12_board_Load.f, if_neg (by decide), if_neg (by decide), e0, e1, if_neg (by omega), wi64 (by decide) (by decide), hm]; rw [show (4 : Int) - 1 = 3 by decide, ld_step hb ha (by omega) (by omega) (by omega), show Int.toNat 3 = 3 from rfl, show (3 : Int) - 1 = 2 by decide, ld_step hb ha (by omega) (by omega) (by omega), show Int.toNat 2 = 2 from rfl, show (2 : Int) - 1 = 1 by decide,
    ld_step hb ha (by omega) (by omega) (by omega), show Int.toNat 1 = 1 from rfl, show (1 : Int) - 1 = 0 by decide, ld_step hb ha (by omega) (by omega) (by omega), show Int.toNat 0 = 0 from rfl, show (0 : Int) - 1 = -1 by decide, ld_end, bg]
  rw [Nat.add_zero, show (256 : Int) * 0 + b.getD (a0.toNat + 3) 0 = b.getD (a0.toNat + 3) 0 by omega]
  rfl
theorem load1 {a0 a2 a3 : Int} {b : List Int} (hb : byt b) (ha : 0 ≤ a0 ∧ a0 < 4294967296) (hl : a0 + 1 ≤ b.length) : halterlaw12_board_Load.f a0 1 a2 a3 b = some (rd1 b a0.toNat, none) := by
  have e0 : IntKind.wrap .i64 a0 = a0 := wi64 (by omega) (by omega)
  have e1 : IntKind.wrap .i64 (a0 + 1) = a0 + 1 := wi64 (by omega) (by omega)
  obtain ⟨m, hm⟩ := fuel6
  rw [halterlaw12_board_Load.f, if_neg (by decide), if_neg (by decide), e0, e1, if_neg (by omega), wi64 (by decide) (by decide), hm]; rw [show (1 : Int) - 1 = 0 by decide, ld_step hb ha (by omega) (by omega) (by omega), show Int.toNat 0 = 0 from rfl, show (0 : Int) - 1 = -1 by decide, ld_end, bg]
  rw [Nat.add_zero, show (256 : Int) * 0 + b.getD a0.toNat 0 = b.getD a0.toNat 0 by omega]
  rfl
theorem bs_step {a0 a1 a3 a4 : Int} {b x14 : List Int} (ha : 0 ≤ a0 ∧ a0 < 4294967296) {n : Nat} {v x : Int} (hv : 0 ≤ v ∧ v < 4294967296) (hx : 0 ≤ x ∧ x < a1) (h4 : a1 ≤ 4) (hl : a0 + x < b.length) (hlen : x14.length = b.length) :
    halterlaw12_board_Store.l0 a0 a1 a3 a4 b (n + 1) x14 v x = halterlaw12_board_Store.l0 a0 a1 a3 a4 b n (List.set x14 (a0.toNat + x.toNat) (v % 256)) (v / 256) (x + 1) := by
  have e0 : IntKind.wrap .i64 a0 = a0 := wi64 (by omega) (by omega)
  have e1 : IntKind.wrap .i64 (a0 + x) = a0 + x := wi64 (by omega) (by omega)
  have e2 : (a0 + x).toNat = a0.toNat + x.toNat := by omega
  rw [halterlaw12_board_Store.l0, if_pos hx.2, e0, e1, if_pos ⟨by omega, by omega⟩, if_pos (by omega), Nat.zero_add, e2, Int.tmod_eq_emod_of_nonneg hv.1, Int.tdiv_eq_ediv_of_nonneg hv.1, wi64 (by omega) (by omega), wu8, wu32]; rw [show v % 256 % 256 = v % 256 by omega, show v / 256 % 4294967296 = v / 256 by omega]
theorem bs_end {a0 a1 a3 a4 : Int} {b x14 : List Int} {n : Nat} {v x : Int} (hx : ¬ x < a1) : halterlaw12_board_Store.l0 a0 a1 a3 a4 b (n + 1) x14 v x = some x14 := by
  rw [halterlaw12_board_Store.l0, if_neg hx]
def wr1 (b : List Int) (p : Nat) (v : Int) : List Int := b.set p (v % 256)
def wr4 (b : List Int) (p : Nat) (v : Int) : List Int := (((b.set p (v % 256)).set (p + 1) (v / 256 % 256)).set (p + 2) (v / 256 / 256 % 256)).set (p + 3) (v / 256 / 256 / 256 % 256)
theorem wr4_len (b : List Int) (p : Nat) (v : Int) : (wr4 b p v).length = b.length := by simp [wr4]
theorem store_out {a0 a1 a2 a3 a4 : Int} {b : List Int} (ha : 0 ≤ a0 ∧ a0 < 4294967296) (h1 : 0 ≤ a1 ∧ a1 ≤ 4) (hl : a0 + a1 > b.length) : halterlaw12_board_Store.f a0 a1 a2 a3 a4 b = some (some 14, a4, b) := by
  have e0 : IntKind.wrap .i64 a0 = a0 := wi64 (by omega) (by omega)
  have e1 : IntKind.wrap .i64 (a0 + a1) = a0 + a1 := wi64 (by omega) (by omega)
  rw [halterlaw12_board_Store.f, if_neg (by omega), if_neg (by omega), e0, e1, if_pos (by omega)]
theorem bstore4 {a0 v a3 a4 : Int} {b : List Int} (ha : 0 ≤ a0 ∧ a0 < 4294967296) (hv : 0 ≤ v ∧ v < 4294967296) (hl : a0 + 4 ≤ b.length) : halterlaw12_board_Store.f a0 4 v a3 a4 b = some (none, IntKind.wrap .i64 (a4 + 1), wr4 b a0.toNat v) := by
  have e0 : IntKind.wrap .i64 a0 = a0 := wi64 (by omega) (by omega)
  have e1 : IntKind.wrap .i64 (a0 + 4) = a0 + 4 := wi64 (by omega) (by omega)
  obtain ⟨m, hm⟩ := fuel6
  rw [halterlaw12_board_Store.f, if_neg (by decide), if_neg (by decide), e0, e1, if_neg (by omega), hm]; rw [bs_step ha hv (by omega) (by omega) (by omega) rfl, show (0 : Int) + 1 = 1 by decide, bs_step ha (by omega) (by omega) (by omega) (by omega) (by simp), show (1 : Int) + 1 = 2 by decide, bs_step ha (by omega) (by omega) (by omega) (by omega) (by simp), show (2 : Int) + 1 = 3 by decide, bs_step ha (by omega) (by omega) (by omega) (by omega) (by simp), show (3 : Int) + 1 = 4 by decide, bs_end (by decide), bg]
  rw [if_pos (by simp)]; rfl
theorem bstore1 {a0 v a3 a4 : Int} {b : List Int} (ha : 0 ≤ a0 ∧ a0 < 4294967296) (hv : 0 ≤ v ∧ v < 4294967296) (hl : a0 + 1 ≤ b.length) : halterlaw12_board_Store.f a0 1 v a3 a4 b = some (none, IntKind.wrap .i64 (a4 + 1), wr1 b a0.toNat v) := by
  have e0 : IntKind.wrap .i64 a0 = a0 := wi64 (by omega) (by omega)
  have e1 : IntKind.wrap .i64 (a0 + 1) = a0 + 1 := wi64 (by omega) (by omega)
  obtain ⟨m, hm⟩ := fuel6
  rw [halterlaw12_board_Store.f, if_neg (by decide), if_neg (by decide), e0, e1, if_neg (by omega), hm]; rw [bs_step ha hv (by omega) (by omega) (by omega) rfl, show (0 : Int) + 1 = 1 by decide, bs_end (by decide), bg]
  rw [if_pos (by simp)]; rfl
theorem told_ok {p : Int} : cpu_told.f none p = some (.inl ()) := by rw [cpu_told.f, if_pos rfl]
theorem mload4 {p a6 a8 a4 a7 a9 a10 a11 a12 a13 a3 : Int} {A F b : List Int} (hb : byt b) (ha : 0 ≤ p ∧ p < 4294967296) (hl : p + 4 ≤ b.length) : cm_load.f p 4 A a3 a4 F a6 a7 a8 a9 a10 a11 a12 a13 b = some (.inl (rd4 b p.toNat)) := by
  rw [cm_load.f, load4 hb ha hl, bg]; dsimp only; rw [told_ok, bg]
theorem mstore4 {p v a8 a4 a5 a7 a9 a10 a11 a12 a13 a14 : Int} {A F b : List Int} (ha : 0 ≤ p ∧ p < 4294967296) (hv : 0 ≤ v ∧ v < 4294967296) (hl : p + 4 ≤ b.length) : cm_store.f p 4 v A a4 a5 F a7 a8 a9 a10 a11 a12 a13 a14 b = some (.inl (IntKind.wrap .i64 (a14 + 1), wr4 b p.toNat v)) := by
  rw [cm_store.f, bstore4 ha hv hl, bg]; dsimp only; rw [told_ok, bg]
theorem check_ok {A F : List Int} {pc fl : Int} (h : fl < 32) : regs_Check.f A pc fl F = some none := by rw [regs_Check.f, if_neg (by omega)]
theorem whole_ok {p : Int} (hp : 0 ≤ p) (h : p % 4 = 0) : cpu_whole.f p 4 = some (.inr ()) := by
  rw [cpu_whole.f, if_pos (by decide), if_neg (by rw [Int.tmod_eq_emod_of_nonneg hp]; omega)]
theorem fetch_ok {p fe st : Int} {b : List Int} (hb : byt b) (ha : 0 ≤ p ∧ p < 4294967296) (hl : p + 4 ≤ b.length) : halterlaw12_board_Fetch.f p fe st b = some (rd4 b p.toNat, none, IntKind.wrap .i64 (fe + 1)) := by
  rw [halterlaw12_board_Fetch.f, load4 hb ha hl, bg]
theorem step_do {A F b A' F' b' : List Int} {pc fl fe st op a bb im pc' fl' ev' st' : Int} (hfl : fl < 32) (hpc : 0 ≤ pc ∧ pc < 4294967296) (h4 : pc % 4 = 0) (hb : byt b) (hl : pc + 4 ≤ b.length) (hdec : isa_Decode.f (rd4 b pc.toNat) = some (op, a, bb, im, none))
    (hdo : cm_do.f A (IntKind.wrap .u32 (pc + 4)) fl F op a bb im pc 0 (IntKind.wrap .i64 (fe + 1)) st b = some (.inl (A', pc', fl', F', ev', st', b'))) :
    cpu_Step.f A pc fl F fe st b = some (A', pc', fl', F', (if ev' = 0 ∧ ¬ bits .and .u32 fl' 16 = 0 then 3 else ev'), 0, 0, IntKind.wrap .i64 (fe + 1), st', b') := by
  rw [cpu_Step.f, check_ok hfl, bg, if_neg (by simp), cm_run.f, whole_ok hpc.1 h4, bg]; dsimp only; rw [fetch_ok hb hpc hl, bg]; dsimp only; rw [told_ok, bg]; dsimp only; rw [hdec, bg]; dsimp only; rw [if_neg (by simp), hdo, bg]; dsimp only
  by_cases h1 : ev' = 0
  · by_cases h2 : bits .and .u32 fl' 16 = 0
    · rw [if_pos h1, if_neg (by simpa using h2), bg, if_neg (by simp [h2])]; rfl
    · rw [if_pos h1, if_pos (by simpa using h2), bg, if_pos ⟨h1, h2⟩]; rfl
  · rw [if_neg h1, bg, if_neg (by simp [h1])]; rfl
theorem step_pan {A F b b' : List Int} {pc fl fe st op a bb im sig at_ st' : Int} (hfl : fl < 32) (hpc : 0 ≤ pc ∧ pc < 4294967296) (h4 : pc % 4 = 0) (hb : byt b) (hl : pc + 4 ≤ b.length) (hdec : isa_Decode.f (rd4 b pc.toNat) = some (op, a, bb, im, none))
    (hdo : cm_do.f A (IntKind.wrap .u32 (pc + 4)) fl F op a bb im pc 0 (IntKind.wrap .i64 (fe + 1)) st b = some (.inr (sig, at_, st', b'))) :
    cpu_Step.f A pc fl F fe st b = some (A, pc, fl, F, 4, sig, at_, IntKind.wrap .i64 (fe + 1), st', b') := by
  rw [cpu_Step.f, check_ok hfl, bg, if_neg (by simp), cm_run.f, whole_ok hpc.1 h4, bg]; dsimp only; rw [fetch_ok hb hpc hl, bg]; dsimp only; rw [told_ok, bg]; dsimp only; rw [hdec, bg]; dsimp only; rw [if_neg (by simp), hdo, bg]; rfl
theorem wi32 (x : Int) : IntKind.wrap .i32 x = (x + 2147483648) % 4294967296 - 2147483648 := IntKind.wrap_i32 x
theorem tmod_pos {a m : Int} (h : 0 ≤ a) : Int.tmod a m = a % m := Int.tmod_eq_emod_of_nonneg h
theorem tdiv_pos {a m : Int} (h : 0 ≤ a) : Int.tdiv a m = a / m := Int.tdiv_eq_ediv_of_nonneg h
theorem shr32w (x : Int) : shr .u64 x 32 = x / 4294967296 := by simp [shr, IntKind.bits]
theorem shr31 (x : Int) : shr .u32 x 31 = x / 2147483648 := by simp [shr, IntKind.bits]
theorem max32 : IntKind.max .u32 = 4294967295 := by decide
theorem neg_eq (x : Int) (h0 : 0 ≤ x) (h1 : x ≤ 4294967295) : word_negative.f x = some (decide (2147483648 ≤ x)) := by
  unfold word_negative.f; rw [wi32]; congr 1
  rw [decide_eq_decide]; omega
theorem add32_eq (a b c : Int) (ha0 : 0 ≤ a) (ha : a ≤ 4294967295) (hb0 : 0 ≤ b) (hb : b ≤ 4294967295) (hc0 : 0 ≤ c) (hc : c ≤ 1) :
    math_bits_Add32.f a b c = some ((a + b + c) % 4294967296, (a + b + c) / 4294967296) := by
  unfold math_bits_Add32.f; rw [wu64_id (x := a) (by omega), wu64_id (x := b) (by omega), wu64_id (x := c) (by omega), wu64_id (x := a + b) (by omega), wu64_id (x := a + b + c) (by omega), shr32w, wu32, wu32_id (by omega)]
theorem add_eq (a b : Int) (ha0 : 0 ≤ a) (ha : a ≤ 4294967295) (hb0 : 0 ≤ b) (hb : b ≤ 4294967295) :
    word_Add.f a b false = some ((a + b) % 4294967296, decide (4294967296 ≤ a + b), (decide (2147483648 ≤ a) == decide (2147483648 ≤ b)) && (decide (2147483648 ≤ (a + b) % 4294967296) != decide (2147483648 ≤ a))) := by
  unfold word_Add.f; rw [if_neg (by simp), add32_eq a b 0 ha0 ha hb0 hb (by omega) (by omega), bg, neg_eq a ha0 ha, bg, neg_eq b hb0 hb, bg, Int.add_zero]; dsimp only
  have hq : ((a + b) / 4294967296 == 1) = decide (4294967296 ≤ a + b) := by
    rw [Bool.eq_iff_iff]; simp only [beq_iff_eq, decide_eq_true_eq]; omega
  rw [hq]
  by_cases h : decide (2147483648 ≤ a) = decide (2147483648 ≤ b)
  · rw [if_pos h, neg_eq _ (by omega) (by omega), bg, bg, h, beq_self_eq_true, Bool.true_and]; rfl
  · rw [if_neg h]
    have h2 : (decide (2147483648 ≤ a) == decide (2147483648 ≤ b)) = false := by rw [beq_eq_false_iff_ne]; exact h
    rw [h2, Bool.false_and]
theorem wraps_u32 (n : Int) (h0 : 0 ≤ n) (h1 : n < 2 ^ 32) : IntKind.u32.wrap n = n := by rw [IntKind.wrap_u32]; omega
theorem and32 (x y : Nat) (hx : x < 4294967296) (hy : y < 4294967296) : Go.bits .and .u32 x y = ((x &&& y : Nat) : Int) := (bits_nat .u32 32 (by decide) wraps_u32 x y hx hy).1
theorem or32 (x y : Nat) (hx : x < 4294967296) (hy : y < 4294967296) : Go.bits .or .u32 x y = ((x ||| y : Nat) : Int) := (bits_nat .u32 32 (by decide) wraps_u32 x y hx hy).2
theorem xor32 (x y : Nat) (hx : x < 4294967296) (hy : y < 4294967296) : Go.bits .xor .u32 x y = ((x ^^^ y : Nat) : Int) := by
  have hx' : x % 2 ^ IntKind.u32.bits = x := Nat.mod_eq_of_lt hx
  have hy' : y % 2 ^ IntKind.u32.bits = y := Nat.mod_eq_of_lt hy
  have hl : x ^^^ y < 2 ^ 32 := Nat.xor_lt_two_pow (n := 32) hx hy
  simp only [Go.bits, BitVec.ofInt_natCast, BitVec.toNat_xor, BitVec.toNat_ofNat, hx', hy']; exact wraps_u32 _ (Int.natCast_nonneg _) (by exact_mod_cast hl)
theorem tb31 (n : Nat) (h : n < 4294967296) : n.testBit 31 = decide (2147483648 ≤ n) := by
  rw [Nat.testBit_eq_decide_div_mod_eq, decide_eq_decide]; omega
theorem top31 (n : Nat) (h : n < 4294967296) : n / 2147483648 = (if n.testBit 31 then 1 else 0) := by
  rw [tb31 n h]
  by_cases h2 : 2147483648 ≤ n
  · simp [h2]; omega
  · simp [h2]; omega
theorem borrow (x y : Nat) (hx : x < 4294967296) (hy : y < 4294967296) :
    (Go.bits .or .u32 (Go.bits .and .u32 (Go.bits .xor .u32 4294967295 (x : Int)) (y : Int)) (Go.bits .and .u32 (Go.bits .xor .u32 4294967295 (Go.bits .xor .u32 (x : Int) (y : Int))) (((x : Int) - y) % 4294967296))) / 2147483648 = if x < y then 1 else 0 := by
  obtain ⟨z, hz⟩ : ∃ z : Nat, (z : Int) = ((x : Int) - y) % 4294967296 := ⟨(((x : Int) - y) % 4294967296).toNat, by omega⟩
  have hz1 : z < 4294967296 := by omega
  rw [← hz]
  have c : (4294967295 : Int) = ((4294967295 : Nat) : Int) := rfl
  have h1 : x ^^^ y < 4294967296 := Nat.xor_lt_two_pow (n := 32) hx hy
  have h2 : 4294967295 ^^^ x < 4294967296 := Nat.xor_lt_two_pow (n := 32) (by decide) hx
  have h3 : 4294967295 ^^^ (x ^^^ y) < 4294967296 := Nat.xor_lt_two_pow (n := 32) (by decide) h1
  have h4 : (4294967295 ^^^ x) &&& y < 4294967296 := Nat.and_lt_two_pow (n := 32) _ hy
  have h5 : (4294967295 ^^^ (x ^^^ y)) &&& z < 4294967296 := Nat.and_lt_two_pow (n := 32) _ hz1
  have h6 : ((4294967295 ^^^ x) &&& y) ||| ((4294967295 ^^^ (x ^^^ y)) &&& z) < 4294967296 := Nat.or_lt_two_pow (n := 32) h4 h5
  rw [c, xor32 x y hx hy, xor32 _ x (by decide) hx, xor32 _ (x ^^^ y) (by decide) h1, and32 _ y h2 hy, and32 _ z h3 hz1, or32 _ _ h4 h5]
  have e : (((((4294967295 ^^^ x) &&& y) ||| ((4294967295 ^^^ (x ^^^ y)) &&& z) : Nat) : Int) / 2147483648) = (((((4294967295 ^^^ x) &&& y) ||| ((4294967295 ^^^ (x ^^^ y)) &&& z)) / 2147483648 : Nat) : Int) := by simp
  rw [e, top31 _ h6]; simp only [Nat.testBit_or, Nat.testBit_and, Nat.testBit_xor, tb31 x hx, tb31 y hy, tb31 z hz1, tb31 4294967295 (by decide)]
  by_cases a : 2147483648 ≤ x <;> by_cases b : 2147483648 ≤ y <;> by_cases d : 2147483648 ≤ z <;> by_cases l : x < y <;> simp [a, b, d, l] <;> omega
theorem sub32_eq (a b : Int) (ha0 : 0 ≤ a) (ha : a ≤ 4294967295) (hb0 : 0 ≤ b) (hb : b ≤ 4294967295) :
    math_bits_Sub32.f a b 0 = some ((a - b) % 4294967296, if a < b then 1 else 0) := by
  obtain ⟨x, rfl⟩ := Int.eq_ofNat_of_zero_le ha0
  obtain ⟨y, rfl⟩ := Int.eq_ofNat_of_zero_le hb0
  have hbo := borrow x y (by omega) (by omega)
  have hi : (if x < y then (1 : Int) else 0) = if (x : Int) < (y : Int) then 1 else 0 := by
    by_cases h : x < y
    · rw [if_pos h, if_pos (by omega)]
    · rw [if_neg h, if_neg (by omega)]
  rw [hi] at hbo; unfold math_bits_Sub32.f; rw [max32, wu32 ((x : Int) - (y : Int)), wu32_id (x := ((x : Int) - (y : Int)) % 4294967296 - 0) (by omega), shr31, Int.sub_zero, hbo]
theorem sub_eq (a b : Int) (ha0 : 0 ≤ a) (ha : a ≤ 4294967295) (hb0 : 0 ≤ b) (hb : b ≤ 4294967295) :
    word_Sub.f a b = some ((a - b) % 4294967296, decide (a < b), (decide (2147483648 ≤ a) != decide (2147483648 ≤ b)) && (decide (2147483648 ≤ (a - b) % 4294967296) != decide (2147483648 ≤ a))) := by
  unfold word_Sub.f; rw [sub32_eq a b ha0 ha hb0 hb, bg, neg_eq a ha0 ha, bg, neg_eq b hb0 hb, bg]; dsimp only
  have hq : ((if a < b then (1 : Int) else 0) == 1) = decide (a < b) := by
    by_cases h : a < b
    · rw [if_pos h, decide_eq_true h]; rfl
    · rw [if_neg h, decide_eq_false h]; rfl
  rw [hq]
  by_cases h : decide (2147483648 ≤ a) = decide (2147483648 ≤ b)
  · rw [if_neg (fun h2 => h2 h)]
    have h2 : (decide (2147483648 ≤ a) != decide (2147483648 ≤ b)) = false := by rw [bne_eq_false_iff_eq]; exact h
    rw [h2, Bool.false_and]
  · rw [if_pos h, neg_eq _ (by omega) (by omega), bg, bg]
    have h2 : (decide (2147483648 ≤ a) != decide (2147483648 ≤ b)) = true := by rw [bne_iff_ne]; exact h
    rw [h2, Bool.true_and]; rfl
theorem mul_bd (a b : Int) (ha0 : 0 ≤ a) (ha : a ≤ 4294967295) (hb0 : 0 ≤ b) (hb : b ≤ 4294967295) : 0 ≤ a * b ∧ a * b ≤ 18446744065119617025 :=
  ⟨Int.mul_nonneg ha0 hb0, by have := Int.mul_le_mul ha hb hb0 (by decide : (0 : Int) ≤ 4294967295); omega⟩
theorem mul_eq (a b : Int) (ha0 : 0 ≤ a) (ha : a ≤ 4294967295) (hb0 : 0 ≤ b) (hb : b ≤ 4294967295) :
    word_Mul.f a b = some (a * b % 4294967296, a * b / 4294967296) := by
  have hab := mul_bd a b ha0 ha hb0 hb
  unfold word_Mul.f math_bits_Mul32.f; rw [bg, wu64_id (x := a) (by omega), wu64_id (x := b) (by omega)]; dsimp only
  generalize a * b = p at *
  rw [wu64_id (x := p) (by omega), shr32w, wu32, wu32_id (by omega)]
theorem and_two (x k : Nat) : x &&& 2 ^ k = x / 2 ^ k % 2 * 2 ^ k := by
  have hm : x / 2 ^ k % 2 < 2 := Nat.mod_lt _ (by omega)
  apply Nat.eq_of_testBit_eq
  intro j; rw [Nat.testBit_and, Nat.testBit_two_pow]
  by_cases h : x / 2 ^ k % 2 = 1
  · rw [h, Nat.one_mul, Nat.testBit_two_pow]
    by_cases e : k = j
    · subst e; rw [Nat.testBit_eq_decide_div_mod_eq, decide_eq_true h]; rfl
    · rw [decide_eq_false e, Bool.and_false]
  · have h0 : x / 2 ^ k % 2 = 0 := by omega
    rw [h0, Nat.zero_mul, Nat.zero_testBit]
    by_cases e : k = j
    · subst e; rw [Nat.testBit_eq_decide_div_mod_eq, decide_eq_false h]; rfl
    · rw [decide_eq_false e, Bool.and_false]
def pairN (v : Int) (c o : Bool) : Nat := (decide (v = 0)).toNat + 2 * (decide (2147483648 ≤ v)).toNat + 4 * c.toNat + 8 * o.toNat
theorem pair_eq (v : Int) (h0 : 0 ≤ v) (h1 : v ≤ 4294967295) (c o : Bool) : alu_pair.f v c o = some ((pairN v c o : Nat) : Int) := by
  obtain ⟨x, rfl⟩ := Int.eq_ofNat_of_zero_le h0
  have hb : bits .and .u32 (x : Int) 2147483648 = ((x &&& 2147483648 : Nat) : Int) := and32 x 2147483648 (by omega) (by omega)
  have ht : x &&& 2147483648 = (decide (2147483648 ≤ x)).toNat * 2147483648 := by
    have h := and_two x 31
    rw [show (2147483648 : Nat) = 2 ^ 31 from rfl, h]
    congr 1
    by_cases h2 : 2 ^ 31 ≤ x
    · rw [decide_eq_true h2]; show _ = 1; omega
    · rw [decide_eq_false h2]; show _ = 0; omega
  unfold alu_pair.f pairN; rw [hb, ht]
  by_cases hz : x = 0
  · subst hz; cases c <;> cases o <;> decide +kernel
  · rw [if_neg (show ¬ (x : Int) = 0 by omega), decide_eq_false (show ¬ (x : Int) = 0 by omega)]
    by_cases ht : 2147483648 ≤ x
    · rw [decide_eq_true ht, decide_eq_true (show (2147483648 : Int) ≤ (x : Int) by omega)]
      cases c <;> cases o <;> decide +kernel
    · rw [decide_eq_false ht, decide_eq_false (show ¬ (2147483648 : Int) ≤ (x : Int) by omega)]
      cases c <;> cases o <;> decide +kernel
theorem pairN_lt (v : Int) (c o : Bool) : pairN v c o < 16 := by
  unfold pairN
  have h1 := Bool.toNat_le (decide (v = 0)); have h2 := Bool.toNat_le (decide (2147483648 ≤ v)); have h3 := Bool.toNat_le c; have h4 := Bool.toNat_le o
  omega
theorem and_bit (f k : Nat) (hf : f < 4294967296) (hk : k < 32) : bits .and .u32 (f : Int) ((2 ^ k : Nat) : Int) = (((f / 2 ^ k % 2) * 2 ^ k : Nat) : Int) := by
  have hp : (2 : Nat) ^ k < 2 ^ 32 := Nat.pow_lt_pow_right (by omega) hk
  rw [and32 f (2 ^ k) hf (by omega), and_two]
def stN (f : Nat) : Nat := f / 16 % 2
theorem step_and (f : Nat) (hf : f < 4294967296) : bits .and .u32 (f : Int) 16 = ((stN f * 16 : Nat) : Int) := and_bit f 4 hf (by omega)
theorem or_step (p s : Nat) (hp : p < 16) (hs : s < 2) : bits .or .u32 (p : Int) ((s * 16 : Nat) : Int) = ((p + s * 16 : Nat) : Int) := by
  have : ∀ q : Fin 16, ∀ r : Fin 2, bits .or .u32 (q.val : Int) ((r.val * 16 : Nat) : Int) = ((q.val + r.val * 16 : Nat) : Int) := by decide +kernel
  exact this ⟨p, hp⟩ ⟨s, hs⟩
theorem stN_lt (f : Nat) : stN f < 2 := Nat.mod_lt _ (by omega)
theorem flag_or (v : Int) (c o : Bool) (f : Nat) (hf : f < 4294967296) : bits .or .u32 ((pairN v c o : Nat) : Int) (bits .and .u32 (f : Int) 16) = ((pairN v c o + stN f * 16 : Nat) : Int) := by
  rw [step_and f hf, or_step _ _ (pairN_lt v c o) (stN_lt f)]
theorem ask (f k w : Nat) (hf : f < 4294967296) (hk : k < 32) (hw : w = 2 ^ k) : (bits .and .u32 (f : Int) (w : Int) != 0) = decide (f / w % 2 = 1) := by
  subst hw; rw [and_bit f k hf hk]
  have : f / 2 ^ k % 2 < 2 := Nat.mod_lt _ (by omega)
  have hp := Nat.two_pow_pos k
  by_cases h : f / 2 ^ k % 2 = 1
  · rw [h, decide_eq_true rfl, Nat.one_mul, bne_iff_ne]; omega
  · have h0 : f / 2 ^ k % 2 = 0 := by omega
    rw [h0, Nat.zero_mul]; rfl
theorem ask0 (f k w : Nat) (hf : f < 4294967296) (hk : k < 32) (hw : w = 2 ^ k) : (bits .and .u32 (f : Int) (w : Int) == 0) = !decide (f / w % 2 = 1) := by
  rw [← ask f k w hf hk hw]
  cases h : (bits .and .u32 (f : Int) (w : Int) == 0) <;> simp [bne, h]
def takS (op : Int) (f : Nat) : Bool × Option Int :=
  if op = 21 then (true, none) else if op = 22 then (decide (f % 2 = 1), none) else if op = 23 then (!decide (f % 2 = 1), none)
  else if op = 24 then (!(decide (f / 2 % 2 = 1) == decide (f / 8 % 2 = 1)), none) else if op = 25 then (decide (f / 2 % 2 = 1) == decide (f / 8 % 2 = 1), none)
  else if op = 26 then (decide (f / 4 % 2 = 1), none) else (false, some 22)
theorem Taken_eq (op : Int) (f : Nat) (hf : f < 4294967296) : alu_Taken.f op (f : Int) = some (takS op f) := by
  have h1 : (bits .and .u32 (f : Int) 1 != 0) = decide (f % 2 = 1) := by have := ask f 0 1 hf (by omega) rfl; rw [Nat.div_one] at this; exact this
  have h0 : (bits .and .u32 (f : Int) 1 == 0) = !decide (f % 2 = 1) := by have := ask0 f 0 1 hf (by omega) rfl; rw [Nat.div_one] at this; exact this
  have h2 : (bits .and .u32 (f : Int) 2 != 0) = decide (f / 2 % 2 = 1) := ask f 1 2 hf (by omega) rfl
  have h3 : (bits .and .u32 (f : Int) 4 != 0) = decide (f / 4 % 2 = 1) := ask f 2 4 hf (by omega) rfl
  have h4 : (bits .and .u32 (f : Int) 8 != 0) = decide (f / 8 % 2 = 1) := ask f 3 8 hf (by omega) rfl
  unfold alu_Taken.f takS; rw [h1, h0, h2, h3, h4, Bool.not_not]
  repeat' (split; rfl)
  rfl
def sgn (v : Nat) : Int := if 2147483648 ≤ v then (v : Int) - 4294967296 else v
theorem shl_eq (v : Int) (n : Nat) (h : n ≤ 32) : shl .u32 v n = v * 2 ^ n % 4294967296 := by
  unfold shl; rw [wu32, Int.toNat_natCast, Nat.min_eq_left (show n ≤ IntKind.u32.bits from h)]
theorem shr_eq (k : IntKind) (v : Int) (n : Nat) (h : n ≤ k.bits) : shr k v n = v / 2 ^ n := by
  unfold shr; rw [Int.toNat_natCast, Nat.min_eq_left h]
theorem two_split (n : Nat) (h : n ≤ 32) : 2 ^ n * 2 ^ (32 - n) = 4294967296 := by
  rw [← Nat.pow_add, show n + (32 - n) = 32 by omega]
theorem up_eq (v n : Nat) (h : n ≤ 32) : shl .u32 v n = ((2 ^ n * (v % 2 ^ (32 - n)) : Nat) : Int) := by
  rw [shl_eq v n h]
  have e : (v : Int) * 2 ^ n = ((2 ^ n * v : Nat) : Int) := by simp [Int.mul_comm]
  have e2 : (4294967296 : Int) = ((2 ^ n * 2 ^ (32 - n) : Nat) : Int) := by rw [two_split n h]; rfl
  rw [e, e2]
  have : ((2 ^ n * v : Nat) : Int) % ((2 ^ n * 2 ^ (32 - n) : Nat) : Int) = ((2 ^ n * v % (2 ^ n * 2 ^ (32 - n)) : Nat) : Int) := by simp
  rw [this, Nat.mul_mod_mul_left]
theorem up_lt (v n : Nat) (h : n ≤ 32) : 2 ^ n * (v % 2 ^ (32 - n)) < 4294967296 := by
  have h1 : v % 2 ^ (32 - n) + 1 ≤ 2 ^ (32 - n) := Nat.mod_lt _ (Nat.two_pow_pos _)
  have h2 := Nat.mul_le_mul_left (2 ^ n) h1
  have hp := Nat.two_pow_pos n
  rw [two_split n h, Nat.mul_add, Nat.mul_one] at h2; omega
theorem down_eq (v n : Nat) (h : n ≤ 32) : shr .u32 v n = ((v / 2 ^ n : Nat) : Int) := by
  rw [shr_eq .u32 v n h]; simp
theorem wi32_sgn (v : Nat) (hv : v < 4294967296) : IntKind.wrap .i32 (v : Int) = sgn v := by
  rw [wi32]; unfold sgn
  by_cases h : 2147483648 ≤ v
  · rw [if_pos h]; omega
  · rw [if_neg h]; omega
def resS (op : Int) (a b : Nat) : (Int × Int × Bool × Bool) ⊕ Int :=
  if op = 4 then .inl (((a : Int) + b) % 4294967296, ((a : Int) + b) % 4294967296, decide (4294967296 ≤ (a : Int) + b), (decide (2147483648 ≤ (a : Int)) == decide (2147483648 ≤ (b : Int))) && (decide (2147483648 ≤ ((a : Int) + b) % 4294967296) != decide (2147483648 ≤ (a : Int))))
  else if op = 5 then .inl (((a : Int) - b) % 4294967296, ((a : Int) - b) % 4294967296, decide ((a : Int) < b), (decide (2147483648 ≤ (a : Int)) != decide (2147483648 ≤ (b : Int))) && (decide (2147483648 ≤ ((a : Int) - b) % 4294967296) != decide (2147483648 ≤ (a : Int))))
  else if op = 16 then .inl ((a : Int), ((a : Int) - b) % 4294967296, decide ((a : Int) < b), (decide (2147483648 ≤ (a : Int)) != decide (2147483648 ≤ (b : Int))) && (decide (2147483648 ≤ ((a : Int) - b) % 4294967296) != decide (2147483648 ≤ (a : Int))))
  else if op = 6 then .inl ((a : Int) * b % 4294967296, (a : Int) * b % 4294967296, (a : Int) * b / 4294967296 != 0, false)
  else if op = 7 then (if b = 0 then .inr 14 else .inl (((a / b : Nat) : Int), ((a / b : Nat) : Int), false, false))
  else if op = 8 then (if b = 0 then .inr 14 else .inl (((a % b : Nat) : Int), ((a % b : Nat) : Int), false, false))
  else if op = 9 then .inl (((a &&& b : Nat) : Int), ((a &&& b : Nat) : Int), false, false)
  else if op = 10 then .inl (((a ||| b : Nat) : Int), ((a ||| b : Nat) : Int), false, false)
  else if op = 11 then .inl (((a ^^^ b : Nat) : Int), ((a ^^^ b : Nat) : Int), false, false)
  else if op = 12 then .inl (((2 ^ (b % 32) * (a % 2 ^ (32 - b % 32)) : Nat) : Int), ((2 ^ (b % 32) * (a % 2 ^ (32 - b % 32)) : Nat) : Int), false, false)
  else if op = 13 then .inl (((a / 2 ^ (b % 32) : Nat) : Int), ((a / 2 ^ (b % 32) : Nat) : Int), false, false)
  else if op = 14 then .inl (sgn a / 2 ^ (b % 32) % 4294967296, sgn a / 2 ^ (b % 32) % 4294967296, false, false)
  else .inr 22
theorem shift_up (a n : Nat) (hn : n < 32) : word_Shift.f (a : Int) (n : Int) = some ((2 ^ n * (a % 2 ^ (32 - n)) : Nat) : Int) := by
  have e : Int.tmod (IntKind.wrap .u64 (n : Int)) 32 = (n : Int) := by rw [wu64_id (by omega), tmod_pos (by omega)]; omega
  unfold word_Shift.f; rw [if_neg (by omega), e, if_pos (by omega), up_eq a n (by omega)]
theorem shift_down (a n : Nat) (ha : a < 4294967296) (hn : n < 32) : word_Shift.f (a : Int) (IntKind.wrap .i64 (0 - (n : Int))) = some ((a / 2 ^ n : Nat) : Int) := by
  by_cases h0 : n = 0
  · subst h0
    have := shift_up a 0 (by omega)
    rw [show IntKind.wrap .i64 (0 - ((0 : Nat) : Int)) = ((0 : Nat) : Int) from rfl, this]
    congr 2
    rw [Nat.pow_zero, Nat.one_mul, Nat.div_one]; exact Nat.mod_eq_of_lt (by omega)
  · have e0 : IntKind.wrap .i64 (0 - (n : Int)) = -(n : Int) := by rw [wi64 (by omega) (by omega)]; omega
    have e1 : IntKind.wrap .i64 (0 - -(n : Int)) = (n : Int) := by rw [wi64 (by omega) (by omega)]; omega
    have e : Int.tmod (IntKind.wrap .u64 (n : Int)) 32 = (n : Int) := by rw [wu64_id (by omega), tmod_pos (by omega)]; omega
    unfold word_Shift.f; rw [e0, if_pos (by omega), e1, e, if_pos (by omega), down_eq a n (by omega)]
theorem sar_eq (a n : Nat) (ha : a < 4294967296) (hn : n < 32) : word_Sar.f (a : Int) (n : Int) = some (sgn a / 2 ^ n % 4294967296) := by
  have e : Int.tmod (IntKind.wrap .u64 (n : Int)) 32 = (n : Int) := by rw [wu64_id (by omega), tmod_pos (by omega)]; omega
  unfold word_Sar.f; rw [e, if_pos (by omega), wi32_sgn a ha, shr_eq .i32 _ n (show n ≤ 32 by omega), wu32]
def ansS (fl : Nat) : (Int × Int × Bool × Bool) ⊕ Int → Int × Int × Option Int
  | .inl r => (r.1, ((pairN r.2.1 r.2.2.1 r.2.2.2 + stN fl * 16 : Nat) : Int), none)
  | .inr e => (0, 0, some e)
theorem resS_bd (op : Int) (a b : Nat) (ha : a < 4294967296) (hb : b < 4294967296) (r : Int × Int × Bool × Bool) (h : resS op a b = .inl r) : 0 ≤ r.1 ∧ r.1 ≤ 4294967295 ∧ 0 ≤ r.2.1 ∧ r.2.1 ≤ 4294967295 := by
  have h9 : a &&& b < 4294967296 := Nat.and_lt_two_pow (n := 32) _ hb
  have h10 : a ||| b < 4294967296 := Nat.or_lt_two_pow (n := 32) ha hb
  have h11 : a ^^^ b < 4294967296 := Nat.xor_lt_two_pow (n := 32) ha hb
  have h12 := up_lt a (b % 32) (by omega)
  have h13 : a / 2 ^ (b % 32) ≤ a := Nat.div_le_self ..
  have h7 : a / b ≤ a := Nat.div_le_self ..
  have h8 : a % b ≤ a := Nat.mod_le ..
  unfold resS at h
  generalize 2 ^ (b % 32) * (a % 2 ^ (32 - b % 32)) = q12 at *
  generalize a / 2 ^ (b % 32) = q13 at *
  generalize sgn a / 2 ^ (b % 32) = q14 at *
  generalize (a : Int) * b = q6 at *
  generalize a / b = q7 at *
  generalize a % b = q8 at *
  generalize a &&& b = q9 at *
  generalize a ||| b = q10 at *
  generalize a ^^^ b = q11 at *
  by_cases c4 : op = 4
  · rw [if_pos c4] at h; exact (by obtain rfl := Sum.inl.inj h; refine ⟨?_, ?_, ?_, ?_⟩ <;> dsimp only <;> omega)
  rw [if_neg c4] at h
  by_cases c5 : op = 5
  · rw [if_pos c5] at h; exact (by obtain rfl := Sum.inl.inj h; refine ⟨?_, ?_, ?_, ?_⟩ <;> dsimp only <;> omega)
  rw [if_neg c5] at h
  by_cases c16 : op = 16
  · rw [if_pos c16] at h; exact (by obtain rfl := Sum.inl.inj h; refine ⟨?_, ?_, ?_, ?_⟩ <;> dsimp only <;> omega)
  rw [if_neg c16] at h
  by_cases c6 : op = 6
  · rw [if_pos c6] at h; exact (by obtain rfl := Sum.inl.inj h; refine ⟨?_, ?_, ?_, ?_⟩ <;> dsimp only <;> omega)
  rw [if_neg c6] at h
  by_cases c7 : op = 7
  · rw [if_pos c7] at h
    by_cases z : b = 0
    · rw [if_pos z] at h; cases h
    · rw [if_neg z] at h; exact (by obtain rfl := Sum.inl.inj h; refine ⟨?_, ?_, ?_, ?_⟩ <;> dsimp only <;> omega)
  rw [if_neg c7] at h
  by_cases c8 : op = 8
  · rw [if_pos c8] at h
    by_cases z : b = 0
    · rw [if_pos z] at h; cases h
    · rw [if_neg z] at h; exact (by obtain rfl := Sum.inl.inj h; refine ⟨?_, ?_, ?_, ?_⟩ <;> dsimp only <;> omega)
  rw [if_neg c8] at h
  by_cases c9 : op = 9
  · rw [if_pos c9] at h; exact (by obtain rfl := Sum.inl.inj h; refine ⟨?_, ?_, ?_, ?_⟩ <;> dsimp only <;> omega)
  rw [if_neg c9] at h
  by_cases c10 : op = 10
  · rw [if_pos c10] at h; exact (by obtain rfl := Sum.inl.inj h; refine ⟨?_, ?_, ?_, ?_⟩ <;> dsimp only <;> omega)
  rw [if_neg c10] at h
  by_cases c11 : op = 11
  · rw [if_pos c11] at h; exact (by obtain rfl := Sum.inl.inj h; refine ⟨?_, ?_, ?_, ?_⟩ <;> dsimp only <;> omega)
  rw [if_neg c11] at h
  by_cases c12 : op = 12
  · rw [if_pos c12] at h; exact (by obtain rfl := Sum.inl.inj h; refine ⟨?_, ?_, ?_, ?_⟩ <;> dsimp only <;> omega)
  rw [if_neg c12] at h
  by_cases c13 : op = 13
  · rw [if_pos c13] at h; exact (by obtain rfl := Sum.inl.inj h; refine ⟨?_, ?_, ?_, ?_⟩ <;> dsimp only <;> omega)
  rw [if_neg c13] at h
  by_cases c14 : op = 14
  · rw [if_pos c14] at h; exact (by obtain rfl := Sum.inl.inj h; refine ⟨?_, ?_, ?_, ?_⟩ <;> dsimp only <;> omega)
  rw [if_neg c14] at h
  cases h
theorem div_le (a b : Nat) (ha : a < 4294967296) : ((a / b : Nat) : Int) ≤ 4294967295 := by
  have hq : a / b ≤ a := Nat.div_le_self ..
  generalize a / b = q at *
  omega
theorem divw (a b : Nat) (ha : a < 4294967296) : IntKind.wrap .u32 (Int.tdiv (a : Int) (b : Int)) = ((a / b : Nat) : Int) := by
  have hq : a / b ≤ a := Nat.div_le_self ..
  have hc : (a : Int) / (b : Int) = ((a / b : Nat) : Int) := (Int.natCast_ediv a b).symm
  rw [tdiv_pos (by omega), hc]
  generalize a / b = q at *
  exact wu32_id (by omega)
theorem plain_tail (fl : Nat) (hfl : fl < 4294967296) (x : Int) (h0 : 0 ≤ x) (h1 : x ≤ 4294967295) : (alu_pair.f x false false).bind (fun t19 => some (x, (bits .or .u32 t19 (bits .and .u32 (fl : Int) (16 : Int))), (none : Option Int))) = some (ansS fl (.inl (x, x, false, false))) := by
  rw [pair_eq x h0 h1, bg, flag_or _ _ _ fl hfl]; rfl
theorem Do_eq (op : Int) (a b fl : Nat) (ha : a < 4294967296) (hb : b < 4294967296) (hfl : fl < 4294967296) : alu_Do.f op (a : Int) (b : Int) (fl : Int) = some (ansS fl (resS op a b)) := by
  have hbd := resS_bd op a b ha hb
  have en : IntKind.wrap .i64 (Int.tmod (b : Int) 32) = ((b % 32 : Nat) : Int) := by rw [tmod_pos (by omega), wi64 (by omega) (by omega)]; omega
  unfold alu_Do.f alu_sums.f alu_parts.f alu_plain.f; unfold resS at hbd ⊢
  by_cases h4 : op = 4
  · rw [if_pos h4] at hbd ⊢
    rw [if_pos h4, if_pos h4, add_eq _ _ (by omega) (by omega) (by omega) (by omega), bg]; dsimp only; rw [pair_eq _ (by omega) (by omega), bg, bg]; dsimp only; rw [flag_or _ _ _ fl hfl]; rfl
  · rw [if_neg h4] at hbd ⊢
    rw [if_neg h4, if_neg h4]
    by_cases h5 : op = 5
    · subst h5; rw [if_pos rfl, if_pos rfl, if_neg (by decide), sub_eq _ _ (by omega) (by omega) (by omega) (by omega), bg, if_neg (by decide)]; dsimp only; rw [pair_eq _ (by omega) (by omega), bg, bg]; dsimp only; rw [flag_or _ _ _ fl hfl]; rfl
    · rw [if_neg h5] at hbd ⊢
      rw [if_neg h5]
      by_cases h16 : op = 16
      · subst h16; rw [if_pos rfl, if_pos rfl, if_neg (by decide), sub_eq _ _ (by omega) (by omega) (by omega) (by omega), bg, if_pos rfl]; dsimp only; rw [pair_eq _ (by omega) (by omega), bg, bg]; dsimp only; rw [flag_or _ _ _ fl hfl]; rfl
      · rw [if_neg h16] at hbd ⊢
        rw [if_neg h16]
        by_cases h6 : op = 6
        · subst h6
          have hm := mul_bd (a : Int) (b : Int) (by omega) (by omega) (by omega) (by omega)
          rw [if_pos rfl, if_pos rfl, if_pos rfl, mul_eq _ _ (by omega) (by omega) (by omega) (by omega), bg]; dsimp only
          generalize (a : Int) * b = p at *
          rw [pair_eq _ (by omega) (by omega), bg, bg]; dsimp only; rw [flag_or _ _ _ fl hfl]; rfl
        · rw [if_neg h6] at hbd ⊢
          rw [if_neg h6]; unfold word_Div.f
          by_cases h7 : op = 7
          · subst h7; rw [if_pos rfl, if_pos rfl]
            by_cases hb0 : b = 0
            · subst hb0; rw [if_pos rfl, if_pos (show ((0 : Nat) : Int) = 0 from rfl), bg]; dsimp only; rw [if_pos (by simp), bg]; dsimp only; rw [if_pos (by simp)]; rfl
            · have hz : ¬ (b : Int) = 0 := by omega
              have e1 := divw a b ha
              have e2 := div_le a b ha
              rw [if_neg hb0, if_neg hz, if_pos hz, if_pos hz, bg]; dsimp only; rw [if_neg (fun h => h rfl), if_neg (by decide), bg]; dsimp only; rw [if_neg (fun h => h rfl), e1]; exact plain_tail fl hfl _ (Int.natCast_nonneg _) e2
          · rw [if_neg h7] at hbd ⊢
            rw [if_neg h7]
            by_cases h8 : op = 8
            · subst h8; rw [if_pos rfl, if_pos rfl]
              by_cases hb0 : b = 0
              · subst hb0; rw [if_pos rfl, if_pos (show ((0 : Nat) : Int) = 0 from rfl), bg]; dsimp only; rw [if_pos (by simp), bg]; dsimp only; rw [if_pos (by simp)]; rfl
              · have hz : ¬ (b : Int) = 0 := by omega
                have hq : a % b ≤ a := Nat.mod_le ..
                have e1 : Int.tmod (a : Int) (b : Int) = ((a % b : Nat) : Int) := by
                  rw [tmod_pos (by omega), ← Int.natCast_emod]
                rw [if_neg hb0, if_neg hz, if_pos hz, if_pos hz, bg]; dsimp only; rw [if_neg (fun h => h rfl), if_pos rfl, bg]; dsimp only; rw [if_neg (fun h => h rfl), e1]; exact plain_tail fl hfl _ (by omega) (by omega)
            · rw [if_neg h8] at hbd ⊢
              rw [if_neg h8, en]
              by_cases h9 : op = 9
              · rw [if_pos h9] at hbd ⊢
                have := hbd _ rfl
                rw [if_pos h9, bg]; dsimp only at this ⊢
                rw [if_neg (fun h => h rfl), and32 a b ha hb]; exact plain_tail fl hfl _ (by omega) (by omega)
              · rw [if_neg h9] at hbd ⊢
                rw [if_neg h9]
                by_cases h10 : op = 10
                · rw [if_pos h10] at hbd ⊢
                  have := hbd _ rfl
                  rw [if_pos h10, bg]; dsimp only at this ⊢
                  rw [if_neg (fun h => h rfl), or32 a b ha hb]; exact plain_tail fl hfl _ (by omega) (by omega)
                · rw [if_neg h10] at hbd ⊢
                  rw [if_neg h10]
                  by_cases h11 : op = 11
                  · rw [if_pos h11] at hbd ⊢
                    have := hbd _ rfl
                    rw [if_pos h11, bg]; dsimp only at this ⊢
                    rw [if_neg (fun h => h rfl), xor32 a b ha hb]; exact plain_tail fl hfl _ (by omega) (by omega)
                  · rw [if_neg h11] at hbd ⊢
                    rw [if_neg h11]
                    by_cases h12 : op = 12
                    · rw [if_pos h12] at hbd ⊢
                      have := hbd _ rfl
                      rw [if_pos h12, shift_up a (b % 32) (by omega), bg, bg]; dsimp only at this ⊢
                      rw [if_neg (fun h => h rfl)]; exact plain_tail fl hfl _ this.1 this.2.1
                    · rw [if_neg h12] at hbd ⊢
                      rw [if_neg h12]
                      by_cases h13 : op = 13
                      · rw [if_pos h13] at hbd ⊢
                        have := hbd _ rfl
                        rw [if_pos h13, shift_down a (b % 32) ha (by omega), bg, bg]; dsimp only at this ⊢
                        rw [if_neg (fun h => h rfl)]; exact plain_tail fl hfl _ this.1 this.2.1
                      · rw [if_neg h13] at hbd ⊢
                        rw [if_neg h13]
                        by_cases h14 : op = 14
                        · rw [if_pos h14] at hbd ⊢
                          have := hbd _ rfl
                          rw [if_pos h14, sar_eq a (b % 32) ha (by omega), bg, bg]; dsimp only at this ⊢
                          rw [if_neg (fun h => h rfl)]; exact plain_tail fl hfl _ this.1 this.2.1
                        · rw [if_neg h14, if_neg h14, bg]; dsimp only; rw [if_pos (by simp)]; rfl
open Go.Proofs.YtllannmegnklmaaF (ofB ofB_none sg rg mag val fin D wordN rnd read_fin read_inf read_nan word_self write_read rnd_mag mag_rnd mag_exact order_fin add_fin sub_fin nearest_units nearest_scale nearest_eq word_eq D_eq D_inf D_binade D_sign D_least D_frac cut_rne rne rne_zero rne_scale rne_exact log2_shift log2_of signed_eq val_of cmp_int cmp_scale pick geB leB)
theorem order_self (x : Nat) (h : rg x ≤ 9218868437227405312) : D.order x x = some .eq := by
  by_cases h1 : fin x
  · rw [order_fin x x h1 h1, cmp_int, if_neg (by omega), if_pos rfl]
  · have h2 : rg x = 9218868437227405312 := by have : ¬ rg x < 9218868437227405312 := h1; omega
    unfold Ieee.Format.order; rw [read_inf x h2]
    show some (compare (sg x).toNat (sg x).toNat) = some .eq
    cases sg x <;> rfl
open Go.RowKit (wrap32)
def uE : Nat := 1074
def U : Nat := 2 ^ uE
theorem uE_eq : (uE : Int) - 1074 = 0 := by decide
theorem uE_is : uE = 1074 := rfl
theorem U_pos : 0 < U := Nat.two_pow_pos uE
theorem units_U (neg : Bool) (m : Nat) : D.nearest neg m 0 = wordN neg (rnd (m * U)) := by
  have := nearest_units neg m uE
  rw [uE_eq] at this; exact this
theorem exact_U (m : Nat) (h : m < 9007199254740992) : rnd (m * U) < 9218868437227405312 ∧ mag (rnd (m * U)) = m * U := mag_exact m uE h (by decide)
theorem rg_word (s : Bool) (r : Nat) (h : r < 9223372036854775808) : rg (wordN s r) = r ∧ sg (wordN s r) = s ∧ wordN s r < 18446744073709551616 := by
  unfold wordN rg sg
  cases s
  · rw [if_neg (by simp)]; refine ⟨by omega, ?_, by omega⟩
    rw [beq_eq_false_iff_ne]; omega
  · rw [if_pos rfl]; refine ⟨by omega, ?_, by omega⟩
    rw [beq_iff_eq]; omega
theorem int_eq (n : Int) : floatOfInt .f64 n = wordN (decide (n < 0)) (rnd (n.natAbs * U)) := by
  rw [← units_U]; rfl
theorem int_word (n : Int) (h : n.natAbs < 9007199254740992) : fin (floatOfInt .f64 n) ∧ val (floatOfInt .f64 n) = n * (U : Int) ∧ sg (floatOfInt .f64 n) = decide (n < 0) ∧ rg (floatOfInt .f64 n) ≤ 9218868437227405312 := by
  obtain ⟨m1, m2⟩ := exact_U n.natAbs h
  rw [int_eq]
  obtain ⟨w1, w2, w3⟩ := rg_word (decide (n < 0)) (rnd (n.natAbs * U)) (by omega)
  refine ⟨by show rg _ < _; rw [w1]; exact m1, ?_, w2, by rw [w1]; omega⟩
  unfold val; rw [w1, w2, m2, Int.natCast_mul]
  by_cases h0 : n < 0
  · rw [decide_eq_true h0, if_pos rfl, ← Int.neg_mul, show -((n.natAbs : Nat) : Int) = n by omega]
  · rw [decide_eq_false h0, if_neg (by simp), show ((n.natAbs : Nat) : Int) = n by omega]
theorem cut_zero (neg : Bool) (n d : Nat) : Ieee.Toward.zero.cut neg n d = n / 2 ^ d := by
  unfold Ieee.Toward.cut; dsimp only; rw [Nat.shiftLeft_eq, Nat.one_mul]
  show n / 2 ^ min d (n.log2 + 2) + 0 = _
  rw [Nat.add_zero]
  by_cases h : d ≤ n.log2 + 2
  · rw [Nat.min_eq_left h]
  · rw [Nat.min_eq_right (by omega)]
    have h1 : n < 2 ^ (n.log2 + 1) := Nat.lt_log2_self
    have h2 : 2 ^ (n.log2 + 1) ≤ 2 ^ (n.log2 + 2) := Nat.pow_le_pow_right (by omega) (by omega)
    have h3 : 2 ^ (n.log2 + 2) ≤ 2 ^ d := Nat.pow_le_pow_right (by omega) (by omega)
    rw [Nat.div_eq_of_lt (by omega), Nat.div_eq_of_lt (by omega)]
theorem toInt_fin (x : Nat) (hx : fin x) : (D.read x).toInt .zero = some (if sg x then -((mag (rg x) / U : Nat) : Int) else ((mag (rg x) / U : Nat) : Int)) := by
  obtain ⟨m, j, h1, h2⟩ := read_fin x hx
  rw [h1]
  show some (Ieee.signed (sg x) (Ieee.Toward.zero.cut (sg x) (m <<< ((j : Int) - 1074).toNat) (-((j : Int) - 1074)).toNat) 0) = _
  have e : m <<< ((j : Int) - 1074).toNat / 2 ^ (-((j : Int) - 1074)).toNat = mag (rg x) / U := by
    rw [Nat.shiftLeft_eq, ← h2]
    by_cases hj : 1074 ≤ j
    · rw [show (-((j : Int) - 1074)).toNat = 0 by omega, show ((j : Int) - 1074).toNat = j - 1074 by omega, Nat.pow_zero, Nat.div_one]
      have hE := uE_is
      have : 2 ^ j = 2 ^ (j - 1074) * U := by unfold U; rw [← Nat.pow_add, show j - 1074 + uE = j by omega]
      rw [this, ← Nat.mul_assoc, Nat.mul_div_cancel _ U_pos]
    · rw [show (-((j : Int) - 1074)).toNat = 1074 - j by omega, show ((j : Int) - 1074).toNat = 0 by omega, Nat.pow_zero, Nat.mul_one]
      have hE := uE_is
      have : U = 2 ^ (1074 - j) * 2 ^ j := by rw [← Nat.pow_add, show 1074 - j + j = uE by omega]; rfl
      rw [this, Nat.mul_div_mul_right _ _ (Nat.two_pow_pos _)]
  rw [cut_zero, e, signed_eq, Nat.pow_zero, Nat.mul_one]
theorem c_hi : floatOfInt .f64 2147483647 = 4746794007244308480 := by kernel_rfl
theorem c_lo : floatOfInt .f64 (-2147483648) = 13970166044103278592 := by kernel_rfl
theorem nan_ord (x y : Nat) (h : 9218868437227405312 < rg x) : D.order x y = none := by unfold Ieee.Format.order; rw [read_nan x h]; rfl
theorem hi_word : fin 4746794007244308480 ∧ val 4746794007244308480 = 2147483647 * (U : Int) := by
  obtain ⟨a, b, _⟩ := int_word 2147483647 (by decide)
  rw [c_hi] at a b; exact ⟨a, b⟩
theorem lo_word : fin 13970166044103278592 ∧ val 13970166044103278592 = -2147483648 * (U : Int) := by
  obtain ⟨a, b, _⟩ := int_word (-2147483648) (by decide)
  rw [c_lo] at a b; exact ⟨a, b⟩
theorem soft_toInt_fin (x : Nat) (hx : fin x) : soft_ToInt.f (x : Int) = some (if sg x then (if 2147483648 ≤ mag (rg x) / U then 2147483648 else (4294967296 - ((mag (rg x) / U : Nat) : Int)) % 4294967296) else (if 2147483647 ≤ mag (rg x) / U then 2147483647 else ((mag (rg x) / U : Nat) : Int))) := by
  have hp := U_pos
  have h1 := order_fin x 4746794007244308480 hx hi_word.1
  have h2 := order_fin x 13970166044103278592 hx lo_word.1
  have h3 := order_fin x x hx hx
  rw [hi_word.2] at h1; rw [lo_word.2] at h2
  have hv : floatToIntVal .f64 x .i32 = (match (D.read x).toInt .zero with | some n => if IntKind.min .i32 ≤ n ∧ n ≤ IntKind.max .i32 then some n else none | none => none) := rfl
  rw [toInt_fin x hx] at hv
  show Go.Proofs.YtllannmegnklmaaF.soft_ToInt.f _ = _
  unfold Go.Proofs.YtllannmegnklmaaF.soft_ToInt.f; rw [tn]; rw [show FloatKind.f64.format.order x x = some (compare (val x) (val x)) from h3, show FloatKind.f64.format.order x 4746794007244308480 = some (compare (val x) (2147483647 * (U : Int))) from h1, show FloatKind.f64.format.order x 13970166044103278592 = some (compare (val x) (-2147483648 * (U : Int))) from h2, hv, cmp_int, cmp_int, cmp_int, if_neg (show ¬ val x < val x by omega), if_pos (show val x = val x from rfl), if_pos (show some Ordering.eq = some Ordering.eq from rfl)]
  have hd := Nat.div_add_mod (mag (rg x)) U
  have hm := Nat.mod_lt (mag (rg x)) hp
  have q1 : ∀ k : Nat, (k ≤ mag (rg x) / U ↔ k * U ≤ mag (rg x)) := fun k => Nat.le_div_iff_mul_le hp
  have q1a := q1 2147483647
  have q1b := q1 2147483648
  unfold geB leB val
  clear hv h1 h2 h3 hd hm q1
  generalize mag (rg x) / U = V at *
  generalize mag (rg x) = G at *
  generalize U = u at *
  cases hs : sg x with
  | true =>
    rw [if_pos rfl, if_pos rfl, if_pos rfl, if_pos (show -(G : Int) < 2147483647 * (u : Int) by omega), if_neg (by decide)]
    by_cases g : 2147483648 ≤ V
    · rw [if_pos g]
      by_cases g4 : -(G : Int) = -2147483648 * (u : Int)
      · rw [if_neg (show ¬ -(G : Int) < -2147483648 * (u : Int) by omega), if_pos g4, if_pos (by decide)]
      · rw [if_pos (show -(G : Int) < -2147483648 * (u : Int) by omega), if_pos (by decide)]
    · rw [if_neg g, if_neg (show ¬ -(G : Int) < -2147483648 * (u : Int) by omega), if_neg (show ¬ -(G : Int) = -2147483648 * (u : Int) by omega), if_neg (by decide)]; dsimp only; rw [if_pos (show IntKind.min .i32 ≤ -(V : Int) ∧ -(V : Int) ≤ IntKind.max .i32 by rw [show IntKind.min .i32 = -2147483648 by decide, show IntKind.max .i32 = 2147483647 by decide]; omega), bg]
      congr 1; omega
  | false =>
    rw [if_neg (show ¬ (false = true) by simp), if_neg (show ¬ (false = true) by simp), if_neg (show ¬ (false = true) by simp)]
    by_cases g : 2147483647 ≤ V
    · rw [if_pos g]
      by_cases g4 : (G : Int) = 2147483647 * (u : Int)
      · rw [if_neg (show ¬ (G : Int) < 2147483647 * (u : Int) by omega), if_pos g4, if_pos (by decide)]
      · rw [if_neg (show ¬ (G : Int) < 2147483647 * (u : Int) by omega), if_neg g4, if_pos (by decide)]
    · rw [if_neg g, if_pos (show (G : Int) < 2147483647 * (u : Int) by omega), if_neg (by decide), if_neg (show ¬ (G : Int) < -2147483648 * (u : Int) by omega), if_neg (show ¬ (G : Int) = -2147483648 * (u : Int) by omega), if_neg (by decide)]; dsimp only; rw [if_pos (show IntKind.min .i32 ≤ (V : Int) ∧ (V : Int) ≤ IntKind.max .i32 by rw [show IntKind.min .i32 = -2147483648 by decide, show IntKind.max .i32 = 2147483647 by decide]; omega), bg]
      congr 1; omega
theorem toInt_some (x : Nat) (h : x < 18446744073709551616) : ∃ v : Int, soft_ToInt.f (x : Int) = some v := by
  by_cases hx : fin x
  · exact ⟨_, soft_toInt_fin x hx⟩
  · have hx' : ¬ rg x < 9218868437227405312 := hx
    by_cases g : 9218868437227405312 < rg x
    · refine ⟨0, ?_⟩
      show Go.Proofs.YtllannmegnklmaaF.soft_ToInt.f _ = _
      unfold Go.Proofs.YtllannmegnklmaaF.soft_ToInt.f; rw [tn, show FloatKind.f64.format.order x x = none from nan_ord x x g, if_neg (by simp)]
    · have ix : rg x = 9218868437227405312 := by omega
      have o1 : FloatKind.f64.format.order x x = some .eq := order_self x (by omega)
      have o2 : ∀ y : Nat, fin y → FloatKind.f64.format.order x y = some (if sg x then .lt else .gt) := fun y hy => by
        obtain ⟨m, j, h1, h2⟩ := read_fin y hy
        show D.order x y = _
        unfold Ieee.Format.order; rw [h1, read_inf x ix]; rfl
      refine ⟨if sg x then 2147483648 else 2147483647, ?_⟩
      show Go.Proofs.YtllannmegnklmaaF.soft_ToInt.f _ = _
      unfold Go.Proofs.YtllannmegnklmaaF.soft_ToInt.f; rw [tn, o1, o2 _ hi_word.1, o2 _ lo_word.1, if_pos rfl]
      cases sg x <;> rfl
def wS (im : Int) : Int := IntKind.wrap .u32 (IntKind.wrap .i32 im)
def atS (A : List Int) (bb im : Int) : Int := IntKind.wrap .u32 (A.getD bb.toNat 0 + wS im)
def jmpS (pc im : Int) : Int := IntKind.wrap .u32 (pc + IntKind.wrap .u32 (wS im * 4))
def s1 (st : Int) : Int := IntKind.wrap .i64 (st + 1)
def mvS (A F b : List Int) (op a p here st : Int) : (List Int × List Int × Int × List Int) ⊕ (Int × Int × Int × List Int) :=
  if op = 17 then (if p + 1 ≤ b.length then .inl (A.set a.toNat (rd1 b p.toNat), F, st, b) else .inr (11, p, st, b))
  else if op = 19 then (if p + 1 ≤ b.length then .inl (A, F, s1 st, wr1 b p.toNat (A.getD a.toNat 0)) else .inr (11, p, st, b))
  else if op = 18 then (if p % 4 = 0 then (if p + 4 ≤ b.length then .inl (A.set a.toNat (rd4 b p.toNat), F, st, b) else .inr (11, p, st, b)) else .inr (7, p, st, b))
  else if op = 20 then (if p % 4 = 0 then (if p + 4 ≤ b.length then .inl (A, F, s1 st, wr4 b p.toNat (A.getD a.toNat 0)) else .inr (11, p, st, b)) else .inr (7, p, st, b))
  else if op = 31 then
    (if 4 ≤ a then .inr (4, here, st, b) else if p % 8 = 0 then (if p + 4 ≤ b.length then (if p + 8 ≤ b.length then .inl (A, F.set a.toNat (bits .or .u64 (IntKind.wrap .u64 (rd4 b p.toNat)) (shl .u64 (IntKind.wrap .u64 (rd4 b (p + 4).toNat)) 32)), st, b) else .inr (11, p + 4, st, b)) else .inr (11, p, st, b)) else .inr (7, p, st, b))
  else
    (if 4 ≤ a then .inr (4, here, st, b) else if p % 8 = 0 then (if p + 4 ≤ b.length then (if p + 8 ≤ b.length then .inl (A, F, s1 (s1 st), wr4 (wr4 b p.toNat (IntKind.wrap .u32 (F.getD a.toNat 0))) (p + 4).toNat (IntKind.wrap .u32 (shr .u64 (F.getD a.toNat 0) 32))) else .inr (11, p + 4, s1 st, wr4 b p.toNat (IntKind.wrap .u32 (F.getD a.toNat 0)))) else .inr (11, p, st, b)) else .inr (7, p, st, b))
def toIntS (x : Int) : Int := (soft_ToInt.f x).getD 0
def fromIntS (x : Int) : Int := (soft_FromInt.f x).getD 0
def cmpS (x y fl : Int) : Int := (alu_Cmp.f x y fl).getD 0
def fltS (op x y : Int) : Int := ((alu_Float.f op x y).getD (0, none)).1
theorem toIntS_eq {x : Int} (h : 0 ≤ x ∧ x < 18446744073709551616) : soft_ToInt.f x = some (toIntS x) := by
  obtain ⟨x, rfl⟩ := Int.eq_ofNat_of_zero_le h.1
  obtain ⟨v, h⟩ := toInt_some x (by omega)
  rw [toIntS, h]; rfl
theorem fromIntS_eq (x : Int) : soft_FromInt.f x = some (fromIntS x) := rfl
theorem cmpS_eq (x y fl : Int) : alu_Cmp.f x y fl = some (cmpS x y fl) := by
  have h : ∃ v, alu_Cmp.f x y fl = some v := by
    rw [alu_Cmp.f, show soft_Cmp.f x y = some ((soft_Cmp.f x y).getD 0) from rfl, bg]
    repeat' split
    all_goals exact ⟨_, rfl⟩
  obtain ⟨v, h⟩ := h
  rw [cmpS, h]; rfl
theorem fltS_eq {op : Int} (h : 33 ≤ op ∧ op ≤ 37) (x y : Int) : alu_Float.f op x y = some (fltS op x y, none) := by
  have h : ∃ v, alu_Float.f op x y = some (v, none) := by
    rw [alu_Float.f]
    by_cases h1 : op = 33
    · rw [if_pos h1]; exact ⟨_, rfl⟩
    · rw [if_neg h1]
      by_cases h1 : op = 34
      · rw [if_pos h1]; exact ⟨_, rfl⟩
      · rw [if_neg h1]
        by_cases h1 : op = 35
        · rw [if_pos h1]; exact ⟨_, rfl⟩
        · rw [if_neg h1]
          by_cases h1 : op = 36
          · rw [if_pos h1]; exact ⟨_, rfl⟩
          · rw [if_neg h1, if_pos (show op = 37 by omega)]; exact ⟨_, rfl⟩
  obtain ⟨v, h⟩ := h
  rw [fltS, h]; rfl
def flS (A F : List Int) (fl op a bb here : Int) : (Int × Int) ⊕ (List Int × Int × List Int) :=
  if op = 39 then (if 4 ≤ bb then .inl (4, here) else .inr (A.set a.toNat (toIntS (F.getD bb.toNat 0)), fl, F))
  else if op = 40 then (if 4 ≤ a then .inl (4, here) else .inr (A, fl, F.set a.toNat (fromIntS (A.getD bb.toNat 0))))
  else if op = 38 then (if 4 ≤ a then .inl (4, here) else if 4 ≤ bb then .inl (4, here) else .inr (A, cmpS (F.getD a.toNat 0) (F.getD bb.toNat 0) fl, F))
  else (if 4 ≤ a then .inl (4, here) else if 4 ≤ bb then .inl (4, here) else .inr (A, fl, F.set a.toNat (fltS op (F.getD a.toNat 0) (F.getD bb.toNat 0))))
def lpS (A : List Int) (pc fl op a im : Int) : List Int × Int :=
  if op = 27 then (A.set 14 pc, jmpS pc im) else if op = 28 then (A, A.getD a.toNat 0)
  else if (takS op fl.toNat).1 = true then (A, jmpS pc im) else (A, pc)
def lyS (A : List Int) (fl op a bb im : Int) : List Int :=
  if op = 1 then A.set a.toNat (wS im) else if op = 2 then A.set a.toNat (shl .u32 (wS im) 16) else if op = 3 then A.set a.toNat (A.getD bb.toNat 0)
  else if op = 15 then A.set a.toNat (atS A bb im) else A.set a.toNat (bits .andNot .u32 fl 16)
def rkS (A : List Int) (fl op a bb here : Int) : (Int × Int) ⊕ (List Int × Int) :=
  match ansS fl.toNat (resS op (A.getD a.toNat 0).toNat (A.getD bb.toNat 0).toNat) with
  | (v, f, none) => .inr (A.set a.toNat v, f)
  | (_, _, some _) => .inl (8, here)
theorem told_flt {p : Int} : cpu_told.f (some 14) p = some (.inr (11, p)) := by
  rw [cpu_told.f, if_neg (by simp), show errors_Is.f (some 14) (some 14) = some true by kernel_rfl, bg, if_pos rfl]
  rfl
theorem mload_out {p n a6 a8 a4 a7 a9 a10 a11 a12 a13 a3 : Int} {A F b : List Int} (ha : 0 ≤ p ∧ p < 4294967296) (hn : 0 ≤ n ∧ n ≤ 4) (hl : ¬ p + n ≤ b.length) : cm_load.f p n A a3 a4 F a6 a7 a8 a9 a10 a11 a12 a13 b = some (.inr (11, p)) := by
  rw [cm_load.f, load_out ha hn (by omega), bg]; dsimp only; rw [told_flt, bg]
theorem mstore_out {p n v a8 a4 a5 a7 a9 a10 a11 a12 a13 a14 : Int} {A F b : List Int} (ha : 0 ≤ p ∧ p < 4294967296) (hn : 0 ≤ n ∧ n ≤ 4) (hl : ¬ p + n ≤ b.length) : cm_store.f p n v A a4 a5 F a7 a8 a9 a10 a11 a12 a13 a14 b = some (.inr (11, p, a14, b)) := by
  rw [cm_store.f, store_out ha hn (by omega), bg]; dsimp only; rw [told_flt, bg]
theorem mload1 {p a6 a8 a4 a7 a9 a10 a11 a12 a13 a3 : Int} {A F b : List Int} (hb : byt b) (ha : 0 ≤ p ∧ p < 4294967296) (hl : p + 1 ≤ b.length) : cm_load.f p 1 A a3 a4 F a6 a7 a8 a9 a10 a11 a12 a13 b = some (.inl (rd1 b p.toNat)) := by
  rw [cm_load.f, load1 hb ha hl, bg]; dsimp only; rw [told_ok, bg]
theorem mstore1 {p v a8 a4 a5 a7 a9 a10 a11 a12 a13 a14 : Int} {A F b : List Int} (ha : 0 ≤ p ∧ p < 4294967296) (hv : 0 ≤ v ∧ v < 4294967296) (hl : p + 1 ≤ b.length) : cm_store.f p 1 v A a4 a5 F a7 a8 a9 a10 a11 a12 a13 a14 b = some (.inl (s1 a14, wr1 b p.toNat v)) := by
  rw [cm_store.f, bstore1 ha hv hl, bg]; dsimp only; rw [told_ok, bg]; rfl
theorem mstore4s {p v a8 a4 a5 a7 a9 a10 a11 a12 a13 a14 : Int} {A F b : List Int} (ha : 0 ≤ p ∧ p < 4294967296) (hv : 0 ≤ v ∧ v < 4294967296) (hl : p + 4 ≤ b.length) : cm_store.f p 4 v A a4 a5 F a7 a8 a9 a10 a11 a12 a13 a14 b = some (.inl (s1 a14, wr4 b p.toNat v)) := mstore4 ha hv hl
theorem whole_at {p n : Int} (hn : 0 < n) (hp : 0 ≤ p) : cpu_whole.f p n = some (if p % n = 0 then .inr () else .inl (7, p)) := by
  rw [cpu_whole.f, if_pos (by omega), Int.tmod_eq_emod_of_nonneg hp]
  by_cases h : p % n = 0
  · rw [if_neg (fun q => q h), if_pos h]
  · rw [if_pos h, if_neg h]; rfl
theorem float_eq {k a1 a2 a4 a5 a6 a7 here a10 a11 a12 : Int} {A F b : List Int} : cm_float.f k A a1 a2 F a4 a5 a6 a7 here a10 a11 a12 b = some (if 4 ≤ k then .inl (4, here) else .inr k) := by
  rw [cm_float.f]
  by_cases h : 4 ≤ k
  · rw [if_pos h, if_pos h]; rfl
  · rw [if_neg h, if_neg h]
theorem at_eq {A F b : List Int} {bb pc fl a4 a5 im a8 a9 a10 a11 : Int} (hbb : 0 ≤ bb ∧ bb < 16) : cm_at.f A pc fl F a4 a5 bb im a8 a9 a10 a11 b = some (atS A bb im) := by
  rw [cm_at.f, if_pos (show 0 ≤ bb ∧ bb < ((16 : Nat) : Int) by omega), if_pos (show bb.toNat < 16 by omega)]; rfl
theorem at_bd (A : List Int) (bb im : Int) : 0 ≤ atS A bb im ∧ atS A bb im < 4294967296 := by rw [atS, wu32]; omega
def wds (A : List Int) : Prop := ∀ z ∈ A, 0 ≤ z ∧ z < 4294967296
theorem wds_getD {A : List Int} (h : wds A) (i : Nat) : 0 ≤ A.getD i 0 ∧ A.getD i 0 < 4294967296 := by
  by_cases h' : i < A.length
  · exact h _ (getD_mem A i 0 h')
  · rw [List.getD_eq_getElem?_getD, List.getElem?_eq_none (by omega)]; simp
def lws (A : List Int) : Prop := ∀ z ∈ A, 0 ≤ z ∧ z < 18446744073709551616
theorem lws_getD {A : List Int} (h : lws A) (i : Nat) : 0 ≤ A.getD i 0 ∧ A.getD i 0 < 18446744073709551616 := by
  by_cases h' : i < A.length
  · exact h _ (getD_mem A i 0 h')
  · rw [List.getD_eq_getElem?_getD, List.getElem?_eq_none (by omega)]; simp
theorem move_eq {A F b : List Int} {pc fl op a bb im here ev fe st : Int} (hop : 17 ≤ op ∧ op ≤ 20 ∨ op = 31 ∨ op = 32) (ha : 0 ≤ a ∧ a < 16) (hbb : 0 ≤ bb ∧ bb < 16) (hA : wds A) (hb : byt b) :
    cm_move.f A pc fl F op a bb im here ev fe st b = some (mvS A F b op a (atS A bb im) here st) := by
  have hp := at_bd A bb im
  have w : ∀ x : Int, 0 ≤ IntKind.wrap .u32 x ∧ IntKind.wrap .u32 x < 4294967296 := fun x => by rw [wu32]; omega
  have hv := wds_getD hA a.toNat
  have c1 : 0 ≤ a ∧ a < ((16 : Nat) : Int) := by omega
  have c2 : a.toNat < 16 := by omega
  rw [cm_move.f, at_eq hbb, bg]
  generalize atS A bb im = p at hp ⊢
  rw [mvS]
  by_cases o17 : op = 17
  · rw [if_pos o17, if_pos o17]
    by_cases hl : p + 1 ≤ (b.length : Int)
    · rw [mload1 hb hp hl, bg]; dsimp only; rw [if_pos c1, if_pos c2, if_pos hl]
    · rw [mload_out hp (by decide) hl, bg, if_neg hl]
  rw [if_neg o17, if_neg o17]
  by_cases o19 : op = 19
  · rw [if_pos o19, if_pos o19, if_pos c1, if_pos c2]
    by_cases hl : p + 1 ≤ (b.length : Int)
    · rw [mstore1 hp hv hl, bg, if_pos hl]
    · rw [mstore_out hp (by decide) hl, bg, if_neg hl]
  rw [if_neg o19, if_neg o19]
  by_cases o18 : op = 18
  · rw [if_pos o18, if_pos o18, whole_at (by decide) hp.1, bg]
    by_cases h4 : p % 4 = 0
    · rw [if_pos h4, if_pos h4]; dsimp only
      by_cases hl : p + 4 ≤ (b.length : Int)
      · rw [mload4 hb hp hl, bg]; dsimp only; rw [if_pos c1, if_pos c2, if_pos hl]
      · rw [mload_out hp (by decide) hl, bg, if_neg hl]
    · rw [if_neg h4, if_neg h4]
  rw [if_neg o18, if_neg o18]
  by_cases o20 : op = 20
  · rw [if_pos o20, if_pos o20, whole_at (by decide) hp.1, bg]
    by_cases h4 : p % 4 = 0
    · rw [if_pos h4, if_pos h4]; dsimp only; rw [if_pos c1, if_pos c2]
      by_cases hl : p + 4 ≤ (b.length : Int)
      · rw [mstore4s hp hv hl, bg, if_pos hl]
      · rw [mstore_out hp (by decide) hl, bg, if_neg hl]
    · rw [if_neg h4, if_neg h4]
  rw [if_neg o20, if_neg o20]
  by_cases o31 : op = 31
  · rw [if_pos o31, if_pos o31, float_eq, bg]
    by_cases hk : 4 ≤ a
    · rw [if_pos hk, if_pos hk]
    rw [if_neg hk, if_neg hk]; dsimp only; rw [whole_at (by decide) hp.1, bg]
    by_cases h8 : p % 8 = 0
    · rw [if_pos h8, if_pos h8]; dsimp only
      have e4 : IntKind.wrap .u32 (p + 4) = p + 4 := wu32_id (by omega)
      by_cases hl : p + 4 ≤ (b.length : Int)
      · rw [mload4 hb hp hl, bg, if_pos hl]; dsimp only; rw [e4]
        by_cases hl8 : p + 8 ≤ (b.length : Int)
        · rw [mload4 hb (by omega) (by omega), bg, if_pos hl8]; dsimp only; rw [if_pos (show 0 ≤ a ∧ a < ((4 : Nat) : Int) by omega), if_pos (show a.toNat < 4 by omega)]
        · rw [mload_out (by omega) (by decide) (by omega), bg, if_neg hl8]
      · rw [mload_out hp (by decide) hl, bg, if_neg hl]
    · rw [if_neg h8, if_neg h8]
  have o32 : op = 32 := by omega
  rw [if_neg o31, if_pos o32, if_neg o31, float_eq, bg]
  by_cases hk : 4 ≤ a
  · rw [if_pos hk, if_pos hk]
  rw [if_neg hk, if_neg hk]; dsimp only; rw [if_pos (show 0 ≤ a ∧ a < ((4 : Nat) : Int) by omega), if_pos (show a.toNat < 4 by omega), whole_at (by decide) hp.1, bg]
  by_cases h8 : p % 8 = 0
  · rw [if_pos h8, if_pos h8]; dsimp only
    have e4 : IntKind.wrap .u32 (p + 4) = p + 4 := wu32_id (by omega)
    by_cases hl : p + 4 ≤ (b.length : Int)
    · rw [mstore4s hp (w _) hl, bg, if_pos hl]; dsimp only; rw [e4]
      by_cases hl8 : p + 8 ≤ (b.length : Int)
      · rw [mstore4s (by omega) (w _) (by rw [wr4_len]; omega), bg, if_pos hl8]
      · rw [mstore_out (by omega) (by decide) (by rw [wr4_len]; omega), bg, if_neg hl8]
    · rw [mstore_out hp (by decide) hl, bg, if_neg hl]
  · rw [if_neg h8, if_neg h8]
theorem floats_eq {A F b : List Int} {pc fl op a bb im here ev fe st : Int} (hop : 33 ≤ op ∧ op ≤ 40) (ha : 0 ≤ a ∧ a < 16) (hbb : 0 ≤ bb ∧ bb < 16) (hF : lws F) :
    cm_floats.f A pc fl F op a bb im here ev fe st b = some (flS A F fl op a bb here) := by
  have a1 : 0 ≤ a ∧ a < ((16 : Nat) : Int) := by omega
  have a2 : a.toNat < 16 := by omega
  have b1 : 0 ≤ bb ∧ bb < ((16 : Nat) : Int) := by omega
  have b2 : bb.toNat < 16 := by omega
  rw [cm_floats.f, flS]
  by_cases o39 : op = 39
  · rw [if_pos o39, if_pos o39, float_eq, bg]
    by_cases hk : 4 ≤ bb
    · rw [if_pos hk, if_pos hk]
    rw [if_neg hk, if_neg hk]; dsimp only; rw [if_pos (show 0 ≤ bb ∧ bb < ((4 : Nat) : Int) by omega), if_pos (show bb.toNat < 4 by omega), toIntS_eq (lws_getD hF _), bg, if_pos a1, if_pos a2]
  rw [if_neg o39, if_neg o39]
  by_cases o40 : op = 40
  · rw [if_pos o40, if_pos o40, if_pos b1, float_eq, bg]
    by_cases hk : 4 ≤ a
    · rw [if_pos hk, if_pos hk]; dsimp only; rw [if_pos b2]
    rw [if_neg hk, if_neg hk]; dsimp only; rw [if_pos b2, fromIntS_eq, bg, if_pos (show 0 ≤ a ∧ a < ((4 : Nat) : Int) by omega), if_pos (show a.toNat < 4 by omega)]
  rw [if_neg o40, if_neg o40]
  by_cases o38 : op = 38
  · rw [if_pos o38, if_pos o38, float_eq, bg]
    by_cases hk : 4 ≤ a
    · rw [if_pos hk, if_pos hk]
    rw [if_neg hk, if_neg hk]; dsimp only; rw [if_pos (show 0 ≤ a ∧ a < ((4 : Nat) : Int) by omega), if_pos (show a.toNat < 4 by omega), float_eq, bg]
    by_cases hk' : 4 ≤ bb
    · rw [if_pos hk', if_pos hk']
    rw [if_neg hk', if_neg hk']; dsimp only; rw [if_pos (show 0 ≤ bb ∧ bb < ((4 : Nat) : Int) by omega), if_pos (show bb.toNat < 4 by omega), cmpS_eq, bg]
  rw [if_neg o38, if_neg o38, float_eq, bg]
  by_cases hk : 4 ≤ a
  · rw [if_pos hk, if_pos hk]
  rw [if_neg hk, if_neg hk]; dsimp only; rw [if_pos (show 0 ≤ a ∧ a < ((4 : Nat) : Int) by omega), if_pos (show a.toNat < 4 by omega), float_eq, bg]
  by_cases hk' : 4 ≤ bb
  · rw [if_pos hk', if_pos hk']
  rw [if_neg hk', if_neg hk']; dsimp only; rw [if_pos (show 0 ≤ bb ∧ bb < ((4 : Nat) : Int) by omega), if_pos (show bb.toNat < 4 by omega), fltS_eq (by omega), bg]; dsimp only; rw [if_neg (fun h => h rfl), if_pos (show 0 ≤ a ∧ a < ((4 : Nat) : Int) by omega), if_pos (show a.toNat < 4 by omega)]
theorem leap_eq {A F b : List Int} {pc fl op a bb im here ev fe st : Int} (hop : 21 ≤ op ∧ op ≤ 28) (ha : 0 ≤ a ∧ a < 16) (hfl : 0 ≤ fl ∧ fl < 4294967296) :
    cm_leap.f A pc fl F op a bb im here ev fe st b = some (.inl (lpS A pc fl op a im)) := by
  obtain ⟨f, rfl⟩ := Int.eq_ofNat_of_zero_le hfl.1
  rw [cm_leap.f, lpS]
  by_cases o27 : op = 27
  · rw [if_pos o27, if_pos o27]; rfl
  rw [if_neg o27, if_neg o27]
  by_cases o28 : op = 28
  · rw [if_pos o28, if_pos o28, if_pos (show 0 ≤ a ∧ a < ((16 : Nat) : Int) by omega), if_pos (show a.toNat < 16 by omega)]
  rw [if_neg o28, if_neg o28, Taken_eq op f (by omega), bg, tn]
  have hn : (takS op f).2 = none := by
    rw [takS]
    by_cases h1 : op = 21
    · rw [if_pos h1]
    rw [if_neg h1]
    by_cases h1 : op = 22
    · rw [if_pos h1]
    rw [if_neg h1]
    by_cases h1 : op = 23
    · rw [if_pos h1]
    rw [if_neg h1]
    by_cases h1 : op = 24
    · rw [if_pos h1]
    rw [if_neg h1]
    by_cases h1 : op = 25
    · rw [if_pos h1]
    rw [if_neg h1, if_pos (show op = 26 by omega)]
  rw [if_neg (fun h => h hn)]
  by_cases ht : (takS op f).1 = true
  · rw [if_pos ht, if_pos ht]; rfl
  · rw [if_neg ht, if_neg ht]
theorem reckon_eq {A F b : List Int} {pc fl op a bb im here ev fe st : Int} (ha : 0 ≤ a ∧ a < 16) (hbb : 0 ≤ bb ∧ bb < 16) (hA : wds A) (hfl : 0 ≤ fl ∧ fl < 4294967296) :
    cm_reckon.f A pc fl F op a bb im here ev fe st b = some (rkS A fl op a bb here) := by
  have a1 : 0 ≤ a ∧ a < ((16 : Nat) : Int) := by omega
  have a2 : a.toNat < 16 := by omega
  have b1 : 0 ≤ bb ∧ bb < ((16 : Nat) : Int) := by omega
  have b2 : bb.toNat < 16 := by omega
  have ga := wds_getD hA a.toNat
  have gb := wds_getD hA bb.toNat
  rw [cm_reckon.f, if_pos a1, if_pos a2, if_pos b1, if_pos b2, rkS]
  generalize A.getD a.toNat 0 = x at ga ⊢
  generalize A.getD bb.toNat 0 = y at gb ⊢
  obtain ⟨x, rfl⟩ := Int.eq_ofNat_of_zero_le ga.1
  obtain ⟨y, rfl⟩ := Int.eq_ofNat_of_zero_le gb.1
  obtain ⟨f, rfl⟩ := Int.eq_ofNat_of_zero_le hfl.1
  rw [Do_eq op x y f (by omega) (by omega) (by omega), bg, tn, tn, tn]
  cases h : resS op x y with
  | inl r => rw [ansS]; dsimp only; rw [if_neg (fun h => h rfl), if_pos a1, if_pos a2]
  | inr e => rw [ansS]; dsimp only; rw [if_pos (by simp)]; rfl
theorem lay_eq {A F b : List Int} {pc fl op a bb im here ev fe st : Int} (hop : op = 1 ∨ op = 2 ∨ op = 3 ∨ op = 15 ∨ op = 41) (ha : 0 ≤ a ∧ a < 16) (hbb : 0 ≤ bb ∧ bb < 16) :
    cm_lay.f A pc fl F op a bb im here ev fe st b = some (lyS A fl op a bb im) := by
  have a1 : 0 ≤ a ∧ a < ((16 : Nat) : Int) := by omega
  have a2 : a.toNat < 16 := by omega
  have b1 : 0 ≤ bb ∧ bb < ((16 : Nat) : Int) := by omega
  have b2 : bb.toNat < 16 := by omega
  rw [cm_lay.f, lyS]
  by_cases h : op = 1
  · rw [if_pos h, if_pos h, if_pos a1, if_pos a2]; rfl
  rw [if_neg h, if_neg h]
  by_cases h : op = 2
  · rw [if_pos h, if_pos h, if_pos a1, if_pos a2]; rfl
  rw [if_neg h, if_neg h]
  by_cases h : op = 3
  · rw [if_pos h, if_pos h, if_pos b1, if_pos b2, if_pos a1, if_pos a2]
  rw [if_neg h, if_neg h]
  by_cases h : op = 15
  · rw [if_pos h, if_pos h, at_eq hbb, bg, if_pos a1, if_pos a2]
  rw [if_neg h, if_neg h, if_pos (show op = 41 by omega), if_pos a1, if_pos a2]
def doS (A : List Int) (pc fl : Int) (F : List Int) (op a bb im here st : Int) (b : List Int) : (List Int × Int × Int × List Int × Int × Int × List Int) ⊕ (Int × Int × Int × List Int) :=
  if op = 0 then .inl (A, pc, fl, F, 0, st, b)
  else if op = 29 then .inl (A, pc, fl, F, 1, st, b)
  else if op = 30 then .inl (A, pc, fl, F, 2, st, b)
  else if op = 1 ∨ op = 2 ∨ op = 3 ∨ op = 15 ∨ op = 41 then .inl (lyS A fl op a bb im, pc, fl, F, 0, st, b)
  else if 4 ≤ op ∧ op ≤ 14 ∨ op = 16 then (match rkS A fl op a bb here with | .inl t => .inr (t.1, t.2, st, b) | .inr t => .inl (t.1, pc, t.2, F, 0, st, b))
  else if 17 ≤ op ∧ op ≤ 20 ∨ op = 31 ∨ op = 32 then (match mvS A F b op a (atS A bb im) here st with | .inl t => .inl (t.1, pc, fl, t.2.1, 0, t.2.2.1, t.2.2.2) | .inr t => .inr t)
  else if 21 ≤ op ∧ op ≤ 28 then .inl ((lpS A pc fl op a im).1, (lpS A pc fl op a im).2, fl, F, 0, st, b)
  else (match flS A F fl op a bb here with | .inl t => .inr (t.1, t.2, st, b) | .inr t => .inl (t.1, pc, t.2.1, t.2.2, 0, st, b))
theorem do_eq {A F b : List Int} {pc fl op a bb im here fe st : Int} (hop : 0 ≤ op ∧ op < 42) (ha : 0 ≤ a ∧ a < 16) (hbb : 0 ≤ bb ∧ bb < 16) (hA : wds A) (hF : lws F) (hfl : 0 ≤ fl ∧ fl < 4294967296) (hb : byt b) :
    cm_do.f A pc fl F op a bb im here 0 fe st b = some (doS A pc fl F op a bb im here st b) := by
  rw [cm_do.f, doS]
  by_cases h : op = 0
  · rw [if_pos h, if_pos h]
  rw [if_neg h, if_neg h]
  by_cases h29 : op = 29
  · rw [if_pos h29, if_pos h29]
  rw [if_neg h29, if_neg h29]
  by_cases h30 : op = 30
  · rw [if_pos h30, if_pos h30]
  rw [if_neg h30, if_neg h30]
  by_cases hl : op = 1 ∨ op = 2 ∨ op = 3 ∨ op = 15 ∨ op = 41
  · rw [if_pos hl, lay_eq hl ha hbb, bg]
    rcases hl with rfl | rfl | rfl | rfl | rfl
    · rw [if_pos rfl]
    · rw [if_neg (by decide), if_pos rfl]
    · rw [if_neg (by decide), if_neg (by decide), if_pos rfl]
    · rw [if_neg (by decide), if_neg (by decide), if_neg (by decide), if_pos rfl]
    · rw [if_neg (by decide), if_neg (by decide), if_neg (by decide), if_neg (by decide), if_pos rfl]
  rw [if_neg hl, if_neg (show ¬ op = 1 by omega), if_neg (show ¬ op = 2 by omega), if_neg (show ¬ op = 3 by omega), if_neg (show ¬ op = 15 by omega), if_neg (show ¬ op = 41 by omega), if_pos (show op ≥ 4 by omega)]
  by_cases hk : 4 ≤ op ∧ op ≤ 14 ∨ op = 16
  · rw [if_pos hk]
    by_cases h14 : op ≤ 14
    · rw [if_pos h14, reckon_eq ha hbb hA hfl, bg]
      cases rkS A fl op a bb here <;> rfl
    · rw [if_neg h14, if_pos (show op = 16 by omega), reckon_eq ha hbb hA hfl, bg]
      cases rkS A fl op a bb here <;> rfl
  rw [if_neg hk, if_neg (show ¬ op ≤ 14 by omega), if_neg (show ¬ op = 16 by omega), if_pos (show op ≥ 17 by omega)]
  by_cases hm : 17 ≤ op ∧ op ≤ 20 ∨ op = 31 ∨ op = 32
  · rw [if_pos hm]
    by_cases h20 : op ≤ 20
    · rw [if_pos h20, move_eq hm ha hbb hA hb, bg]
      cases mvS A F b op a (atS A bb im) here st <;> rfl
    · rw [if_neg h20]
      by_cases h31 : op = 31
      · rw [if_pos h31, move_eq hm ha hbb hA hb, bg]
        cases mvS A F b op a (atS A bb im) here st <;> rfl
      · rw [if_neg h31, if_pos (show op = 32 by omega), move_eq hm ha hbb hA hb, bg]
        cases mvS A F b op a (atS A bb im) here st <;> rfl
  rw [if_neg hm, if_neg (show ¬ op ≤ 20 by omega), if_neg (show ¬ op = 31 by omega), if_neg (show ¬ op = 32 by omega), if_pos (show op ≥ 21 by omega)]
  by_cases h28 : op ≤ 28
  · rw [if_pos h28, if_pos (show 21 ≤ op ∧ op ≤ 28 by omega), leap_eq (by omega) ha hfl, bg]
  · rw [if_neg h28, if_neg (show ¬ (21 ≤ op ∧ op ≤ 28) by omega), floats_eq (by omega) ha hbb hF, bg]
    cases flS A F fl op a bb here <;> rfl
def opS (v : Int) : Int := v / 16777216
def raS (v : Int) : Int := v / 1048576 % 16
def rbS (v : Int) : Int := v / 65536 % 16
def imS (v : Int) : Int := IntKind.wrap .i64 (IntKind.wrap .i16 v)
theorem and15 (x : Nat) (h : x < 4294967296) : bits .and .u32 (x : Int) 15 = ((x % 16 : Nat) : Int) := by
  have := and32 x 15 h (by omega)
  rw [show x &&& 15 = x % 16 from Nat.and_two_pow_sub_one_eq_mod x 4] at this
  exact this
theorem dec_eq {v : Int} (hv : 0 ≤ v ∧ v < 4294967296) (ho : ¬ 42 ≤ opS v) : isa_Decode.f v = some (opS v, raS v, rbS v, imS v, none) := by
  obtain ⟨v, rfl⟩ := Int.eq_ofNat_of_zero_le hv.1
  have hs : ∀ n : Nat, n ≤ 32 → shr .u32 (v : Int) n = ((v / 2 ^ n : Nat) : Int) := fun n hn => down_eq v n hn
  have h24 : shr .u32 (v : Int) 24 = ((v / 16777216 : Nat) : Int) := hs 24 (by omega)
  have h20 : shr .u32 (v : Int) 20 = ((v / 1048576 : Nat) : Int) := hs 20 (by omega)
  have h16 : shr .u32 (v : Int) 16 = ((v / 65536 : Nat) : Int) := hs 16 (by omega)
  unfold opS at ho; rw [isa_Decode.f, h24, h20, h16, and15 _ (by omega), and15 _ (by omega), wi64 (by omega) (by omega), wi64 (by omega) (by omega), wi64 (by omega) (by omega), if_neg (by omega)]; rfl
theorem dec_bad {v : Int} (hv : 0 ≤ v ∧ v < 4294967296) (ho : 42 ≤ opS v) : isa_Decode.f v = some (0, 0, 0, 0, some 22) := by
  obtain ⟨v, rfl⟩ := Int.eq_ofNat_of_zero_le hv.1
  have h24 : shr .u32 (v : Int) 24 = ((v / 16777216 : Nat) : Int) := down_eq v 24 (by omega)
  unfold opS at ho; rw [isa_Decode.f, h24, wi64 (by omega) (by omega), if_pos (by omega)]
theorem op_bd {v : Int} (hv : 0 ≤ v ∧ v < 4294967296) : 0 ≤ opS v ∧ 0 ≤ raS v ∧ raS v < 16 ∧ 0 ≤ rbS v ∧ rbS v < 16 := by
  unfold opS raS rbS; omega
theorem rd4_bd {b : List Int} (hb : byt b) (p : Nat) : 0 ≤ rd4 b p ∧ rd4 b p < 4294967296 := by
  have g3 := byt_getD hb (p + 3)
  have g2 := byt_getD hb (p + 2)
  have g1 := byt_getD hb (p + 1)
  have g0 := byt_getD hb p
  unfold rd4; omega
def stepS (A : List Int) (pc fl : Int) (F : List Int) (fe st : Int) (b : List Int) : List Int × Int × Int × List Int × Int × Int × Int × Int × Int × List Int :=
  if 32 ≤ fl ∨ ¬ pc % 4 = 0 then (A, pc, fl, F, 4, 7, pc, fe, st, b)
  else if ¬ pc + 4 ≤ b.length then (A, pc, fl, F, 4, 11, pc, s1 fe, st, b)
  else if 42 ≤ opS (rd4 b pc.toNat) then (A, pc, fl, F, 4, 4, pc, s1 fe, st, b)
  else match doS A (IntKind.wrap .u32 (pc + 4)) fl F (opS (rd4 b pc.toNat)) (raS (rd4 b pc.toNat)) (rbS (rd4 b pc.toNat)) (imS (rd4 b pc.toNat)) pc st b with
    | .inl t => (t.1, t.2.1, t.2.2.1, t.2.2.2.1, (if t.2.2.2.2.1 = 0 ∧ ¬ bits .and .u32 t.2.2.1 16 = 0 then 3 else t.2.2.2.2.1), 0, 0, s1 fe, t.2.2.2.2.2.1, t.2.2.2.2.2.2)
    | .inr t => (A, pc, fl, F, 4, t.1, t.2.1, s1 fe, t.2.2.1, t.2.2.2)
theorem check_bad {A F : List Int} {pc fl : Int} (h : 32 ≤ fl) : regs_Check.f A pc fl F = some (some 22) := by rw [regs_Check.f, if_pos (by omega)]
theorem fetch_out {p fe st : Int} {b : List Int} (ha : 0 ≤ p ∧ p < 4294967296) (hl : ¬ p + 4 ≤ b.length) : halterlaw12_board_Fetch.f p fe st b = some (0, some 14, s1 fe) := by
  rw [halterlaw12_board_Fetch.f, load_out ha (by decide) (by omega), bg]; rfl
theorem step_eq {A F b : List Int} {pc fl fe st : Int} (hA : wds A) (hF : lws F) (hpc : 0 ≤ pc ∧ pc < 4294967296) (hfl : 0 ≤ fl ∧ fl < 4294967296) (hb : byt b) :
    cpu_Step.f A pc fl F fe st b = some (stepS A pc fl F fe st b) := by
  rw [stepS]
  by_cases h1 : 32 ≤ fl
  · rw [if_pos (Or.inl h1), cpu_Step.f, check_bad h1, bg, if_pos (by simp)]
  by_cases h2 : pc % 4 = 0
  · rw [if_neg (by omega)]
    by_cases h3 : pc + 4 ≤ (b.length : Int)
    · rw [if_neg (fun h => h h3)]
      have hv := rd4_bd hb pc.toNat
      by_cases h4 : 42 ≤ opS (rd4 b pc.toNat)
      · rw [if_pos h4, cpu_Step.f, check_ok (by omega), bg, if_neg (by simp), cm_run.f, whole_ok hpc.1 h2, bg]; dsimp only; rw [fetch_ok hb hpc h3, bg]; dsimp only; rw [told_ok, bg]; dsimp only; rw [dec_bad hv h4, bg]; dsimp only; rw [if_pos (by simp)]; rfl
      · rw [if_neg h4]
        obtain ⟨o1, o2, o3, o4, o5⟩ := op_bd hv
        have hd := do_eq (A := A) (F := F) (b := b) (pc := IntKind.wrap .u32 (pc + 4)) (fl := fl) (im := imS (rd4 b pc.toNat)) (here := pc) (fe := IntKind.wrap .i64 (fe + 1)) (st := st) ⟨o1, by omega⟩ ⟨o2, o3⟩ ⟨o4, o5⟩ hA hF hfl hb
        cases hr : doS A (IntKind.wrap .u32 (pc + 4)) fl F (opS (rd4 b pc.toNat)) (raS (rd4 b pc.toNat)) (rbS (rd4 b pc.toNat)) (imS (rd4 b pc.toNat)) pc st b with
        | inl t => rw [hr] at hd; exact step_do (by omega) hpc h2 hb h3 (dec_eq hv h4) hd
        | inr t => rw [hr] at hd; exact step_pan (by omega) hpc h2 hb h3 (dec_eq hv h4) hd
    · rw [if_pos h3, cpu_Step.f, check_ok (by omega), bg, if_neg (by simp), cm_run.f, whole_ok hpc.1 h2, bg]; dsimp only; rw [fetch_out hpc h3, bg]; dsimp only; rw [told_flt, bg]; rfl
  · rw [if_pos (Or.inr h2), cpu_Step.f, check_ok (by omega), bg, if_neg (by simp), cm_run.f, whole_at (by decide) hpc.1, if_neg h2, bg]; rfl
theorem s1_0 : s1 0 = 1 := by decide
theorem s1_1 : s1 1 = 2 := by decide
set_option maxHeartbeats 4000000 in
theorem mv_st {A F b : List Int} {op a p here : Int} (hop : 17 ≤ op ∧ op ≤ 20 ∨ op = 31 ∨ op = 32) :
    (∀ t, mvS A F b op a p here 0 = .inl t → (t.2.2.1 = 0 → t.2.2.2 = b) ∧ (t.2.2.1 = 0 ∨ op = 19 ∨ op = 20 ∨ op = 32)) ∧ (∀ t, mvS A F b op a p here 0 = .inr t → (t.2.2.1 = 0 → t.2.2.2 = b) ∧ (t.2.2.1 = 0 ∨ op = 19 ∨ op = 20 ∨ op = 32)) := by
  rw [mvS, s1_0, s1_1]; refine ⟨fun t h => ?_, fun t h => ?_⟩
  all_goals
    repeat' split at h
    all_goals (cases h <;> first | exact ⟨fun _ => rfl, .inl rfl⟩ | exact ⟨fun h => absurd (show (1 : Int) = 0 from h) (by decide), .inr (by omega)⟩ | exact ⟨fun h => absurd (show (2 : Int) = 0 from h) (by decide), .inr (by omega)⟩)
theorem do_inl {A F b : List Int} {pc fl op a bb im here : Int} {t : List Int × Int × Int × List Int × Int × Int × List Int} (h : doS A pc fl F op a bb im here 0 b = .inl t) :
    (t.2.2.2.2.1 = 0 ∨ t.2.2.2.2.1 = 1 ∨ t.2.2.2.2.1 = 2) ∧ (t.2.2.2.2.2.1 = 0 → t.2.2.2.2.2.2 = b) ∧ (t.2.2.2.2.2.1 = 0 ∨ op = 19 ∨ op = 20 ∨ op = 32) := by
  rw [doS] at h
  split at h
  · cases h; exact ⟨.inl rfl, fun _ => rfl, .inl rfl⟩
  split at h
  · cases h; exact ⟨.inr (.inl rfl), fun _ => rfl, .inl rfl⟩
  split at h
  · cases h; exact ⟨.inr (.inr rfl), fun _ => rfl, .inl rfl⟩
  split at h
  · cases h; exact ⟨.inl rfl, fun _ => rfl, .inl rfl⟩
  split at h
  · split at h
    · cases h
    · cases h; exact ⟨.inl rfl, fun _ => rfl, .inl rfl⟩
  split at h
  · rename_i hm
    split at h
    · rename_i u hu
      cases h
      have := (mv_st hm).1 _ hu
      exact ⟨.inl rfl, this.1, this.2⟩
    · cases h
  split at h
  · cases h; exact ⟨.inl rfl, fun _ => rfl, .inl rfl⟩
  split at h
  · cases h
  · cases h; exact ⟨.inl rfl, fun _ => rfl, .inl rfl⟩
theorem do_inr {A F b : List Int} {pc fl op a bb im here : Int} {t : Int × Int × Int × List Int} (h : doS A pc fl F op a bb im here 0 b = .inr t) :
    (t.2.2.1 = 0 → t.2.2.2 = b) ∧ (t.2.2.1 = 0 ∨ op = 19 ∨ op = 20 ∨ op = 32) := by
  rw [doS] at h
  split at h
  · cases h
  split at h
  · cases h
  split at h
  · cases h
  split at h
  · cases h
  split at h
  · split at h
    · cases h; exact ⟨fun _ => rfl, .inl rfl⟩
    · cases h
  split at h
  · rename_i hm
    split at h
    · cases h
    · rename_i u hu
      cases h
      exact (mv_st hm).2 _ hu
  split at h
  · cases h
  split at h
  · cases h; exact ⟨fun _ => rfl, .inl rfl⟩
  · cases h
theorem step_says (A : List Int) (pc fl : Int) (F b : List Int) :
    (stepS A pc fl F 0 0 b).2.2.2.2.2.2.2.1 ≤ 1 ∧ ((stepS A pc fl F 0 0 b).2.2.2.2.1 = 4 → (stepS A pc fl F 0 0 b).1 = A ∧ (stepS A pc fl F 0 0 b).2.1 = pc ∧ (stepS A pc fl F 0 0 b).2.2.1 = fl ∧ (stepS A pc fl F 0 0 b).2.2.2.1 = F)
    ∧ ((stepS A pc fl F 0 0 b).2.2.2.2.2.2.2.2.1 = 0 → (stepS A pc fl F 0 0 b).2.2.2.2.2.2.2.2.2 = b)
    ∧ (fl ≤ 31 ∧ pc % 4 = 0 ∧ pc + 4 ≤ b.length → (stepS A pc fl F 0 0 b).2.2.2.2.2.2.2.2.1 = 0 ∨ opS (rd4 b pc.toNat) = 19 ∨ opS (rd4 b pc.toNat) = 20 ∨ opS (rd4 b pc.toNat) = 32)
    ∧ (¬ (fl ≤ 31 ∧ pc % 4 = 0 ∧ pc + 4 ≤ b.length) → (stepS A pc fl F 0 0 b).2.2.2.2.1 = 4 ∧ (stepS A pc fl F 0 0 b).2.2.2.2.2.2.2.2.1 = 0) := by
  rw [stepS, s1_0]
  by_cases h1 : 32 ≤ fl ∨ ¬ pc % 4 = 0
  · rw [if_pos h1]; exact ⟨show (0 : Int) ≤ 1 by decide, fun _ => ⟨rfl, rfl, rfl, rfl⟩, fun _ => rfl, fun h => by omega, fun _ => ⟨rfl, rfl⟩⟩
  rw [if_neg h1]
  by_cases h2 : pc + 4 ≤ (b.length : Int)
  · rw [if_neg (fun h => h h2)]
    have hc : fl ≤ 31 ∧ pc % 4 = 0 ∧ pc + 4 ≤ (b.length : Int) := ⟨by omega, by omega, h2⟩
    by_cases h3 : 42 ≤ opS (rd4 b pc.toNat)
    · rw [if_pos h3]; exact ⟨show (1 : Int) ≤ 1 by decide, fun _ => ⟨rfl, rfl, rfl, rfl⟩, fun _ => rfl, fun _ => .inl rfl, fun h => absurd hc h⟩
    rw [if_neg h3]
    cases hr : doS A (IntKind.wrap .u32 (pc + 4)) fl F (opS (rd4 b pc.toNat)) (raS (rd4 b pc.toNat)) (rbS (rd4 b pc.toNat)) (imS (rd4 b pc.toNat)) pc 0 b with
    | inl t =>
      obtain ⟨k1, k2, k3⟩ := do_inl hr
      refine ⟨show (1 : Int) ≤ 1 by decide, fun h => ?_, k2, fun _ => k3, fun h => absurd hc h⟩
      dsimp only at h
      split at h
      · omega
      · omega
    | inr t =>
      obtain ⟨k2, k3⟩ := do_inr hr
      exact ⟨show (1 : Int) ≤ 1 by decide, fun _ => ⟨rfl, rfl, rfl, rfl⟩, k2, fun _ => k3, fun h => absurd hc h⟩
  · rw [if_pos h2]; exact ⟨show (1 : Int) ≤ 1 by decide, fun _ => ⟨rfl, rfl, rfl, rfl⟩, fun _ => rfl, fun h => by omega, fun _ => ⟨rfl, rfl⟩⟩
theorem rl_step {l : List Int} (hb : byt l) {n : Nat} {v x : Int} (hv : 0 ≤ v ∧ v < 16777216) (hx : 0 ≤ x ∧ x < 4) (hl : l.length = 4) :
    halterref01_Load.l0 l (n + 1) v x = halterref01_Load.l0 l n (256 * v + l.getD x.toNat 0) (x - 1) := by
  have g := byt_getD hb x.toNat
  rw [halterref01_Load.l0, if_pos (show x ≥ 0 by omega), if_pos (show 0 ≤ x ∧ x < ((l.length : Nat) : Int) by omega)]
  generalize l.getD x.toNat 0 = y at g ⊢
  rw [wi64 (x := 256 * v) (by omega) (by omega), wi64 (x := y) (by omega) (by omega), wi64 (x := 256 * v + y) (by omega) (by omega), wi64 (x := x - 1) (by omega) (by omega)]
theorem cutD (b : List Int) (p i : Nat) (h : i < 4) : (List.take 4 (List.drop p b)).getD i 0 = b.getD (p + i) 0 := by
  rw [List.getD_eq_getElem?_getD, List.getD_eq_getElem?_getD, List.getElem?_take_of_lt h, List.getElem?_drop]
theorem rload_eq {b : List Int} (hb : byt b) (p : Nat) (hl : p + 4 ≤ b.length) : halterref01_Load.f (List.take 4 (List.drop p b)) = some (rd4 b p, 0) := by
  obtain ⟨m, hm⟩ := fuel6
  have hX : (List.take 4 (List.drop p b)).length = 4 := by rw [List.length_take, List.length_drop]; omega
  have hbX : byt (List.take 4 (List.drop p b)) := fun z hz => hb z (List.mem_of_mem_drop (List.mem_of_mem_take hz))
  have c0 := cutD b p 0 (by omega)
  have c1 := cutD b p 1 (by omega)
  have c2 := cutD b p 2 (by omega)
  have c3 := cutD b p 3 (by omega)
  generalize List.take 4 (List.drop p b) = X at hX hbX c0 c1 c2 c3 ⊢
  have g0 := byt_getD hb p
  have g1 := byt_getD hb (p + 1)
  have g2 := byt_getD hb (p + 2)
  have g3 := byt_getD hb (p + 3)
  have hv := rd4_bd hb p
  rw [halterref01_Load.f, hX, if_pos (show ¬ ((4 : Nat) : Int) = 1 by decide), if_pos (show ¬ ((4 : Nat) : Int) = 2 by decide), if_neg (show ¬ ¬ ((4 : Nat) : Int) = 4 by decide), hm, show IntKind.wrap .i64 (((4 : Nat) : Int) - 1) = 3 by decide]
  rw [rl_step hbX (by omega) (by omega) hX, show Int.toNat 3 = 3 from rfl, c3, show (3 : Int) - 1 = 2 by decide, rl_step hbX (by omega) (by omega) hX, show Int.toNat 2 = 2 from rfl, c2, show (2 : Int) - 1 = 1 by decide, rl_step hbX (by omega) (by omega) hX, show Int.toNat 1 = 1 from rfl, c1, show (1 : Int) - 1 = 0 by decide, rl_step hbX (by omega) (by omega) hX, show Int.toNat 0 = 0 from rfl, c0, show (0 : Int) - 1 = -1 by decide, halterref01_Load.l0, if_neg (by decide), bg]
  rw [show (256 : Int) * 0 + b.getD (p + 3) 0 = b.getD (p + 3) 0 by omega]
  rw [show 256 * (256 * (256 * b.getD (p + 3) 0 + b.getD (p + 2) 0) + b.getD (p + 1) 0) + b.getD (p + 0) 0 = rd4 b p from rfl, wu32_id hv]
theorem wi16 (x : Int) : IntKind.wrap .i16 x = (x + 32768) % 65536 - 32768 := by
  simp [IntKind.wrap, IntKind.bits, IntKind.signed]
  omega
theorem rdec_eq {v : Int} (hv : 0 ≤ v ∧ v < 4294967296) : halterref08_Decode.f v = some (if 42 ≤ opS v then (0, 0, 0, 0, 22) else (opS v, raS v, rbS v, imS v, 0)) := by
  unfold opS raS rbS imS; rw [halterref08_Decode.f, wi64 (x := v) (by omega) (by omega), Int.tmod_eq_emod_of_nonneg hv.1, Int.tdiv_eq_ediv_of_nonneg hv.1, Int.tdiv_eq_ediv_of_nonneg hv.1, Int.tdiv_eq_ediv_of_nonneg hv.1, wi64 (x := v / 16777216) (by omega) (by omega), wi64 (x := v / 1048576) (by omega) (by omega), wi64 (x := v / 65536) (by omega) (by omega), Int.tmod_eq_emod_of_nonneg (by omega), Int.tmod_eq_emod_of_nonneg (by omega), wi16]
  by_cases h : v % 65536 ≥ 32768
  · rw [if_pos h, wi64 (x := v % 65536 - 65536) (by omega) (by omega)]
    by_cases g : v / 16777216 > 41
    · rw [if_pos g, if_pos (by omega)]
    · rw [if_neg g, if_neg (by omega), wi64 (by omega) (by omega)]; rw [show (v + 32768) % 65536 - 32768 = v % 65536 - 65536 by omega]
  · rw [if_neg h]
    by_cases g : v / 16777216 > 41
    · rw [if_pos g, if_pos (by omega)]
    · rw [if_neg g, if_neg (by omega), wi64 (by omega) (by omega)]; rw [show (v + 32768) % 65536 - 32768 = v % 65536 by omega]
theorem laid_byt (l : List Int) : byt (l.flatMap wb) := by
  intro z hz; rw [List.mem_flatMap] at hz
  obtain ⟨v, _, hz⟩ := hz
  simp only [wb, List.mem_cons, List.not_mem_nil, or_false] at hz
  rcases hz with rfl | rfl | rfl | rfl <;> omega
theorem laid_len (l : List Int) : (l.flatMap wb).length = 4 * l.length := by
  induction l with
  | nil => rfl
  | cons x xs ih => rw [List.flatMap_cons, List.length_append, ih, List.length_cons, wb_len]; omega
theorem CpuFails_ {a0 a1 a4 : List Int} {a2 a3 : Int} (hw : ∀ z ∈ a0, 0 ≤ z ∧ z < 4294967296) (hA : wds a1) (hF : lws a4) (hpc : 0 ≤ a2 ∧ a2 < 4294967296) (hfl : 0 ≤ a3 ∧ a3 < 4294967296) : halterlaw12_CpuFails.f a0 a1 a2 a3 a4 = some true := by
  rw [halterlaw12_CpuFails.f, laid_eq hw, bg, bg]; dsimp only
  have hB := laid_byt (a0.take 64)
  have hL := laid_len (a0.take 64)
  rw [List.length_take] at hL
  generalize (a0.take 64).flatMap wb = B at hB hL ⊢
  have hL : B.length ≤ 256 := by omega
  rw [if_pos ⟨⟨rfl, rfl⟩, by omega, by omega⟩, step_eq hA hF hpc hfl hB, bg, bg]
  have K := step_says a1 a2 a3 a4 B
  generalize stepS a1 a2 a3 a4 0 0 B = R at K ⊢
  obtain ⟨k1, k2, k3, k4, k5⟩ := K
  rw [if_neg (fun h => h ⟨rfl, rfl, rfl, rfl⟩), if_neg (fun h => h ⟨rfl, rfl, rfl⟩), if_neg (fun h => h rfl), if_neg (by omega)]
  have e1 : Int.tmod a2 4 = a2 % 4 := Int.tmod_eq_emod_of_nonneg hpc.1
  have e2 : IntKind.wrap .i64 (IntKind.wrap .i64 a2 + 4) = a2 + 4 := by rw [wi64 (x := a2) (by omega) (by omega), wi64 (by omega) (by omega)]
  by_cases hc : a3 ≤ 31 ∧ a2 % 4 = 0 ∧ a2 + 4 ≤ B.length
  · have k4 := k4 hc
    have e3 : IntKind.wrap .u32 (a2 + 4) = a2 + 4 := wu32_id (by omega)
    have e4 : (a2 + 4).toNat - a2.toNat = 4 := by omega
    have hv := rd4_bd hB a2.toNat
    have hr := rload_eq hB a2.toNat (by omega)
    have hd := rdec_eq hv
    have hop : R.2.2.2.2.2.2.2.2.1 = 0 ∨ (if 42 ≤ opS (rd4 B a2.toNat) then ((0, 0, 0, 0, 22) : Int × Int × Int × Int × Int) else (opS (rd4 B a2.toNat), raS (rd4 B a2.toNat), rbS (rd4 B a2.toNat), imS (rd4 B a2.toNat), 0)).1 = 19
      ∨ (if 42 ≤ opS (rd4 B a2.toNat) then ((0, 0, 0, 0, 22) : Int × Int × Int × Int × Int) else (opS (rd4 B a2.toNat), raS (rd4 B a2.toNat), rbS (rd4 B a2.toNat), imS (rd4 B a2.toNat), 0)).1 = 20 ∨ (if 42 ≤ opS (rd4 B a2.toNat) then ((0, 0, 0, 0, 22) : Int × Int × Int × Int × Int) else (opS (rd4 B a2.toNat), raS (rd4 B a2.toNat), rbS (rd4 B a2.toNat), imS (rd4 B a2.toNat), 0)).1 = 32 := by
      rcases k4 with h | h
      · exact .inl h
      · rw [if_neg (show ¬ 42 ≤ opS (rd4 B a2.toNat) by omega)]; exact .inr h
    generalize (if 42 ≤ opS (rd4 B a2.toNat) then ((0, 0, 0, 0, 22) : Int × Int × Int × Int × Int) else (opS (rd4 B a2.toNat), raS (rd4 B a2.toNat), rbS (rd4 B a2.toNat), imS (rd4 B a2.toNat), 0)) = D at hop hd
    have c1 : (0 ≤ a2 + 4 ∧ a2 + 4 ≤ ((B.length : Nat) : Int)) ∧ (0 ≤ a2 ∧ a2 ≤ (((a2 + 4).toNat : Nat) : Int)) := by omega
    have c2 : 0 + a2.toNat + 4 ≤ B.length := by omega
    rw [e1, e2, e3, e4]
    by_cases q4 : R.2.2.2.2.1 = 4
    · rw [if_pos q4, if_neg (fun h => h (k2 q4))]
      by_cases q0 : R.2.2.2.2.2.2.2.2.1 = 0
      · rw [if_pos q0, if_neg (fun h => h (by rw [k3 q0])), if_pos hc.1, if_pos hc.2.1, if_pos hc.2.2, if_pos c1, if_pos c2, Nat.zero_add, hr, bg]; dsimp only; rw [hd, bg, sure_true, bg]
      · rw [if_neg q0, if_pos hc.1, if_pos hc.2.1, if_pos hc.2.2, if_pos c1, if_pos c2, Nat.zero_add, hr, bg]; dsimp only; rw [hd, bg, sure_true, bg]
        have hop := hop.resolve_left q0
        by_cases o1 : D.1 = 19
        · rw [if_pos o1]
        rw [if_neg o1]
        by_cases o2 : D.1 = 20
        · rw [if_pos o2]
        rw [if_neg o2, if_pos (by omega)]
    · rw [if_neg q4]
      by_cases q0 : R.2.2.2.2.2.2.2.2.1 = 0
      · rw [if_pos q0, if_neg (fun h => h (by rw [k3 q0])), if_pos hc.1, if_pos hc.2.1, if_pos hc.2.2, if_pos c1, if_pos c2, Nat.zero_add, hr, bg]; dsimp only; rw [hd, bg, sure_true, bg]
      · rw [if_neg q0, if_pos hc.1, if_pos hc.2.1, if_pos hc.2.2, if_pos c1, if_pos c2, Nat.zero_add, hr, bg]; dsimp only; rw [hd, bg, sure_true, bg]
        have hop := hop.resolve_left q0
        by_cases o1 : D.1 = 19
        · rw [if_pos o1]
        rw [if_neg o1]
        by_cases o2 : D.1 = 20
        · rw [if_pos o2]
        rw [if_neg o2, if_pos (by omega)]
  · obtain ⟨q4, q0⟩ := k5 hc
    rw [e1, e2, if_pos q4, if_neg (fun h => h (k2 q4)), if_pos q0, if_neg (fun h => h (by rw [k3 q0])), sure_true, bg]
    by_cases c1 : a3 ≤ 31
    · rw [if_pos c1]
      by_cases c2 : a2 % 4 = 0
      · rw [if_pos c2, if_neg (show ¬ a2 + 4 ≤ ((B.length : Nat) : Int) by omega)]
      · rw [if_neg c2]
    · rw [if_neg c1]
theorem CpuFails (a0 : (List Int)) (a1 : (List Int)) (a2 : Int) (a3 : Int) (a4 : (List Int)) (h0 : List.length a0 * 4 ≤ reachBytes) (h1 : ∀ z ∈ a0, (Lit.int .u32 z).wf = true) (h2 : List.length a1 = 16) (h3 : ∀ z ∈ a1, (Lit.int .u32 z).wf = true) (h4 : (Lit.int .u32 a2).wf = true) (h5 : (Lit.int .u32 a3).wf = true) (h6 : List.length a4 = 4) (h7 : ∀ z ∈ a4, (Lit.int .u64 z).wf = true) : halterlaw12_CpuFails.f a0 a1 a2 a3 a4 = some true := by
  exact CpuFails_ (fun z hz => u32_bd (h1 z hz)) (fun z hz => u32_bd (h3 z hz)) (fun z hz => u64_bd (h7 z hz)) (u32_bd h4) (u32_bd h5)
end Go.Proofs.Ytllannmegnklmaa.Pure
