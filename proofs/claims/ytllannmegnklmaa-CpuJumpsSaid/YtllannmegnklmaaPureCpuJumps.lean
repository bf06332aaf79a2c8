/- The plain law: what the law computes is true, whatever it is handed. -/
import Derived.Test.YtllannmegnklmaaGCpuJumps
import Derived.Test.YtllannmegnklmaaE16
import Derived.Laws.BitsLemmas
import Derived.Laws.BitsAllLaws
set_option linter.unusedVariables false
set_option linter.unusedSimpArgs false
set_option linter.unnecessarySimpa false
namespace Go.Proofs.Ytllannmegnklmaa.Pure
open Go Go.Proofs.YtllannmegnklmaaE Go.Proofs.YtllannmegnklmaaGCpuJumps
theorem wu8 (x : Int) : IntKind.wrap .u8 x = x % 256 := by simp [IntKind.wrap, IntKind.bits, IntKind.signed]
theorem wu32 (x : Int) : IntKind.wrap .u32 x = x % 4294967296 := by simp [IntKind.wrap, IntKind.bits, IntKind.signed]
theorem wu64 (x : Int) : IntKind.wrap .u64 x = x % 18446744073709551616 := by simp [IntKind.wrap, IntKind.bits, IntKind.signed]
theorem wi64 {x : Int} (h : -9223372036854775808 ≤ x) (h' : x ≤ 9223372036854775807) : IntKind.wrap .i64 x = x := by
  simp [IntKind.wrap, IntKind.bits, IntKind.signed]
  omega
theorem wu32_id {x : Int} (h : 0 ≤ x ∧ x < 4294967296) : IntKind.wrap .u32 x = x := by rw [wu32]; omega
theorem wsucc {i : Nat} (h : i < 9223372036854775807) : IntKind.wrap .i64 ((i : Int) + 1) = ((i + 1 : Nat) : Int) := by rw [wi64 (by omega) (by omega)]; omega
theorem u32_bd {a : Int} (h : (Lit.int .u32 a).wf = true) : 0 ≤ a ∧ a < 4294967296 := by
  simpa [Lit.wf, IntKind.min, IntKind.max, IntKind.signed, IntKind.bits, ← Int.lt_add_one_iff] using h
theorem fuel_gt {n : Nat} (h : n < 18446744073709551616) : n < FUEL := h
theorem bind_go {α β : Type} (a : α) (f : α → Option β) : (some a).bind f = f a := by rw [Option.bind_some]
theorem drop_getD {α : Type} (l : List α) (i : Nat) (d : α) (h : i < l.length) : l.drop i = l.getD i d :: l.drop (i + 1) := by
  rw [List.drop_eq_getElem_cons h, List.getD_eq_getElem?_getD, List.getElem?_eq_getElem h, Option.getD_some]
theorem getD_mem {α : Type} (l : List α) (i : Nat) (d : α) (h : i < l.length) : l.getD i d ∈ l := by
  rw [List.getD_eq_getElem?_getD, List.getElem?_eq_getElem h, Option.getD_some]; exact List.getElem_mem _
theorem toNat_nat (i : Nat) : Int.toNat (i : Int) = i := rfl
theorem fuel_step {d n : Nat} (h : d < n) : ∃ m, n = m + 1 := ⟨n - 1, by omega⟩
def first (v : Int) : List Int → Option Nat
  | [] => none
  | x :: xs => if x = v then some 0 else (first v xs).map (· + 1)
theorem sure_true : halterlaw12_sure.f = some true := by kernel_rfl

def wb (v : Int) : List Int := [v % 256, v / 256 % 256, v / 256 / 256 % 256, v / 256 / 256 / 256 % 256]
theorem fuel6 : ∃ m, FUEL = m + 6 := ⟨18446744073709551610, rfl⟩
theorem st_step {a1 : Int} (h1 : a1 = 4) {n : Nat} {l : List Int} {v i : Int} (hv : 0 ≤ v ∧ v < 4294967296) (hi : 0 ≤ i ∧ i < 4) :
    r1_Store.l0 a1 (n + 1) l v i = r1_Store.l0 a1 n (List.set l i.toNat (v % 256)) (v / 256) (i + 1) := by
  subst h1
  rw [r1_Store.l0]
  rw [if_pos (show i < 4 by omega), if_pos (show 0 ≤ i ∧ i < ((Int.toNat 4 : Nat) : Int) from ⟨hi.1, by show i < ((4 : Nat) : Int); omega⟩), if_pos (show 0 + i.toNat < Int.toNat 4 by show 0 + i.toNat < 4; omega)]
  rw [Nat.zero_add, Int.tmod_eq_emod_of_nonneg hv.1, Int.tdiv_eq_ediv_of_nonneg hv.1, wi64 (by omega) (by omega), wi64 (by omega) (by omega), wu8]
  rw [show v % 256 % 256 = v % 256 by omega]
theorem store4 {v : Int} (hv : 0 ≤ v ∧ v < 4294967296) : r1_Store.f v 4 = some (wb v, 0) := by
  obtain ⟨m, hm⟩ := fuel6
  rw [r1_Store.f]
  rw [if_pos (show ¬ ((4 : Int) = 1) by decide), if_pos (show ¬ ((4 : Int) = 2) by decide), if_neg (show ¬ ¬ ((4 : Int) = 4) by decide), if_pos (by decide)]
  have w : IntKind.wrap .i64 v = v := wi64 (by omega) (by omega)
  rw [w, hm, st_step rfl hv (by decide), st_step rfl (by omega) (by decide), st_step rfl (by omega) (by decide), st_step rfl (by omega) (by decide)]
  rw [r1_Store.l0, if_neg (by decide), bind_go, if_pos ⟨by decide, trivial⟩]
  rfl
theorem wb_len (v : Int) : (wb v).length = 4 := rfl
theorem take_drop64 (l : List Int) (i : Nat) (h1 : i < l.length) (h2 : i < 64) : (l.take 64).drop i = l.getD i 0 :: (l.take 64).drop (i + 1) := by
  rw [drop_getD (l.take 64) i 0 (by rw [List.length_take]; omega)]
  congr 1
  rw [List.getD_eq_getElem?_getD, List.getD_eq_getElem?_getD, List.getElem?_take_of_lt h2]
theorem laid_l0 {a0 : List Int} (hw : ∀ z ∈ a0, 0 ≤ z ∧ z < 4294967296) : ∀ (d i n : Nat) (x : List Int), min a0.length 64 - i = d → i ≤ min a0.length 64 → d < n → x.length = 4 * i →
    halterlaw12_laid.l0 a0 n x (i : Int) = some (x ++ ((a0.take 64).drop i).flatMap wb) := by
  intro d
  induction d with
  | zero =>
    intro i n x hd hi hn hx
    obtain ⟨m, rfl⟩ := fuel_step hn
    have hnil : (a0.take 64).drop i = [] := List.drop_eq_nil_of_le (by rw [List.length_take]; omega)
    rw [halterlaw12_laid.l0, hnil]
    by_cases h : (i : Int) < ((a0.length : Nat) : Int)
    · rw [if_pos h, if_neg (show ¬ (i : Int) < 64 by omega)]; simp
    · rw [if_neg h]; simp
  | succ d ih =>
    intro i n x hd hi hn hx
    obtain ⟨m, rfl⟩ := fuel_step hn
    have h1 : i < a0.length := by omega
    have h2 : i < 64 := by omega
    have hb := hw _ (getD_mem a0 i 0 h1)
    rw [halterlaw12_laid.l0, if_pos (show (i : Int) < ((a0.length : Nat) : Int) by omega), if_pos (show (i : Int) < 64 by omega), if_pos (show 0 ≤ (i : Int) ∧ (i : Int) < ((a0.length : Nat) : Int) by omega)]
    rw [toNat_nat, store4 hb, bind_go]
    dsimp only
    rw [if_pos (show _ from ⟨trivial, rfl, rfl, by rw [hx, wb_len]; omega, by rw [hx, wb_len]; omega⟩), wsucc (by omega), ih (i + 1) m _ (by omega) (by omega) (by omega) (by rw [List.length_append, hx, wb_len]; omega)]
    rw [take_drop64 a0 i h1 h2, List.flatMap_cons, List.append_assoc]
theorem laid_eq {a0 : List Int} (hw : ∀ z ∈ a0, 0 ≤ z ∧ z < 4294967296) : halterlaw12_laid.f a0 = some (0, 0, (a0.take 64).flatMap wb) := by
  rw [halterlaw12_laid.f, show (0 : Int) = ((0 : Nat) : Int) from rfl, laid_l0 hw _ 0 FUEL [] rfl (by omega) (fuel_gt (by omega)) rfl, bind_go]
  rfl
def byt (b : List Int) : Prop := ∀ z ∈ b, 0 ≤ z ∧ z < 256
theorem byt_getD {b : List Int} (hb : byt b) (i : Nat) : 0 ≤ b.getD i 0 ∧ b.getD i 0 < 256 := by
  by_cases h : i < b.length
  · exact hb _ (getD_mem b i 0 h)
  · rw [List.getD_eq_getElem?_getD, List.getElem?_eq_none (by omega)]; simp
theorem ld_step {a0 a2 a3 : Int} {b : List Int} (hb : byt b) (ha : 0 ≤ a0 ∧ a0 < 4294967296) {n : Nat} {v x : Int} (hv : 0 ≤ v ∧ v < 16777216) (hx : 0 ≤ x ∧ x < 4) (hl : a0 + x < b.length) :
    halterlaw12_board_Load.l0 a0 a2 a3 b (n + 1) v x = halterlaw12_board_Load.l0 a0 a2 a3 b n (256 * v + b.getD (a0.toNat + x.toNat) 0) (x - 1) := by
  have e0 : IntKind.wrap .i64 a0 = a0 := wi64 (by omega) (by omega)
  have e1 : IntKind.wrap .i64 (a0 + x) = a0 + x := wi64 (by omega) (by omega)
  have e2 : (a0 + x).toNat = a0.toNat + x.toNat := by omega
  have e3 := byt_getD hb (a0.toNat + x.toNat)
  rw [halterlaw12_board_Load.l0, if_pos (show x ≥ 0 from hx.1), e0, e1, if_pos ⟨by omega, by omega⟩, if_pos (by omega), Nat.zero_add, e2]
  generalize b.getD (a0.toNat + x.toNat) 0 = y at e3
  rw [wi64 (by omega) (by omega), wu32, wu32, wu32, show ((256 * v) % 4294967296 + y % 4294967296) % 4294967296 = 256 * v + y by omega]
theorem ld_end {a0 a2 a3 : Int} {b : List Int} {n : Nat} {v : Int} : halterlaw12_board_Load.l0 a0 a2 a3 b (n + 1) v (-1) = some v := by
  rw [halterlaw12_board_Load.l0, if_neg (by decide)]
def rd4 (b : List Int) (p : Nat) : Int := 256 * (256 * (256 * b.getD (p + 3) 0 + b.getD (p + 2) 0) + b.getD (p + 1) 0) + b.getD p 0
theorem load4 {a0 a2 a3 : Int} {b : List Int} (hb : byt b) (ha : 0 ≤ a0 ∧ a0 < 4294967296) (hl : a0 + 4 ≤ b.length) : halterlaw12_board_Load.f a0 4 a2 a3 b = some (rd4 b a0.toNat, none) := by
  have e0 : IntKind.wrap .i64 a0 = a0 := wi64 (by omega) (by omega)
  have e1 : IntKind.wrap .i64 (a0 + 4) = a0 + 4 := wi64 (by omega) (by omega)
  obtain ⟨m, hm⟩ := fuel6
  have g3 := byt_getD hb (a0.toNat + 3)
  have g2 := byt_getD hb (a0.toNat + 2)
  have g1 := byt_getD hb (a0.toNat + 1)
  rw [halterlaw12_board_Load.f, if_neg (by decide), if_neg (by decide), e0, e1, if_neg (by omega), wi64 (by decide) (by decide), hm]
  rw [show (4 : Int) - 1 = 3 by decide, ld_step hb ha (by omega) (by omega) (by omega), show Int.toNat 3 = 3 from rfl, show (3 : Int) - 1 = 2 by decide, ld_step hb ha (by omega) (by omega) (by omega), show Int.toNat 2 = 2 from rfl, show (2 : Int) - 1 = 1 by decide,
    ld_step hb ha (by omega) (by omega) (by omega), show Int.toNat 1 = 1 from rfl, show (1 : Int) - 1 = 0 by decide, ld_step hb ha (by omega) (by omega) (by omega), show Int.toNat 0 = 0 from rfl, show (0 : Int) - 1 = -1 by decide, ld_end, bind_go]
  rw [Nat.add_zero, show (256 : Int) * 0 + b.getD (a0.toNat + 3) 0 = b.getD (a0.toNat + 3) 0 by omega]
  rfl
theorem told_ok {p : Int} : cpu_told.f none p = some (.inl ()) := by rw [cpu_told.f, if_pos rfl]
theorem check_ok {A F : List Int} {pc fl : Int} (h : fl < 32) : regs_Check.f A pc fl F = some none := by rw [regs_Check.f, if_neg (by omega)]
theorem whole_ok {p : Int} (hp : 0 ≤ p) (h : p % 4 = 0) : cpu_whole.f p 4 = some (.inr ()) := by
  rw [cpu_whole.f, if_pos (by decide), if_neg (by rw [Int.tmod_eq_emod_of_nonneg hp]; omega)]
theorem fetch_ok {p fe st : Int} {b : List Int} (hb : byt b) (ha : 0 ≤ p ∧ p < 4294967296) (hl : p + 4 ≤ b.length) : halterlaw12_board_Fetch.f p fe st b = some (rd4 b p.toNat, none, IntKind.wrap .i64 (fe + 1)) := by
  rw [halterlaw12_board_Fetch.f, load4 hb ha hl, bind_go]
theorem step_do {A F b A' F' b' : List Int} {pc fl fe st op a bb im pc' fl' ev' st' : Int} (hfl : fl < 32) (hpc : 0 ≤ pc ∧ pc < 4294967296) (h4 : pc % 4 = 0) (hb : byt b) (hl : pc + 4 ≤ b.length) (hdec : isa_Decode.f (rd4 b pc.toNat) = some (op, a, bb, im, none))
    (hdo : cm_do.f A (IntKind.wrap .u32 (pc + 4)) fl F op a bb im pc 0 (IntKind.wrap .i64 (fe + 1)) st b = some (.inl (A', pc', fl', F', ev', st', b'))) :
    cpu_Step.f A pc fl F fe st b = some (A', pc', fl', F', (if ev' = 0 ∧ ¬ bits .and .u32 fl' 16 = 0 then 3 else ev'), 0, 0, IntKind.wrap .i64 (fe + 1), st', b') := by
  rw [cpu_Step.f, check_ok hfl, bind_go, if_neg (by simp), cm_run.f, whole_ok hpc.1 h4, bind_go]
  dsimp only
  rw [fetch_ok hb hpc hl, bind_go]
  dsimp only
  rw [told_ok, bind_go]
  dsimp only
  rw [hdec, bind_go]
  dsimp only
  rw [if_neg (by simp), hdo, bind_go]
  dsimp only
  by_cases h1 : ev' = 0
  · by_cases h2 : bits .and .u32 fl' 16 = 0
    · rw [if_pos h1, if_neg (by simpa using h2), bind_go, if_neg (by simp [h2])]
      rfl
    · rw [if_pos h1, if_pos (by simpa using h2), bind_go, if_pos ⟨h1, h2⟩]
      rfl
  · rw [if_neg h1, bind_go, if_neg (by simp [h1])]
    rfl
theorem wraps_u32 (n : Int) (h0 : 0 ≤ n) (h1 : n < 2 ^ 32) : IntKind.u32.wrap n = n := by rw [IntKind.wrap_u32]; omega
theorem and32 (x y : Nat) (hx : x < 4294967296) (hy : y < 4294967296) : Go.bits .and .u32 x y = ((x &&& y : Nat) : Int) := (bits_nat .u32 32 (by decide) wraps_u32 x y hx hy).1
theorem shr_eq (k : IntKind) (v : Int) (n : Nat) (h : n ≤ k.bits) : shr k v n = v / 2 ^ n := by
  unfold shr
  rw [Int.toNat_natCast, Nat.min_eq_left h]
theorem down_eq (v n : Nat) (h : n ≤ 32) : shr .u32 v n = ((v / 2 ^ n : Nat) : Int) := by
  rw [shr_eq .u32 v n h]
  simp
def opS (v : Int) : Int := v / 16777216
def raS (v : Int) : Int := v / 1048576 % 16
def rbS (v : Int) : Int := v / 65536 % 16
def imS (v : Int) : Int := IntKind.wrap .i64 (IntKind.wrap .i16 v)
theorem and15 (x : Nat) (h : x < 4294967296) : bits .and .u32 (x : Int) 15 = ((x % 16 : Nat) : Int) := by
  have := and32 x 15 h (by omega)
  rw [show x &&& 15 = x % 16 from Nat.and_two_pow_sub_one_eq_mod x 4] at this
  exact this
theorem dec_eq {v : Int} (hv : 0 ≤ v ∧ v < 4294967296) (ho : ¬ 42 ≤ opS v) : isa_Decode.f v = some (opS v, raS v, rbS v, imS v, none) := by
  obtain ⟨v, rfl⟩ := Int.eq_ofNat_of_zero_le hv.1
  have hs : ∀ n : Nat, n ≤ 32 → shr .u32 (v : Int) n = ((v / 2 ^ n : Nat) : Int) := fun n hn => down_eq v n hn
  have h24 : shr .u32 (v : Int) 24 = ((v / 16777216 : Nat) : Int) := hs 24 (by omega)
  have h20 : shr .u32 (v : Int) 20 = ((v / 1048576 : Nat) : Int) := hs 20 (by omega)
  have h16 : shr .u32 (v : Int) 16 = ((v / 65536 : Nat) : Int) := hs 16 (by omega)
  unfold opS at ho
  rw [isa_Decode.f, h24, h20, h16, and15 _ (by omega), and15 _ (by omega), wi64 (by omega) (by omega), wi64 (by omega) (by omega), wi64 (by omega) (by omega), if_neg (by omega)]
  rfl

theorem wi16 (x : Int) : IntKind.wrap .i16 x = (x + 32768) % 65536 - 32768 := by
  simp [IntKind.wrap, IntKind.bits, IntKind.signed]
  omega
theorem rd_wb {v : Int} (hv : 0 ≤ v ∧ v < 4294967296) : 256 * (256 * (256 * (v / 256 / 256 / 256 % 256) + v / 256 / 256 % 256) + v / 256 % 256) + v % 256 = v := by omega
theorem and16 : ∀ x : Fin 16, bits .and .u32 (x.1 : Int) 16 = 0 := by decide +kernel
theorem and16' {x : Int} (h : 0 ≤ x ∧ x < 16) : bits .and .u32 x 16 = 0 := by
  have := and16 ⟨x.toNat, by omega⟩
  rwa [show ((x.toNat : Nat) : Int) = x by omega] at this
theorem cf_byt (l : List Int) : byt (l.flatMap wb) := by
  intro z hz
  rw [List.mem_flatMap] at hz
  obtain ⟨v, _, hz⟩ := hz
  simp only [wb, List.mem_cons, List.not_mem_nil, or_false] at hz
  rcases hz with rfl | rfl | rfl | rfl <;> omega
def wd (op n : Int) : Int := op * 16777216 + n % 65536
theorem wd_bd {op n : Int} (hop : op = 27 ∨ op = 21) : 0 ≤ wd op n ∧ wd op n < 4294967296 := by unfold wd; omega
theorem enc_at {op n : Int} (hop : op = 27 ∨ op = 21) (hn : -32768 ≤ n ∧ n ≤ 32767) : r8_Encode.f op 0 0 n = some (wd op n, 0) := by
  have hm : r8_May.f op 0 0 n = some true := by
    rw [r8_May.f, if_pos (show op ≥ 0 by omega), if_pos (show op ≤ 41 by omega), if_pos (by decide), if_pos (by decide), if_pos (by decide), if_pos (by decide), if_pos (show n ≥ -32768 by omega), decide_eq_true (show n ≤ 32767 by omega)]
  rw [r8_Encode.f, hm, bind_go, if_neg (fun h => h rfl)]
  have w1 : IntKind.wrap .i64 (op * 16) = op * 16 := wi64 (by omega) (by omega)
  have w2 : IntKind.wrap .i64 (op * 16 * 16) = op * 16 * 16 := wi64 (by omega) (by omega)
  have w3 : IntKind.wrap .i64 (op * 16 * 16 * 65536) = op * 16 * 16 * 65536 := wi64 (by omega) (by omega)
  simp only [Int.add_zero, w1, w2, w3]
  rw [wd]
  by_cases h : n < 0
  · rw [if_pos h, wi64 (x := n + 65536) (by omega) (by omega), wi64 (by omega) (by omega), wu32]
    congr 2; omega
  · rw [if_neg h, wi64 (by omega) (by omega), wu32]
    congr 2; omega
theorem dec_at {op n : Int} (hop : op = 27 ∨ op = 21) (hn : -32768 ≤ n ∧ n ≤ 32767) : isa_Decode.f (wd op n) = some (op, 0, 0, n, none) := by
  have e1 : opS (wd op n) = op := by unfold opS wd; omega
  have e2 : raS (wd op n) = 0 := by unfold raS wd; omega
  have e3 : rbS (wd op n) = 0 := by unfold rbS wd; omega
  have e4 : imS (wd op n) = n := by unfold imS wd; rw [wi16, wi64 (by omega) (by omega)]; omega
  rw [dec_eq (wd_bd hop) (by rw [e1]; omega), e1, e2, e3, e4]
def jp (pc im : Int) : Int := IntKind.wrap .u32 (pc + IntKind.wrap .u32 (IntKind.wrap .u32 (IntKind.wrap .i32 im) * 4))
theorem do27 {A F b : List Int} {pc fl im here fe st : Int} : cm_do.f A pc fl F 27 0 0 im here 0 fe st b = some (.inl (A.set 14 pc, jp pc im, fl, F, 0, st, b)) := by
  rw [cm_do.f]
  repeat (first | rw [if_neg (by decide)] | rw [if_pos (by decide)])
  rw [cm_leap.f, if_pos rfl]
  rfl
theorem do21 {A F b : List Int} {pc fl im here fe st : Int} : cm_do.f A pc fl F 21 0 0 im here 0 fe st b = some (.inl (A, jp pc im, fl, F, 0, st, b)) := by
  rw [cm_do.f]
  repeat (first | rw [if_neg (by decide)] | rw [if_pos (by decide)])
  rw [cm_leap.f, if_neg (by decide), if_neg (by decide), show alu_Taken.f 21 fl = some (true, none) by rw [alu_Taken.f, if_pos rfl], bind_go, if_neg (by simp), if_pos rfl]
  rfl
theorem do28 {A F b : List Int} {pc fl here fe st : Int} : cm_do.f A pc fl F 28 14 0 0 here 0 fe st b = some (.inl (A, A.getD 14 0, fl, F, 0, st, b)) := by
  rw [cm_do.f]
  repeat (first | rw [if_neg (by decide)] | rw [if_pos (by decide)])
  rw [cm_leap.f, if_neg (by decide), if_pos rfl, if_pos (by decide), if_pos (by decide)]
  rfl
theorem laid1 {w : Int} (hw : 0 ≤ w ∧ w < 4294967296) : halterlaw12_laid.f [w] = some (0, 0, [w].flatMap wb) := by
  rw [laid_eq (fun z hz => by rw [List.mem_singleton.1 hz]; exact hw)]
  rfl
theorem step1 {A F A' : List Int} {fl w op a bb im pc' : Int} (hfl : 0 ≤ fl ∧ fl < 16) (hw : 0 ≤ w ∧ w < 4294967296) (hd : isa_Decode.f w = some (op, a, bb, im, none))
    (hdo : cm_do.f A 4 fl F op a bb im 0 0 1 0 ([w].flatMap wb) = some (.inl (A', pc', fl, F, 0, 0, [w].flatMap wb))) : ∃ t, cpu_Step.f A 0 fl F 0 0 ([w].flatMap wb) = some (A', pc', fl, F, 0, t) := by
  have hl : ([w].flatMap wb).length = 4 := rfl
  have r0 : rd4 ([w].flatMap wb) 0 = w := rd_wb hw
  have s := step_do (A := A) (F := F) (pc := 0) (fl := fl) (fe := 0) (st := 0) (b := [w].flatMap wb) (by omega) (by decide) (by decide) (cf_byt _) (by rw [hl]; decide) (by rw [show (0 : Int).toNat = 0 from rfl, r0]; exact hd) hdo
  rw [if_neg (fun h => h.2 (and16' hfl))] at s
  exact ⟨_, s⟩
theorem CpuJumps_ {a0 a2 a3 : Int} {a1 a4 : List Int} (h1 : a1.length = 16) (h4 : 0 ≤ a3 ∧ a3 < 4294967296) : halterlaw12_CpuJumps.f a0 a1 a2 a3 a4 = some true := by
  have e0 : Int.tmod (IntKind.wrap .u64 a0) 65536 = a0 % 65536 := by rw [wu64, Int.tmod_eq_emod_of_nonneg (by omega)]; omega
  have e1 : IntKind.wrap .i64 (IntKind.wrap .i64 (a0 % 65536) - 32768) = a0 % 65536 - 32768 := by rw [wi64 (x := a0 % 65536) (by omega) (by omega), wi64 (by omega) (by omega)]
  have efl : Int.tmod a3 16 = a3 % 16 := Int.tmod_eq_emod_of_nonneg h4.1
  have hn : -32768 ≤ a0 % 65536 - 32768 ∧ a0 % 65536 - 32768 ≤ 32767 := by omega
  have hfl : 0 ≤ a3 % 16 ∧ a3 % 16 < 16 := by omega
  have hjr : r8_Encode.f 28 14 0 0 = some (484442112, 0) := by decide +kernel
  have hdj : isa_Decode.f 484442112 = some (28, 14, 0, 0, none) := by decide +kernel
  rw [halterlaw12_CpuJumps.f, e0, e1, efl]
  generalize a0 % 65536 - 32768 = n at hn ⊢
  generalize a3 % 16 = fl at hfl ⊢
  obtain ⟨t5, q5⟩ := step1 (A := a1) (F := a4) hfl (wd_bd (n := n) (.inl rfl)) (dec_at (.inl rfl) hn) do27
  obtain ⟨t7, q7⟩ := step1 (A := a1) (F := a4) hfl (wd_bd (n := n) (.inr rfl)) (dec_at (.inr rfl) hn) do21
  obtain ⟨t9, q9⟩ := step1 (A := a1.set 14 4) (F := a4) hfl (w := 484442112) (by decide) hdj do28
  have h14 : (a1.set 14 4).getD 14 0 = 4 := by rw [List.getD_eq_getElem?_getD, List.getElem?_set_self (by omega)]; rfl
  rw [h14] at q9
  have hto : r1_Of.f (IntKind.wrap .i64 (4 + IntKind.wrap .i64 (4 * n))) = some (jp 4 n) := by
    have ej : jp 4 n = (4 + 4 * n) % 4294967296 := by
      rw [jp, IntKind.wrap_i32, wu32, wu32, wu32]; omega
    rw [r1_Of.f, wi64 (x := 4 * n) (by omega) (by omega), wi64 (x := 4 + 4 * n) (by omega) (by omega), ej]
    by_cases h : 0 ≤ 4 + 4 * n
    · rw [Int.tmod_eq_emod_of_nonneg h, if_neg (by omega), wu32_id (by omega)]
    · have ht : Int.tmod (4 + 4 * n) 4294967296 = 4 + 4 * n := by
        have := Int.neg_tmod (-(4 + 4 * n)) 4294967296
        rw [Int.neg_neg] at this
        rw [this, Int.tmod_eq_emod_of_nonneg (by omega)]; omega
      rw [ht, if_pos (by omega), wi64 (by omega) (by omega), wu32]
      congr 1; omega
  rw [enc_at (.inl rfl) hn, bind_go, enc_at (.inr rfl) hn, bind_go, hjr, bind_go]
  dsimp only
  rw [laid1 (wd_bd (.inl rfl)), bind_go]
  dsimp only
  rw [q5, bind_go, laid1 (wd_bd (.inr rfl)), bind_go]
  dsimp only
  rw [q7, bind_go, laid1 (by decide), bind_go]
  dsimp only
  rw [q9, bind_go, hto, bind_go]
  dsimp only
  rw [if_pos rfl, if_pos rfl, if_pos rfl, if_pos rfl, if_pos rfl, if_pos h14, if_pos rfl, if_pos rfl, sure_true]
  rfl
theorem CpuJumps (a0 : Int) (a1 : (List Int)) (a2 : Int) (a3 : Int) (a4 : (List Int)) (h0 : (Lit.int .i64 a0).wf = true) (h1 : List.length a1 = 16) (h2 : ∀ z ∈ a1, (Lit.int .u32 z).wf = true) (h3 : (Lit.int .u32 a2).wf = true) (h4 : (Lit.int .u32 a3).wf = true) (h5 : List.length a4 = 4) (h6 : ∀ z ∈ a4, (Lit.int .u64 z).wf = true) : halterlaw12_CpuJumps.f a0 a1 a2 a3 a4 = some true := by
  exact CpuJumps_ h1 (u32_bd h4)

end Go.Proofs.Ytllannmegnklmaa.Pure
