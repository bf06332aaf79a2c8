/- The plain law: what the law computes is true, whatever it is handed. -/
import Derived.Test.YticdckalmebhmaaDoorGFileCounts
import Derived.Test.YticdckalmebhmaaDoorE16
set_option linter.unusedVariables false
set_option linter.unusedSimpArgs false
set_option linter.unnecessarySimpa false
namespace Go.Proofs.YticdckalmebhmaaDoor.Pure
open Go Go.Proofs.YticdckalmebhmaaDoorE Go.Proofs.YticdckalmebhmaaDoorGFileCounts
theorem wu8 (x : Int) : IntKind.wrap .u8 x = x % 256 := by simp [IntKind.wrap, IntKind.bits, IntKind.signed]
theorem wu16 (x : Int) : IntKind.wrap .u16 x = x % 65536 := by simp [IntKind.wrap, IntKind.bits, IntKind.signed]
theorem wu32 (x : Int) : IntKind.wrap .u32 x = x % 4294967296 := by simp [IntKind.wrap, IntKind.bits, IntKind.signed]
theorem wu64 (x : Int) : IntKind.wrap .u64 x = x % 18446744073709551616 := by simp [IntKind.wrap, IntKind.bits, IntKind.signed]
theorem wi64 {x : Int} (h : -9223372036854775808 ≤ x) (h' : x ≤ 9223372036854775807) : IntKind.wrap .i64 x = x := by
  simp [IntKind.wrap, IntKind.bits, IntKind.signed]
  omega
theorem wu8_id {x : Int} (h : 0 ≤ x ∧ x < 256) : IntKind.wrap .u8 x = x := by rw [wu8]; omega
theorem wu32_id {x : Int} (h : 0 ≤ x ∧ x < 4294967296) : IntKind.wrap .u32 x = x := by rw [wu32]; omega
theorem wu64_id {x : Int} (h : 0 ≤ x ∧ x < 18446744073709551616) : IntKind.wrap .u64 x = x := by rw [wu64]; omega
theorem wsucc {i : Nat} (h : i < 9223372036854775807) : IntKind.wrap .i64 ((i : Int) + 1) = ((i + 1 : Nat) : Int) := by rw [wi64 (by omega) (by omega)]; omega
theorem u8_bd {a : Int} (h : (Lit.int .u8 a).wf = true) : 0 ≤ a ∧ a < 256 := by
  simpa [Lit.wf, IntKind.min, IntKind.max, IntKind.signed, IntKind.bits, ← Int.lt_add_one_iff] using h
theorem u32_bd {a : Int} (h : (Lit.int .u32 a).wf = true) : 0 ≤ a ∧ a < 4294967296 := by
  simpa [Lit.wf, IntKind.min, IntKind.max, IntKind.signed, IntKind.bits, ← Int.lt_add_one_iff] using h
theorem u64_bd {a : Int} (h : (Lit.int .u64 a).wf = true) : 0 ≤ a ∧ a < 18446744073709551616 := by
  simpa [Lit.wf, IntKind.min, IntKind.max, IntKind.signed, IntKind.bits, ← Int.lt_add_one_iff] using h
theorem i64_bd {a : Int} (h : (Lit.int .i64 a).wf = true) : -9223372036854775808 ≤ a ∧ a < 9223372036854775808 := by
  simpa [Lit.wf, IntKind.min, IntKind.max, IntKind.signed, IntKind.bits, ← Int.lt_add_one_iff] using h
theorem fuel_gt {n : Nat} (h : n < 18446744073709551616) : n < FUEL := h
theorem bind_go {α β : Type} (a : α) (f : α → Option β) : (some a).bind f = f a := by rw [Option.bind_some]
theorem drop_getD {α : Type} (l : List α) (i : Nat) (d : α) (h : i < l.length) : l.drop i = l.getD i d :: l.drop (i + 1) := by
  rw [List.drop_eq_getElem_cons h, List.getD_eq_getElem?_getD, List.getElem?_eq_getElem h, Option.getD_some]
theorem getD_mem {α : Type} (l : List α) (i : Nat) (d : α) (h : i < l.length) : l.getD i d ∈ l := by
  rw [List.getD_eq_getElem?_getD, List.getElem?_eq_getElem h, Option.getD_some]; exact List.getElem_mem _
theorem toNat_nat (i : Nat) : Int.toNat (i : Int) = i := rfl
/-- A number behind another one: a round of a loop. -/
theorem fuel_step {d n : Nat} (h : d < n) : ∃ m, n = m + 1 := ⟨n - 1, by omega⟩
/-- Where something stands first. -/
def first (v : Int) : List Int → Option Nat
  | [] => none
  | x :: xs => if x = v then some 0 else (first v xs).map (· + 1)
theorem first_none {v : Int} : ∀ {l : List Int}, first v l = none → ∀ z ∈ l, z ≠ v
  | [], _, z, hz => by cases hz
  | x :: xs, h, z, hz => by
    unfold first at h
    split at h
    · cases h
    · rename_i hx
      rcases List.mem_cons.1 hz with rfl | hz
      · exact hx
      · exact first_none (by simpa using h) z hz
theorem first_some {v : Int} : ∀ {l : List Int} {k : Nat}, first v l = some k → k < l.length ∧ l.getD k 0 = v ∧ ∀ j, j < k → l.getD j 0 ≠ v
  | [], _, h => by cases h
  | x :: xs, k, h => by
    unfold first at h
    split at h
    · cases h
      rename_i hx
      exact ⟨by simp, by simpa using hx, fun j hj => by omega⟩
    · rename_i hx
      cases hf : first v xs with
      | none => simp [hf] at h
      | some m =>
        simp [hf] at h
        subst h
        obtain ⟨h1, h2, h3⟩ := first_some hf
        refine ⟨by simp; omega, by simpa using h2, fun j hj => ?_⟩
        cases j with
        | zero => simpa using hx
        | succ j => simpa using h3 j (by omega)

/-! What files do. -/
theorem num_some (e : Int) : num.f (some e) = some e := rfl
theorem num_none : num.f none = some 0 := rfl
def eo (e : Int) : Option Int := if e = 0 then none else some e
theorem num_eo (e : Int) : num.f (eo e) = some e := by
  unfold num.f eo
  split
  · rename_i h; rw [h]; rfl
  · rfl
abbrev mayP (k id off : Int) (nm : ByteArray) : Prop := 0 ≤ k ∧ k ≤ 3 ∧ 0 ≤ id ∧ id ≤ 1073741824 ∧ 0 ≤ off ∧ off ≤ 1073741824 ∧ nm.size ≤ 256
theorem may_eq (k id off : Int) (r w : Bool) (nm : ByteArray) (rf : Int) : file_File_may.f k id off r w nm rf = some (decide (mayP k id off nm)) := by
  unfold file_File_may.f
  by_cases h1 : k ≥ 0
  · rw [if_pos h1]
    by_cases h2 : k ≤ 3
    · rw [if_pos h2]
      by_cases h3 : id ≥ 0
      · rw [if_pos h3]
        by_cases h4 : id ≤ 1073741824
        · rw [if_pos h4]
          by_cases h5 : off ≥ 0
          · rw [if_pos h5]
            by_cases h6 : off ≤ 1073741824
            · rw [if_pos h6]; congr 1; rw [decide_eq_decide]
              exact ⟨fun h => ⟨h1, h2, h3, h4, h5, h6, by omega⟩, fun h => by have := h.2.2.2.2.2.2; omega⟩
            · rw [if_neg h6]; congr 1; symm; rw [decide_eq_false_iff_not]; exact fun h => h6 h.2.2.2.2.2.1
          · rw [if_neg h5]; congr 1; symm; rw [decide_eq_false_iff_not]; exact fun h => h5 h.2.2.2.2.1
        · rw [if_neg h4]; congr 1; symm; rw [decide_eq_false_iff_not]; exact fun h => h4 h.2.2.2.1
      · rw [if_neg h3]; congr 1; symm; rw [decide_eq_false_iff_not]; exact fun h => h3 h.2.2.1
    · rw [if_neg h2]; congr 1; symm; rw [decide_eq_false_iff_not]; exact fun h => h2 h.2.1
  · rw [if_neg h1]; congr 1; symm; rw [decide_eq_false_iff_not]; exact fun h => h1 h.1
theorem sure_t : halterlaw19_sure.f = some true := by kernel_rfl

abbrev FT := Int × (Int × (Int × (Bool × (Bool × (ByteArray × Int)))))
def fa (p : Int) : FT := (0, (1, (0, (false, (false, (ByteArray.empty, p))))))
def fb (q : Int) : FT := (2, (2, (0, (false, (false, (ByteArray.empty, q))))))
def fz : FT := (0, (0, (0, (false, (false, (ByteArray.empty, 0))))))
def LL (p q : Int) : List FT := [fa p, fb q, fz]
theorem at0 (p q : Int) (h : p ≠ 0) : file_Table_at.f 0 3 3 (LL p q) = some (.inr 0) := by
  unfold file_Table_at.f
  rw [if_neg (by omega), if_neg (by omega), if_pos ⟨by omega, by omega⟩, if_pos (by decide)]
  have e : (List.getD (LL p q) (0 + (Int.toNat 0)) fz) = fa p := rfl
  rw [show ((0 : Int), ((0 : Int), ((0 : Int), (false, (false, (ByteArray.empty, (0 : Int))))))) = fz from rfl, e, if_neg (show ¬ (fa p).2.2.2.2.2.2 = 0 from h), if_pos ⟨by omega, by omega⟩]
  rfl
theorem at1 (p q : Int) (h : q ≠ 0) : file_Table_at.f 1 3 3 (LL p q) = some (.inr 1) := by
  unfold file_Table_at.f
  rw [if_neg (by omega), if_neg (by omega), if_pos ⟨by omega, by omega⟩, if_pos (by decide)]
  have e : (List.getD (LL p q) (0 + (Int.toNat 1)) fz) = fb q := rfl
  rw [show ((0 : Int), ((0 : Int), ((0 : Int), (false, (false, (ByteArray.empty, (0 : Int))))))) = fz from rfl, e, if_neg (show ¬ (fb q).2.2.2.2.2.2 = 0 from h), if_pos ⟨by omega, by omega⟩]
  rfl
theorem at0z (q : Int) : file_Table_at.f 0 3 3 (LL 0 q) = some (.inl 9) := by
  unfold file_Table_at.f
  rw [if_neg (by omega), if_neg (by omega), if_pos ⟨by omega, by omega⟩, if_pos (by decide)]
  have e : (List.getD (LL 0 q) (0 + (Int.toNat 0)) fz) = fa 0 := rfl
  rw [show ((0 : Int), ((0 : Int), ((0 : Int), (false, (false, (ByteArray.empty, (0 : Int))))))) = fz from rfl, e, if_pos (show (fa 0).2.2.2.2.2.2 = 0 from rfl)]
theorem at1z (p : Int) : file_Table_at.f 1 3 3 (LL p 0) = some (.inl 9) := by
  unfold file_Table_at.f
  rw [if_neg (by omega), if_neg (by omega), if_pos ⟨by omega, by omega⟩, if_pos (by decide)]
  have e : (List.getD (LL p 0) (0 + (Int.toNat 1)) fz) = fb 0 := rfl
  rw [show ((0 : Int), ((0 : Int), ((0 : Int), (false, (false, (ByteArray.empty, (0 : Int))))))) = fz from rfl, e, if_pos (show (fb 0).2.2.2.2.2.2 = 0 from rfl)]
theorem ref0 (p q : Int) (h : 0 < p) (h2 : p < 1000) : file_Table_Ref.f 0 3 3 (LL p q) = some (none, LL (p + 1) q) := by
  unfold file_Table_Ref.f
  rw [at0 p q (by omega), bind_go]
  dsimp only
  rw [show ((0 : Int), ((0 : Int), ((0 : Int), (false, (false, (ByteArray.empty, (0 : Int))))))) = fz from rfl, show (List.getD (LL p q) 0 fz) = fa p from rfl, if_pos (by decide), if_neg (show ¬ (fa p).2.2.2.2.2.2 ≥ 1048576 from by show ¬ p ≥ 1048576; omega), if_pos (by decide), if_pos (by decide)]
  have : IntKind.wrap .i64 ((fa p).2.2.2.2.2.2 + 1) = p + 1 := wi64 (by show _ ≤ p + 1; omega) (by show p + 1 ≤ _; omega)
  rw [this]; rfl
theorem ref1 (p q : Int) (h : 0 < q) (h2 : q < 1000) : file_Table_Ref.f 1 3 3 (LL p q) = some (none, LL p (q + 1)) := by
  unfold file_Table_Ref.f
  rw [at1 p q (by omega), bind_go]
  dsimp only
  rw [show ((0 : Int), ((0 : Int), ((0 : Int), (false, (false, (ByteArray.empty, (0 : Int))))))) = fz from rfl, show (List.getD (LL p q) 1 fz) = fb q from rfl, if_pos (by decide), if_neg (show ¬ (fb q).2.2.2.2.2.2 ≥ 1048576 from by show ¬ q ≥ 1048576; omega), if_pos (by decide), if_pos (by decide)]
  have : IntKind.wrap .i64 ((fb q).2.2.2.2.2.2 + 1) = q + 1 := wi64 (by show _ ≤ q + 1; omega) (by show q + 1 ≤ _; omega)
  rw [this]; rfl
theorem unref0 (p q : Int) (h : 0 < p) (h2 : p < 1000) : file_Table_Unref.f 0 3 3 (LL p q) = some (0, 1, 0, false, false, ByteArray.empty, p - 1, (p - 1 == 0), none, LL (p - 1) q) := by
  unfold file_Table_Unref.f
  rw [at0 p q (by omega), bind_go]
  dsimp only
  rw [show ((0 : Int), ((0 : Int), ((0 : Int), (false, (false, (ByteArray.empty, (0 : Int))))))) = fz from rfl, show (List.getD (LL p q) 0 fz) = fa p from rfl]
  have : IntKind.wrap .i64 ((fa p).2.2.2.2.2.2 - 1) = p - 1 := wi64 (by show _ ≤ p - 1; omega) (by show p - 1 ≤ _; omega)
  rw [this, if_pos (by decide), if_pos (by decide), if_pos (by decide), if_pos (by decide)]; rfl
theorem unref1 (p q : Int) (h : 0 < q) (h2 : q < 1000) : file_Table_Unref.f 1 3 3 (LL p q) = some (2, 2, 0, false, false, ByteArray.empty, q - 1, (q - 1 == 0), none, LL p (q - 1)) := by
  unfold file_Table_Unref.f
  rw [at1 p q (by omega), bind_go]
  dsimp only
  rw [show ((0 : Int), ((0 : Int), ((0 : Int), (false, (false, (ByteArray.empty, (0 : Int))))))) = fz from rfl, show (List.getD (LL p q) 1 fz) = fb q from rfl]
  have : IntKind.wrap .i64 ((fb q).2.2.2.2.2.2 - 1) = q - 1 := wi64 (by show _ ≤ q - 1; omega) (by show q - 1 ≤ _; omega)
  rw [this, if_pos (by decide), if_pos (by decide), if_pos (by decide), if_pos (by decide)]; rfl
theorem get0 (q : Int) : file_Table_Get.f 0 3 3 (LL 1 q) = some (0, 1, 0, false, false, ByteArray.empty, 1, none) := by
  unfold file_Table_Get.f
  rw [at0 1 q (by omega), bind_go]
  dsimp only
  rw [if_pos (by decide)]; rfl
theorem get1 (p : Int) : file_Table_Get.f 1 3 3 (LL p 1) = some (2, 2, 0, false, false, ByteArray.empty, 1, none) := by
  unfold file_Table_Get.f
  rw [at1 p 1 (by omega), bind_go]
  dsimp only
  rw [if_pos (by decide)]; rfl
theorem kbound (a0 : Int) : ∃ k : Nat, IntKind.wrap .i64 (Int.tmod (IntKind.wrap .u64 (a0)) (40 : Int)) = (k : Int) ∧ k < 40 := by
  have m0 : 0 ≤ a0 % 18446744073709551616 := by omega
  rw [wu64, Int.tmod_eq_emod_of_nonneg m0]
  have hq : 0 ≤ a0 % 18446744073709551616 % 40 ∧ a0 % 18446744073709551616 % 40 < 40 := by omega
  generalize a0 % 18446744073709551616 % 40 = q at hq
  rw [wi64 (by omega) (by omega)]
  exact ⟨q.toNat, by omega, by omega⟩
section
variable (r0 : List FT) (t5 : Int × (Option Int) × List FT) (t4 : Int × (Option Int) × List FT) (t10 : TY0) (a0 : Int) (k : Nat) (hk : IntKind.wrap .i64 (Int.tmod (IntKind.wrap .u64 (a0)) (40 : Int)) = (k : Int)) (hk2 : k < 40)
theorem up1 (hk : IntKind.wrap .i64 (Int.tmod (IntKind.wrap .u64 (a0)) (40 : Int)) = (k : Int)) (hk2 : k < 40) (e5 : Option Int) (l5 : List FT) : ∀ (d i n : Nat), i + d = k → d < n →
    halterlaw19_FileCounts.l0 (3, 3, r0) t4 (1, e5, l5) t10 a0 n (LL 1 (1 + i)) (i : Int) = some (.inl (LL 1 (1 + k))) := by
  intro d
  induction d with
  | zero =>
    intro i n hi hn
    obtain ⟨m, rfl⟩ := fuel_step hn
    have : i = k := by omega
    subst this
    rw [halterlaw19_FileCounts.l0, hk, if_neg (by omega)]
  | succ d ih =>
    intro i n hi hn
    obtain ⟨m, rfl⟩ := fuel_step hn
    rw [halterlaw19_FileCounts.l0, hk, if_pos (by omega)]
    dsimp only
    rw [ref1 _ _ (by omega) (by omega), bind_go, if_neg (fun h => h rfl), wsucc (by omega)]
    have := ih (i + 1) m (by omega) (by omega)
    rw [show (1 + ((i + 1 : Nat) : Int)) = 1 + (i : Int) + 1 by omega] at this
    exact this
theorem down1 (hk : IntKind.wrap .i64 (Int.tmod (IntKind.wrap .u64 (a0)) (40 : Int)) = (k : Int)) (hk2 : k < 40) (e5 : Option Int) (l5 : List FT) : ∀ (d i n : Nat), i + d = k + 1 → d < n →
    halterlaw19_FileCounts.l1 (3, 3, r0) t4 (1, e5, l5) t10 a0 n (LL 1 (1 + k - i)) (i : Int) = some (.inl (LL 1 0)) := by
  intro d
  induction d with
  | zero =>
    intro i n hi hn
    obtain ⟨m, rfl⟩ := fuel_step hn
    rw [halterlaw19_FileCounts.l1, hk, if_neg (by omega), show (1 + (k : Int) - (i : Int)) = 0 by omega]
  | succ d ih =>
    intro i n hi hn
    obtain ⟨m, rfl⟩ := fuel_step hn
    rw [halterlaw19_FileCounts.l1, hk, if_pos (by omega)]
    dsimp only
    rw [unref1 _ _ (by omega) (by omega), bind_go]
    dsimp only
    rw [if_neg (fun h => h rfl), if_neg (fun h => h (by rw [Bool.eq_iff_iff]; simp; omega)), wi64 (by omega) (by omega), if_neg (fun h => h (by omega)), wsucc (by omega)]
    have := ih (i + 1) m (by omega) (by omega)
    rw [show (1 + (k : Int) - ((i + 1 : Nat) : Int)) = 1 + (k : Int) - (i : Int) - 1 by omega] at this
    exact this
theorem up0 (hk : IntKind.wrap .i64 (Int.tmod (IntKind.wrap .u64 (a0)) (40 : Int)) = (k : Int)) (hk2 : k < 40) (e5 : Option Int) (l5 : List FT) : ∀ (d i n : Nat), i + d = k → d < n →
    halterlaw19_FileCounts.l2 (3, 3, r0) (0, e5, l5) t5 t10 a0 n (LL (1 + i) 1) (i : Int) = some (.inl (LL (1 + k) 1)) := by
  intro d
  induction d with
  | zero =>
    intro i n hi hn
    obtain ⟨m, rfl⟩ := fuel_step hn
    have : i = k := by omega
    subst this
    rw [halterlaw19_FileCounts.l2, hk, if_neg (by omega)]
  | succ d ih =>
    intro i n hi hn
    obtain ⟨m, rfl⟩ := fuel_step hn
    rw [halterlaw19_FileCounts.l2, hk, if_pos (by omega)]
    dsimp only
    rw [ref0 _ _ (by omega) (by omega), bind_go, if_neg (fun h => h rfl), wsucc (by omega)]
    have := ih (i + 1) m (by omega) (by omega)
    rw [show (1 + ((i + 1 : Nat) : Int)) = 1 + (i : Int) + 1 by omega] at this
    exact this
theorem down0 (hk : IntKind.wrap .i64 (Int.tmod (IntKind.wrap .u64 (a0)) (40 : Int)) = (k : Int)) (hk2 : k < 40) (e5 : Option Int) (l5 : List FT) : ∀ (d i n : Nat), i + d = k + 1 → d < n →
    halterlaw19_FileCounts.l3 (3, 3, r0) (0, e5, l5) t5 t10 a0 n (LL (1 + k - i) 1) (i : Int) = some (.inl (LL 0 1)) := by
  intro d
  induction d with
  | zero =>
    intro i n hi hn
    obtain ⟨m, rfl⟩ := fuel_step hn
    rw [halterlaw19_FileCounts.l3, hk, if_neg (by omega), show (1 + (k : Int) - (i : Int)) = 0 by omega]
  | succ d ih =>
    intro i n hi hn
    obtain ⟨m, rfl⟩ := fuel_step hn
    rw [halterlaw19_FileCounts.l3, hk, if_pos (by omega)]
    dsimp only
    rw [unref0 _ _ (by omega) (by omega), bind_go]
    dsimp only
    rw [if_neg (fun h => h rfl), if_neg (fun h => h (by rw [Bool.eq_iff_iff]; simp; omega)), wi64 (by omega) (by omega), if_neg (fun h => h (by omega)), wsucc (by omega)]
    have := ih (i + 1) m (by omega) (by omega)
    rw [show (1 + (k : Int) - ((i + 1 : Nat) : Int)) = 1 + (k : Int) - (i : Int) - 1 by omega] at this
    exact this
end
theorem FileCounts (a0 : Int) (a1 : Int) (h0 : (Lit.int .i64 a0).wf = true) (h1 : (Lit.int .i64 a1).wf = true) : halterlaw19_FileCounts.f a0 a1 = some true := by
  unfold halterlaw19_FileCounts.f
  obtain ⟨k, hk, hk2⟩ := kbound a0
  have e1 : file_New.f 3 = some (.inr (3, 3, [fz, fz, fz])) := by kernel_rfl
  have e2 : file_Table_Open.f (0 : Int) (1 : Int) (0 : Int) false false ByteArray.empty (0 : Int) 3 3 [fz, fz, fz] = some (0, none, [fa 1, fz, fz]) := by kernel_rfl
  have e3 : file_Table_Open.f (2 : Int) (2 : Int) (0 : Int) false false ByteArray.empty (0 : Int) 3 3 [fa 1, fz, fz] = some (1, none, LL 1 1) := by kernel_rfl
  have z0 : ((0 : Nat) : Int) = 0 := rfl
  rw [e1, bind_go]
  dsimp only
  rw [e2, bind_go]
  dsimp only
  rw [e3, bind_go]
  dsimp only
  rw [if_neg (fun h => h rfl), if_neg (fun h => h rfl), if_neg (by decide)]
  by_cases hm : Int.tmod a1 2 = 0
  · rw [if_pos hm, get0, bind_go]
    have h1 := up1 [fz, fz, fz] (0, none, [fa 1, fz, fz]) (0, 1, 0, false, false, ByteArray.empty, 1, none) a0 k hk hk2 none (LL 1 1) k 0 FUEL (by omega) (fuel_gt (by omega))
    have h2 := down1 [fz, fz, fz] (0, none, [fa 1, fz, fz]) (0, 1, 0, false, false, ByteArray.empty, 1, none) a0 k hk hk2 none (LL 1 1) (k + 1) 0 FUEL (by omega) (fuel_gt (by omega))
    rw [z0] at h1 h2
    rw [show (1 + (0 : Int)) = 1 by omega] at h1
    rw [show (1 + (k : Int) - 0) = 1 + (k : Int) by omega] at h2
    rw [h1, bind_go]
    dsimp only
    rw [h2, bind_go]
    dsimp only
    have eu : file_Table_Unref.f 1 3 3 (LL 1 0) = some (0, 0, 0, false, false, ByteArray.empty, 0, false, some 9, LL 1 0) := by
      unfold file_Table_Unref.f
      rw [at1z, bind_go]
    rw [eu, bind_go]
    dsimp only
    rw [get0, bind_go]
    dsimp only
    have el : file_Table_List.f 3 3 (LL 1 0) = some [0] := by kernel_rfl
    have ei : halterlaw19_ints.f [0] [0] = some true := by kernel_rfl
    rw [if_pos rfl, num_some, bind_go, if_pos rfl, if_pos rfl, if_pos ⟨rfl, rfl, rfl, rfl, rfl, rfl, rfl⟩, el, bind_go, ei, bind_go, if_pos rfl, sure_t, bind_go]
  · rw [if_neg hm, get1, bind_go]
    have h1 := up0 [fz, fz, fz] (1, none, LL 1 1) (2, 2, 0, false, false, ByteArray.empty, 1, none) a0 k hk hk2 none [fa 1, fz, fz] k 0 FUEL (by omega) (fuel_gt (by omega))
    have h2 := down0 [fz, fz, fz] (1, none, LL 1 1) (2, 2, 0, false, false, ByteArray.empty, 1, none) a0 k hk hk2 none [fa 1, fz, fz] (k + 1) 0 FUEL (by omega) (fuel_gt (by omega))
    rw [z0] at h1 h2
    rw [show (1 + (0 : Int)) = 1 by omega] at h1
    rw [show (1 + (k : Int) - 0) = 1 + (k : Int) by omega] at h2
    rw [h1, bind_go]
    dsimp only
    rw [h2, bind_go]
    dsimp only
    have eu : file_Table_Unref.f 0 3 3 (LL 0 1) = some (0, 0, 0, false, false, ByteArray.empty, 0, false, some 9, LL 0 1) := by
      unfold file_Table_Unref.f
      rw [at0z, bind_go]
    rw [eu, bind_go]
    dsimp only
    rw [get1, bind_go]
    dsimp only
    have el : file_Table_List.f 3 3 (LL 0 1) = some [1] := by kernel_rfl
    have ei : halterlaw19_ints.f [1] [1] = some true := by kernel_rfl
    rw [if_pos rfl, num_some, bind_go, if_pos rfl, if_pos rfl, if_pos ⟨rfl, rfl, rfl, rfl, rfl, rfl, rfl⟩, el, bind_go, ei, bind_go, if_pos rfl, sure_t, bind_go]

end Go.Proofs.YticdckalmebhmaaDoor.Pure
