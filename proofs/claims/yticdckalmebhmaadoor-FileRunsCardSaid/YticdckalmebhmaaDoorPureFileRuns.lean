/- The plain law: what the law computes is true, whatever it is handed. -/
import Derived.Test.YticdckalmebhmaaDoorGFileRuns
import Derived.Test.YticdckalmebhmaaDoorE16
set_option linter.unusedVariables false
set_option linter.unusedSimpArgs false
set_option linter.unnecessarySimpa false
namespace Go.Proofs.YticdckalmebhmaaDoor.Pure
open Go Go.Proofs.YticdckalmebhmaaDoorE Go.Proofs.YticdckalmebhmaaDoorGFileRuns
theorem wu8 (x : Int) : IntKind.wrap .u8 x = x % 256 := by simp [IntKind.wrap, IntKind.bits, IntKind.signed]
theorem wu16 (x : Int) : IntKind.wrap .u16 x = x % 65536 := by simp [IntKind.wrap, IntKind.bits, IntKind.signed]
theorem wu32 (x : Int) : IntKind.wrap .u32 x = x % 4294967296 := by simp [IntKind.wrap, IntKind.bits, IntKind.signed]
theorem wu64 (x : Int) : IntKind.wrap .u64 x = x % 18446744073709551616 := by simp [IntKind.wrap, IntKind.bits, IntKind.signed]
theorem wi64 {x : Int} (h : -9223372036854775808 ≤ x) (h' : x ≤ 9223372036854775807) : IntKind.wrap .i64 x = x := by
  simp [IntKind.wrap, IntKind.bits, IntKind.signed]
  omega
theorem wu8_id {x : Int} (h : 0 ≤ x ∧ x < 256) : IntKind.wrap .u8 x = x := by rw [wu8]; omega
theorem wu32_id {x : Int} (h : 0 ≤ x ∧ x < 4294967296) : IntKind.wrap .u32 x = x := by rw [wu32]; omega
theorem wu64_id {x : Int} (h : 0 ≤ x ∧ x < 18446744073709551616) : IntKind.wrap .u64 x = x := by rw [wu64]; omega
theorem wsucc {i : Nat} (h : i < 9223372036854775807) : IntKind.wrap .i64 ((i : Int) + 1) = ((i + 1 : Nat) : Int) := by rw [wi64 (by omega) (by omega)]; omega
theorem u8_bd {a : Int} (h : (Lit.int .u8 a).wf = true) : 0 ≤ a ∧ a < 256 := by
  simpa [Lit.wf, IntKind.min, IntKind.max, IntKind.signed, IntKind.bits, ← Int.lt_add_one_iff] using h
theorem u32_bd {a : Int} (h : (Lit.int .u32 a).wf = true) : 0 ≤ a ∧ a < 4294967296 := by
  simpa [Lit.wf, IntKind.min, IntKind.max, IntKind.signed, IntKind.bits, ← Int.lt_add_one_iff] using h
theorem u64_bd {a : Int} (h : (Lit.int .u64 a).wf = true) : 0 ≤ a ∧ a < 18446744073709551616 := by
  simpa [Lit.wf, IntKind.min, IntKind.max, IntKind.signed, IntKind.bits, ← Int.lt_add_one_iff] using h
theorem i64_bd {a : Int} (h : (Lit.int .i64 a).wf = true) : -9223372036854775808 ≤ a ∧ a < 9223372036854775808 := by
  simpa [Lit.wf, IntKind.min, IntKind.max, IntKind.signed, IntKind.bits, ← Int.lt_add_one_iff] using h
theorem fuel_gt {n : Nat} (h : n < 18446744073709551616) : n < FUEL := h
theorem bind_go {α β : Type} (a : α) (f : α → Option β) : (some a).bind f = f a := by rw [Option.bind_some]
theorem drop_getD {α : Type} (l : List α) (i : Nat) (d : α) (h : i < l.length) : l.drop i = l.getD i d :: l.drop (i + 1) := by
  rw [List.drop_eq_getElem_cons h, List.getD_eq_getElem?_getD, List.getElem?_eq_getElem h, Option.getD_some]
theorem getD_mem {α : Type} (l : List α) (i : Nat) (d : α) (h : i < l.length) : l.getD i d ∈ l := by
  rw [List.getD_eq_getElem?_getD, List.getElem?_eq_getElem h, Option.getD_some]; exact List.getElem_mem _
theorem toNat_nat (i : Nat) : Int.toNat (i : Int) = i := rfl
/-- A number behind another one: a round of a loop. -/
theorem fuel_step {d n : Nat} (h : d < n) : ∃ m, n = m + 1 := ⟨n - 1, by omega⟩
/-- Where something stands first. -/
def first (v : Int) : List Int → Option Nat
  | [] => none
  | x :: xs => if x = v then some 0 else (first v xs).map (· + 1)
theorem first_none {v : Int} : ∀ {l : List Int}, first v l = none → ∀ z ∈ l, z ≠ v
  | [], _, z, hz => by cases hz
  | x :: xs, h, z, hz => by
    unfold first at h
    split at h
    · cases h
    · rename_i hx
      rcases List.mem_cons.1 hz with rfl | hz
      · exact hx
      · exact first_none (by simpa using h) z hz
theorem first_some {v : Int} : ∀ {l : List Int} {k : Nat}, first v l = some k → k < l.length ∧ l.getD k 0 = v ∧ ∀ j, j < k → l.getD j 0 ≠ v
  | [], _, h => by cases h
  | x :: xs, k, h => by
    unfold first at h
    split at h
    · cases h
      rename_i hx
      exact ⟨by simp, by simpa using hx, fun j hj => by omega⟩
    · rename_i hx
      cases hf : first v xs with
      | none => simp [hf] at h
      | some m =>
        simp [hf] at h
        subst h
        obtain ⟨h1, h2, h3⟩ := first_some hf
        refine ⟨by simp; omega, by simpa using h2, fun j hj => ?_⟩
        cases j with
        | zero => simpa using hx
        | succ j => simpa using h3 j (by omega)

/-! What files do. -/
theorem num_some (e : Int) : num.f (some e) = some e := rfl
theorem num_none : num.f none = some 0 := rfl
def eo (e : Int) : Option Int := if e = 0 then none else some e
theorem num_eo (e : Int) : num.f (eo e) = some e := by
  unfold num.f eo
  split
  · rename_i h; rw [h]; rfl
  · rfl
abbrev mayP (k id off : Int) (nm : ByteArray) : Prop := 0 ≤ k ∧ k ≤ 3 ∧ 0 ≤ id ∧ id ≤ 1073741824 ∧ 0 ≤ off ∧ off ≤ 1073741824 ∧ nm.size ≤ 256
theorem may_eq (k id off : Int) (r w : Bool) (nm : ByteArray) (rf : Int) : file_File_may.f k id off r w nm rf = some (decide (mayP k id off nm)) := by
  unfold file_File_may.f
  by_cases h1 : k ≥ 0
  · rw [if_pos h1]
    by_cases h2 : k ≤ 3
    · rw [if_pos h2]
      by_cases h3 : id ≥ 0
      · rw [if_pos h3]
        by_cases h4 : id ≤ 1073741824
        · rw [if_pos h4]
          by_cases h5 : off ≥ 0
          · rw [if_pos h5]
            by_cases h6 : off ≤ 1073741824
            · rw [if_pos h6]; congr 1; rw [decide_eq_decide]
              exact ⟨fun h => ⟨h1, h2, h3, h4, h5, h6, by omega⟩, fun h => by have := h.2.2.2.2.2.2; omega⟩
            · rw [if_neg h6]; congr 1; symm; rw [decide_eq_false_iff_not]; exact fun h => h6 h.2.2.2.2.2.1
          · rw [if_neg h5]; congr 1; symm; rw [decide_eq_false_iff_not]; exact fun h => h5 h.2.2.2.2.1
        · rw [if_neg h4]; congr 1; symm; rw [decide_eq_false_iff_not]; exact fun h => h4 h.2.2.2.1
      · rw [if_neg h3]; congr 1; symm; rw [decide_eq_false_iff_not]; exact fun h => h3 h.2.2.1
    · rw [if_neg h2]; congr 1; symm; rw [decide_eq_false_iff_not]; exact fun h => h2 h.2.1
  · rw [if_neg h1]; congr 1; symm; rw [decide_eq_false_iff_not]; exact fun h => h1 h.1
theorem sure_t : halterlaw19_sure.f = some true := by kernel_rfl

def cnt : List Int → Int → Nat
  | [], _ => 0
  | x :: xs, k => (if x = k then 1 else 0) + cnt xs k
theorem cnt_app : ∀ (a b : List Int) (k : Int), cnt (a ++ b) k = cnt a k + cnt b k
  | [], b, k => by simp [cnt]
  | x :: xs, b, k => by simp only [List.cons_append, cnt, cnt_app xs b k]; omega
theorem cnt_len : ∀ (a : List Int) (k : Int), cnt a k ≤ a.length
  | [], _ => Nat.le_refl _
  | x :: xs, k => by have := cnt_len xs k; unfold cnt; split <;> simp <;> omega
theorem cnt_zero : ∀ {a : List Int} {k : Int}, (∀ z ∈ a, z ≠ k) → cnt a k = 0
  | [], _, _ => rfl
  | x :: xs, k, h => by
    have := cnt_zero (a := xs) (k := k) (fun z hz => h z (by simp [hz]))
    unfold cnt; rw [if_neg (h x (by simp)), this]
theorem cnt_cut (L : List Int) (p : Nat) (h : p < L.length) (k : Int) : cnt L k = cnt (L.take p ++ L.drop (p + 1)) k + (if L.getD p 0 = k then 1 else 0) := by
  have e : L = L.take p ++ (L.getD p 0 :: L.drop (p + 1)) := by
    rw [← drop_getD L p 0 h, List.take_append_drop]
  rw [cnt_app]
  conv => lhs; rw [e, cnt_app, cnt]
  omega
theorem first_cnt {k : Int} : ∀ {L : List Int}, first k L = none → cnt L k = 0 := fun {L} h => cnt_zero (first_none h)
theorem first_cnt2 {k : Int} {L : List Int} {p : Nat} (h : first k L = some p) : 0 < cnt L k := by
  obtain ⟨h1, h2, _⟩ := first_some h
  have := cnt_cut L p h1 k
  rw [if_pos h2] at this
  omega
theorem cnt_mem : ∀ {a : List Int} {k : Int}, k ∈ a → 0 < cnt a k
  | [], _, h => by cases h
  | x :: xs, k, h => by
    unfold cnt
    rcases List.mem_cons.1 h with rfl | h
    · rw [if_pos rfl]; omega
    · have := cnt_mem h; omega

abbrev FT : Type := Int × (Int × (Int × (Bool × (Bool × (ByteArray × Int)))))
abbrev FZ : FT := ((0 : Int), ((0 : Int), ((0 : Int), (false, (false, (ByteArray.empty, (0 : Int)))))))
abbrev KZ : Int × FT := ((0 : Int), FZ)
abbrev rf (F : FT) : Int := F.2.2.2.2.2.2
abbrev keys (L : List (Int × FT)) : List Int := L.map Prod.fst
abbrev rfs (l : List FT) : List Int := l.map rf
/-- A sum over the numbers below n. -/
def tot (f : Nat → Nat) : Nat → Nat
  | 0 => 0
  | n + 1 => tot f n + f n
theorem tot_congr {f g : Nat → Nat} : ∀ {n : Nat}, (∀ k, k < n → f k = g k) → tot f n = tot g n
  | 0, _ => rfl
  | n + 1, h => by unfold tot; rw [tot_congr (n := n) (fun k hk => h k (by omega)), h n (by omega)]
theorem tot_add (f g : Nat → Nat) : ∀ n : Nat, tot (fun k => f k + g k) n = tot f n + tot g n
  | 0 => rfl
  | n + 1 => by unfold tot; rw [tot_add f g n]; omega
theorem tot_zero : ∀ n : Nat, tot (fun _ => 0) n = 0
  | 0 => rfl
  | n + 1 => by unfold tot; rw [tot_zero n]
theorem tot_one (x : Int) : ∀ n : Nat, tot (fun k => if x = (k : Int) then 1 else 0) n = if 0 ≤ x ∧ x < (n : Int) then 1 else 0
  | 0 => by unfold tot; rw [if_neg (by omega)]
  | n + 1 => by
    unfold tot; rw [tot_one x n]
    by_cases h : x = (n : Int)
    · rw [if_pos h, if_neg (by omega), if_pos (by omega)]
    · rw [if_neg h]
      by_cases g : 0 ≤ x ∧ x < (n : Int)
      · rw [if_pos g, if_pos (by omega)]
      · rw [if_neg g, if_neg (by omega)]
theorem tot_cnt (n : Nat) : ∀ ks : List Int, (∀ z ∈ ks, 0 ≤ z ∧ z < (n : Int)) → tot (fun k => cnt ks (k : Int)) n = ks.length
  | [], _ => tot_zero n
  | x :: xs, h => by
    have e : tot (fun k => cnt (x :: xs) (k : Int)) n = tot (fun k => (if x = (k : Int) then 1 else 0) + cnt xs (k : Int)) n := rfl
    rw [e, tot_add, tot_one, if_pos (h x (by simp)), tot_cnt n xs (fun z hz => h z (by simp [hz]))]
    simp; omega
theorem take_cnt (K : List Int) (v : Int) (n : Nat) (h : n < K.length) : cnt (K.take (n + 1)) v = cnt (K.take n) v + (if K.getD n 0 = v then 1 else 0) := by
  rw [List.take_add_one, cnt_app, List.getElem?_eq_getElem h, List.getD_eq_getElem?_getD, List.getElem?_eq_getElem h]
  simp [cnt]
theorem tot_used (K : List Int) : ∀ n : Nat, n ≤ K.length → tot (fun k => if K.getD k 0 = 0 then 0 else 1) n + cnt (K.take n) 0 = n
  | 0, _ => by simp [tot, cnt]
  | n + 1, h => by
    have := tot_used K n (by omega)
    rw [take_cnt K 0 n (by omega)]
    unfold tot
    by_cases g : K.getD n 0 = 0
    · rw [if_pos g, if_pos g]; omega
    · rw [if_neg g, if_neg g]; omega
theorem rfs_getD (l : List FT) (k : Nat) : (rfs l).getD k 0 = rf (l.getD k FZ) := by
  rw [List.getD_eq_getElem?_getD, List.getD_eq_getElem?_getD, List.getElem?_map]
  cases l[k]? <;> rfl
theorem keys_getD (L : List (Int × FT)) (k : Nat) : (keys L).getD k 0 = (L.getD k KZ).1 := by
  rw [List.getD_eq_getElem?_getD, List.getD_eq_getElem?_getD, List.getElem?_map]
  cases L[k]? <;> rfl
theorem setD {α : Type} (l : List α) (k : Nat) (v d : α) (h : k < l.length) : (l.set k v).getD k d = v := by
  rw [List.getD_eq_getElem?_getD, List.getElem?_set_self h]; rfl
theorem setD_ne {α : Type} (l : List α) (k j : Nat) (v d : α) (h : k ≠ j) : (l.set k v).getD j d = l.getD j d := by
  rw [List.getD_eq_getElem?_getD, List.getD_eq_getElem?_getD, List.getElem?_set_ne h]
theorem rmay_eq (k id off : Int) (r w : Bool) (nm : ByteArray) (rf : Int) : halterref19_May.f k id off r w nm rf = some (decide (mayP k id off nm)) := may_eq k id off r w nm rf
/-- The two say the same. -/
structure Alike (N : Nat) (l : List FT) (L : List (Int × FT)) : Prop where
  len : l.length = N
  one : ∀ k : Nat, k < N → cnt (keys L) (k : Int) = if rf (l.getD k FZ) = 0 then 0 else 1
  rng : ∀ z ∈ L, 0 ≤ z.1 ∧ z.1 < (N : Int)
  val : ∀ z ∈ L, l.getD z.1.toNat FZ = z.2
  bnd : ∀ k : Nat, k < N → 0 ≤ rf (l.getD k FZ) ∧ rf (l.getD k FZ) ≤ 1048576
abbrev used (N : Nat) (l : List FT) (k : Int) : Prop := 0 ≤ k ∧ k < (N : Int) ∧ rf (l.getD k.toNat FZ) ≠ 0
theorem Alike.size {N : Nat} {l : List FT} {L : List (Int × FT)} (h : Alike N l L) : L.length + cnt (rfs l) 0 = N := by
  have h1 := tot_cnt N (keys L) (fun z hz => by
    obtain ⟨y, hy, rfl⟩ := List.mem_map.1 hz
    exact h.rng y hy)
  have h2 := tot_used (rfs l) N (by simp [h.len])
  have h3 : tot (fun k => cnt (keys L) (k : Int)) N = tot (fun k => if (rfs l).getD k 0 = 0 then 0 else 1) N := tot_congr (fun k hk => by rw [rfs_getD, h.one k hk])
  have h4 : (rfs l).take N = rfs l := List.take_of_length_le (by simp [h.len])
  have h5 : (keys L).length = L.length := by simp
  rw [h4] at h2
  omega
theorem Alike.hasnt {N : Nat} {l : List FT} {L : List (Int × FT)} (h : Alike N l L) {k : Int} (hk : ¬ used N l k) : first k (keys L) = none := by
  cases hf : first k (keys L) with
  | none => rfl
  | some p =>
    exfalso
    obtain ⟨h1, h2, h3⟩ := first_some hf
    have h4 : p < L.length := by simpa using h1
    have h5 := h.rng _ (getD_mem L p KZ h4)
    rw [← keys_getD, h2] at h5
    have h6 := first_cnt2 hf
    have h7 := h.one k.toNat (by omega)
    have e : ((k.toNat : Nat) : Int) = k := by omega
    rw [e] at h7
    refine hk ⟨h5.1, h5.2, fun h0 => ?_⟩
    rw [if_pos h0] at h7
    omega
theorem Alike.has {N : Nat} {l : List FT} {L : List (Int × FT)} (h : Alike N l L) {k : Int} (hk : used N l k) : ∃ p, first k (keys L) = some p ∧ p < L.length ∧ L.getD p KZ = (k, l.getD k.toNat FZ) := by
  obtain ⟨k1, k2, k3⟩ := hk
  have h7 := h.one k.toNat (by omega)
  have e : ((k.toNat : Nat) : Int) = k := by omega
  rw [e, if_neg k3] at h7
  cases hf : first k (keys L) with
  | none => have := first_cnt hf; omega
  | some p =>
    obtain ⟨h1, h2, h3⟩ := first_some hf
    have h4 : p < L.length := by simpa using h1
    rw [keys_getD] at h2
    have h5 := h.val _ (getD_mem L p KZ h4)
    rw [h2] at h5
    exact ⟨p, rfl, h4, Prod.ext h2 h5.symm⟩
theorem at_eq (l : List FT) (N : Nat) (k : Int) : file_Table_at_v1.f k N N l = some (if used N l k then .inr k.toNat else .inl 9) := by
  unfold file_Table_at_v1.f
  by_cases h1 : k < 0
  · rw [if_pos h1, if_neg (fun h => by have := h.1; omega)]
  · rw [if_neg h1]
    by_cases h2 : k ≥ ((N : Nat) : Int)
    · rw [if_pos h2, if_neg (fun h => by have := h.2.1; omega)]
    · rw [if_neg h2, if_pos (show 0 ≤ k ∧ k < ((N : Nat) : Int) by omega), Nat.zero_add, if_pos (show k.toNat < N by omega)]
      by_cases h3 : rf (l.getD k.toNat FZ) = 0
      · rw [if_pos h3, if_neg (fun h => h.2.2 h3)]
      · rw [if_neg h3, if_pos (show 0 ≤ k ∧ k < ((N : Nat) : Int) by omega), if_pos ⟨by omega, by omega, h3⟩]
theorem rat (m : Int) (L : List (Int × FT)) (k : Int) (hl : L.length ≤ 1000) : ∀ (d i n : Nat), i + d = L.length → d < n →
    halterref19_At.l0 m L k n (i : Int) = some (match first k (keys (L.drop i)) with | none => .inl () | some p => .inr ((i + p : Nat) : Int)) := by
  intro d
  induction d with
  | zero =>
    intro i n hi hn
    obtain ⟨q, rfl⟩ := fuel_step hn
    rw [halterref19_At.l0, if_neg (by omega), List.drop_eq_nil_of_le (by omega)]
    rfl
  | succ d ih =>
    intro i n hi hn
    obtain ⟨q, rfl⟩ := fuel_step hn
    rw [halterref19_At.l0, if_pos (by omega), if_pos ⟨by omega, by omega⟩, toNat_nat, drop_getD L i KZ (by omega)]
    unfold keys
    rw [List.map_cons, first]
    by_cases h0 : (L.getD i KZ).1 = k
    · rw [if_pos h0, if_pos h0]; rfl
    · rw [if_neg h0, if_neg h0, wsucc (by omega), ih (i + 1) q (by omega) (by omega)]
      unfold keys
      cases first k ((L.drop (i + 1)).map Prod.fst) with
      | none => rfl
      | some p =>
        simp only [Option.map_some]
        have e : i + 1 + p = i + (p + 1) := by omega
        rw [e]
theorem At_eq (m : Int) (L : List (Int × FT)) (k : Int) (hl : L.length ≤ 1000) : halterref19_At.f m L k = some (match first k (keys L) with | none => -1 | some p => (p : Int)) := by
  unfold halterref19_At.f
  have := rat m L k hl L.length 0 FUEL (by omega) (fuel_gt (by omega))
  have z0 : ((0 : Nat) : Int) = 0 := rfl
  rw [z0, List.drop_zero] at this
  rw [this, bind_go]
  cases first k (keys L) with
  | none => rfl
  | some p => simp only [Nat.zero_add]
theorem Alike.get_none {N : Nat} {l : List FT} {L : List (Int × FT)} (h : Alike N l L) (hN : N ≤ 32) (m : Int) {k : Int} (hk : ¬ used N l k) : halterref19_Get.f m L k = some (0, 0, 0, false, false, ByteArray.empty, 0, 9) := by
  have hs := h.size
  unfold halterref19_Get.f
  rw [At_eq m L k (by omega), h.hasnt hk, bind_go]
  rfl
theorem Alike.get_some {N : Nat} {l : List FT} {L : List (Int × FT)} (h : Alike N l L) (hN : N ≤ 32) (m : Int) {k : Int} (hk : used N l k) (F : FT) (hF : l.getD k.toNat FZ = F) : halterref19_Get.f m L k = some (F.1, F.2.1, F.2.2.1, F.2.2.2.1, F.2.2.2.2.1, F.2.2.2.2.2.1, F.2.2.2.2.2.2, 0) := by
  have hs := h.size
  obtain ⟨p, h1, h2, h3⟩ := h.has hk
  unfold halterref19_Get.f
  rw [At_eq m L k (by omega), h1, bind_go]
  dsimp only
  rw [if_neg (by omega), if_pos ⟨by omega, by omega⟩, toNat_nat, h3, hF]
/-- The list with one item in place of those of its number. -/
def wth (k : Int) (F : FT) : List (Int × FT) → List (Int × FT)
  | [] => []
  | z :: zs => if ¬ z.1 = k then z :: wth k F zs else if rf F > 0 then (k, F) :: wth k F zs else wth k F zs
theorem wth_loop (m : Int) (L : List (Int × FT)) (k : Int) (F : FT) (hl : L.length ≤ 1000) : ∀ (d i n : Nat) (acc : List (Int × FT)), i + d = L.length → d < n → acc.length ≤ i →
    halterref19_With.l0 m L k F.1 F.2.1 F.2.2.1 F.2.2.2.1 F.2.2.2.2.1 F.2.2.2.2.2.1 F.2.2.2.2.2.2 n acc (i : Int) = some (acc ++ wth k F (L.drop i)) := by
  intro d
  induction d with
  | zero =>
    intro i n acc hi hn ha
    obtain ⟨q, rfl⟩ := fuel_step hn
    rw [halterref19_With.l0, if_neg (by omega), List.drop_eq_nil_of_le (by omega), wth, List.append_nil]
  | succ d ih =>
    intro i n acc hi hn ha
    obtain ⟨q, rfl⟩ := fuel_step hn
    have hg : (0 : Int) ≤ (i : Int) ∧ (i : Int) < ((L.length : Nat) : Int) := by omega
    rw [halterref19_With.l0, if_pos hg.2, if_pos hg, toNat_nat, drop_getD L i KZ (by omega), wth]
    by_cases h0 : (L.getD i KZ).1 = k
    · have hn : ¬ ¬ (L.getD i KZ).1 = k := fun h => h h0
      rw [if_neg hn, if_neg hn]
      by_cases h1 : rf F > 0
      · rw [if_pos h1, if_pos h1, if_pos ⟨by omega, rfl, rfl, (show (acc.length + 1) * 64 ≤ 140737488355328 by omega), (show acc.length + 1 ≤ 9223372036854775807 by omega)⟩, wsucc (by omega)]
        have := ih (i + 1) q (acc ++ [(k, F)]) (by omega) (by omega) (by rw [List.length_append]; simp; omega)
        rw [List.append_assoc] at this
        exact this
      · rw [if_neg h1, if_neg h1, wsucc (by omega)]
        exact ih (i + 1) q acc (by omega) (by omega) (by omega)
    · rw [if_pos h0, if_pos h0, if_pos hg, if_pos ⟨by omega, rfl, rfl, (show (acc.length + 1) * 64 ≤ 140737488355328 by omega), (show acc.length + 1 ≤ 9223372036854775807 by omega)⟩, wsucc (by omega)]
      have := ih (i + 1) q (acc ++ [L.getD i KZ]) (by omega) (by omega) (by rw [List.length_append]; simp; omega)
      rw [List.append_assoc] at this
      exact this
theorem With_eq (m : Int) (L : List (Int × FT)) (k : Int) (F : FT) (hl : L.length ≤ 1000) : halterref19_With.f m L k F.1 F.2.1 F.2.2.1 F.2.2.2.1 F.2.2.2.2.1 F.2.2.2.2.2.1 F.2.2.2.2.2.2 = some (m, wth k F L) := by
  unfold halterref19_With.f
  have := wth_loop m L k F hl L.length 0 FUEL [] (by omega) (fuel_gt (by omega)) (by simp)
  have z0 : ((0 : Nat) : Int) = 0 := rfl
  rw [z0, List.drop_zero, List.nil_append] at this
  rw [this, bind_go]
theorem wth_cnt (k : Int) (F : FT) (j : Int) : ∀ L : List (Int × FT), cnt (keys (wth k F L)) j = if j = k then (if rf F > 0 then cnt (keys L) k else 0) else cnt (keys L) j
  | [] => by simp [wth, cnt]
  | z :: zs => by
    have ih := wth_cnt k F j zs
    unfold keys at ih ⊢
    rw [wth, List.map_cons, cnt, cnt]
    by_cases h0 : z.1 = k
    · rw [if_neg (fun h => h h0)]
      by_cases h1 : rf F > 0
      · rw [if_pos h1, List.map_cons, cnt, ih, h0]
        by_cases hj : j = k
        · subst hj; simp [h1]
        · have : ¬ k = j := fun h => hj h.symm
          simp [hj, this]
      · rw [if_neg h1, ih, h0]
        by_cases hj : j = k
        · subst hj; simp [h1]
        · have : ¬ k = j := fun h => hj h.symm
          simp [hj, this]
    · rw [if_pos h0, List.map_cons, cnt, ih]
      by_cases hj : j = k
      · subst hj; simp [h0]
      · simp [hj]
theorem wth_mem (k : Int) (F : FT) (y : Int × FT) : ∀ L : List (Int × FT), y ∈ wth k F L → (y ∈ L ∧ y.1 ≠ k) ∨ y = (k, F)
  | [], h => by cases h
  | z :: zs, h => by
    unfold wth at h
    split at h
    · rename_i h0
      rcases List.mem_cons.1 h with rfl | h
      · exact Or.inl ⟨by simp, h0⟩
      · rcases wth_mem k F y zs h with h | h
        · exact Or.inl ⟨by simp [h.1], h.2⟩
        · exact Or.inr h
    · split at h
      · rcases List.mem_cons.1 h with rfl | h
        · exact Or.inr rfl
        · rcases wth_mem k F y zs h with h | h
          · exact Or.inl ⟨by simp [h.1], h.2⟩
          · exact Or.inr h
      · rcases wth_mem k F y zs h with h | h
        · exact Or.inl ⟨by simp [h.1], h.2⟩
        · exact Or.inr h
theorem Alike.put {N : Nat} {l : List FT} {L : List (Int × FT)} (h : Alike N l L) {k : Int} (hk : used N l k) (F : FT) (hF : 0 ≤ rf F ∧ rf F ≤ 1048576) : Alike N (l.set k.toNat F) (wth k F L) := by
  obtain ⟨k1, k2, k3⟩ := hk
  have hl := h.len
  have e : ((k.toNat : Nat) : Int) = k := by omega
  have h7 := h.one k.toNat (by omega)
  rw [e, if_neg k3] at h7
  refine ⟨by rw [List.length_set]; exact hl, fun j hj => ?_, fun z hz => ?_, fun z hz => ?_, fun j hj => ?_⟩
  · rw [wth_cnt]
    by_cases hjk : (j : Int) = k
    · have : j = k.toNat := by omega
      rw [if_pos hjk, this, setD _ _ _ _ (by omega), h7]
      by_cases h0 : rf F = 0
      · rw [if_neg (by omega), if_pos h0]
      · rw [if_pos (by omega), if_neg h0]
    · rw [if_neg hjk, setD_ne _ _ _ _ _ (by omega)]
      exact h.one j hj
  · rcases wth_mem k F z L hz with h1 | rfl
    · exact h.rng z h1.1
    · exact ⟨k1, k2⟩
  · rcases wth_mem k F z L hz with h1 | rfl
    · have := h.rng z h1.1
      have h2 := h1.2
      rw [setD_ne _ _ _ _ _ (by omega)]
      exact h.val z h1.1
    · exact setD _ _ _ _ (by omega)
  · by_cases hjk : k.toNat = j
    · subst hjk; rw [setD _ _ _ _ (by omega)]; exact hF
    · rw [setD_ne _ _ _ _ _ hjk]; exact h.bnd j hj
theorem Alike.add {N : Nat} {l : List FT} {L : List (Int × FT)} (h : Alike N l L) (q : Nat) (hq : q < N) (h0 : rf (l.getD q FZ) = 0) (F : FT) (hF : rf F = 1) : Alike N (l.set q F) (L ++ [((q : Int), F)]) := by
  have hl := h.len
  have h7 := h.one q hq
  rw [if_pos h0] at h7
  have hne : ∀ z ∈ L, z.1 ≠ (q : Int) := fun z hz e => by
    have := cnt_mem (a := keys L) (k := (q : Int)) (List.mem_map.2 ⟨z, hz, e⟩)
    omega
  refine ⟨by rw [List.length_set]; exact hl, fun j hj => ?_, fun z hz => ?_, fun z hz => ?_, fun j hj => ?_⟩
  · unfold keys
    rw [List.map_append, cnt_app, h.one j hj]
    by_cases hjq : q = j
    · subst hjq
      rw [setD _ _ _ _ (by omega), h0, hF]
      simp [cnt]
    · have : ¬ (q : Int) = (j : Int) := by omega
      rw [setD_ne _ _ _ _ _ hjq]
      simp [cnt, this]
  · rcases List.mem_append.1 hz with hz | hz
    · exact h.rng z hz
    · have := List.mem_singleton.1 hz; subst this; exact ⟨by omega, by omega⟩
  · rcases List.mem_append.1 hz with hz | hz
    · have h1 := hne z hz
      have h2 := h.rng z hz
      rw [setD_ne _ _ _ _ _ (by omega)]
      exact h.val z hz
    · have := List.mem_singleton.1 hz; subst this
      exact setD _ _ _ _ (by omega)
  · by_cases hjk : q = j
    · subst hjk; rw [setD _ _ _ _ (by omega), hF]; omega
    · rw [setD_ne _ _ _ _ _ hjk]; exact h.bnd j hj
theorem topen (F : FT) (a6 : Int) (l : List FT) (N : Nat) (hl : l.length = N) (hN : N ≤ 32) : ∀ (d i n : Nat), i + d = N → d < n →
    file_Table_Open_v1.l0 F.1 F.2.1 F.2.2.1 F.2.2.2.1 F.2.2.2.2.1 F.2.2.2.2.2.1 a6 N N l n (i : Int) = some (match first 0 (rfs (l.drop i)) with | none => .inl () | some q => .inr (l.set (i + q) (F.1, F.2.1, F.2.2.1, F.2.2.2.1, F.2.2.2.2.1, F.2.2.2.2.2.1, 1), ((i + q : Nat) : Int))) := by
  intro d
  induction d with
  | zero =>
    intro i n hi hn
    obtain ⟨q, rfl⟩ := fuel_step hn
    rw [file_Table_Open_v1.l0, if_neg (by omega), List.drop_eq_nil_of_le (by omega)]
    rfl
  | succ d ih =>
    intro i n hi hn
    obtain ⟨q, rfl⟩ := fuel_step hn
    have hg : (0 : Int) ≤ (i : Int) ∧ (i : Int) < ((N : Nat) : Int) := by omega
    have hiN : i < N := by omega
    rw [file_Table_Open_v1.l0, if_pos hg.2, if_pos hg, toNat_nat, Nat.zero_add, if_pos hiN, drop_getD l i FZ (by omega)]
    unfold rfs
    rw [List.map_cons, first]
    by_cases h0 : rf (l.getD i FZ) = 0
    · rw [if_pos h0, if_pos h0, if_pos hg, if_pos hiN]; rfl
    · rw [if_neg h0, if_neg h0, wsucc (by omega), ih (i + 1) q (by omega) (by omega)]
      unfold rfs
      cases first 0 ((l.drop (i + 1)).map rf) with
      | none => rfl
      | some p =>
        simp only [Option.map_some]
        have e : i + 1 + p = i + (p + 1) := by omega
        rw [e]
theorem ropen (m : Int) (a2 a3 a4 : Int) (a5 a6 : Bool) (a7 : ByteArray) (a8 : Int) {N : Nat} {l : List FT} {L : List (Int × FT)} (h : Alike N l L) (hN : N ≤ 32) (q : Nat) (hq : first 0 (rfs l) = some q) : ∀ (d i n : Nat), i + d = q → d < n →
    halterref19_Open.l0 m L a2 a3 a4 a5 a6 a7 a8 n (i : Int) = some (q : Int) := by
  obtain ⟨h1, h2, h3⟩ := first_some hq
  have hs := h.size
  have hl := h.len
  rw [List.length_map] at h1
  intro d
  induction d with
  | zero =>
    intro i n hi hn
    obtain ⟨r, rfl⟩ := fuel_step hn
    have e : i = q := by omega
    subst e
    rw [rfs_getD] at h2
    rw [halterref19_Open.l0, At_eq m L _ (by omega), h.hasnt (fun hu => hu.2.2 (by rw [toNat_nat]; exact h2)), bind_go]
    rfl
  | succ d ih =>
    intro i n hi hn
    obtain ⟨r, rfl⟩ := fuel_step hn
    have hi' := h3 i (by omega)
    rw [rfs_getD] at hi'
    obtain ⟨p, p1, _, _⟩ := h.has (k := (i : Int)) ⟨by omega, by omega, by rw [toNat_nat]; exact hi'⟩
    rw [halterref19_Open.l0, At_eq m L _ (by omega), p1, bind_go]
    dsimp only
    rw [if_pos (by omega), wsucc (by omega)]
    exact ih (i + 1) r (by omega) (by omega)
theorem tlist (l : List FT) (N : Nat) (hl : l.length = N) (hN : N ≤ 32) (hb : ∀ k : Nat, k < N → 0 ≤ rf (l.getD k FZ)) : ∀ (d i n : Nat) (acc : List Int), i + d = N → d < n → acc.length ≤ i →
    ∃ r, file_Table_List_v1.l0 N N l n acc (i : Int) = some r ∧ r.length + cnt (rfs (l.drop i)) 0 = acc.length + d := by
  intro d
  induction d with
  | zero =>
    intro i n acc hi hn ha
    obtain ⟨q, rfl⟩ := fuel_step hn
    rw [file_Table_List_v1.l0, if_neg (by omega), List.drop_eq_nil_of_le (by omega)]
    exact ⟨acc, rfl, rfl⟩
  | succ d ih =>
    intro i n acc hi hn ha
    obtain ⟨q, rfl⟩ := fuel_step hn
    have hg : (0 : Int) ≤ (i : Int) ∧ (i : Int) < ((N : Nat) : Int) := by omega
    have hbi := hb i (by omega)
    rw [file_Table_List_v1.l0, if_pos hg.2, if_pos hg, toNat_nat, Nat.zero_add, if_pos (by omega), drop_getD l i FZ (by omega)]
    unfold rfs
    rw [List.map_cons, cnt]
    by_cases h0 : rf (l.getD i FZ) > 0
    · rw [if_pos h0, if_pos ⟨⟨rfl, rfl⟩, rfl, rfl, by omega, by omega⟩, wsucc (by omega), if_neg (by omega)]
      obtain ⟨r, r1, r2⟩ := ih (i + 1) q (acc ++ [(i : Int)]) (by omega) (by omega) (by rw [List.length_append]; simp; omega)
      rw [List.length_append] at r2
      refine ⟨r, r1, ?_⟩
      unfold rfs at r2
      simp only [List.length_cons, List.length_nil] at r2
      omega
    · rw [if_neg h0, wsucc (by omega), if_pos (by omega)]
      obtain ⟨r, r1, r2⟩ := ih (i + 1) q acc (by omega) (by omega) (by omega)
      refine ⟨r, r1, ?_⟩
      unfold rfs at r2
      omega
theorem List_ok {N : Nat} {l : List FT} {L : List (Int × FT)} (h : Alike N l L) (hN : N ≤ 32) : ∃ r, file_Table_List_v1.f N N l = some r ∧ r.length = L.length := by
  obtain ⟨r, r1, r2⟩ := tlist l N h.len hN (fun k hk => (h.bnd k hk).1) N 0 FUEL [] (by omega) (fuel_gt (by omega)) (by simp)
  have z0 : ((0 : Nat) : Int) = 0 := rfl
  rw [z0] at r1
  rw [List.drop_zero] at r2
  have hs := h.size
  unfold file_Table_List_v1.f
  rw [r1, bind_go]
  exact ⟨r, rfl, by simp at r2; omega⟩
/-- An operation leaves the two alike, and says the same. -/
def Same (N : Nat) (e : Option (List FT × Int × List (Int × FT) × Int × Int)) : Prop := ∃ (l : List FT) (L : List (Int × FT)) (c : Int), Alike N l L ∧ e = some (l, (N : Int), L, c, c)
theorem Ref_ok {N : Nat} {l : List FT} {L : List (Int × FT)} (h : Alike N l L) (hN : N ≤ 32) (k : Int) : ∃ (l' : List FT) (L' : List (Int × FT)) (e : Option Int) (c : Int) (F : FT), Alike N l' L' ∧ file_Table_Ref_v1.f k N N l = some (e, l') ∧ num.f e = some c ∧ halterref19_Ref.f (N : Int) L k 1 = some ((N : Int), L', F.1, F.2.1, F.2.2.1, F.2.2.2.1, F.2.2.2.2.1, F.2.2.2.2.2.1, F.2.2.2.2.2.2, c) := by
  have hs := h.size
  have hl := h.len
  unfold file_Table_Ref_v1.f halterref19_Ref.f
  rw [at_eq, bind_go]
  by_cases hu : used N l k
  · rw [if_pos hu]
    dsimp only
    have hx := hu
    obtain ⟨k1, k2, k3⟩ := hx
    have hb := h.bnd k.toNat (by omega)
    have hg := fun F (hF : l.getD k.toNat FZ = F) => h.get_some hN (N : Int) hu F hF
    have hp := h.put hu
    generalize l.getD k.toNat FZ = F0 at hb k3 hg ⊢
    obtain ⟨f0, f1, f2, f3, f4, f5, f6⟩ := F0
    have hb : 0 ≤ f6 ∧ f6 ≤ 1048576 := hb
    have k3 : f6 ≠ 0 := k3
    dsimp only
    rw [hg _ rfl, bind_go]
    dsimp only
    rw [if_pos (by omega), if_neg (show ¬ ¬ (0 : Int) = 0 from fun h => h rfl), wi64 (x := f6 + 1) (by omega) (by omega)]
    by_cases hm : f6 ≥ 1048576
    · rw [if_pos hm, if_pos (by omega)]
      exact ⟨l, L, some 22, 22, (0, 0, 0, false, false, ByteArray.empty, 0), h, rfl, rfl, rfl⟩
    · rw [if_neg hm, if_pos (by omega), if_pos (by omega), if_neg (by omega), With_eq (N : Int) L k (f0, f1, f2, f3, f4, f5, f6 + 1) (by omega), bind_go]
      exact ⟨_, _, none, 0, (f0, f1, f2, f3, f4, f5, f6 + 1), hp _ ⟨by show 0 ≤ f6 + 1; omega, by show f6 + 1 ≤ 1048576; omega⟩, rfl, rfl, rfl⟩
  · rw [if_neg hu]
    dsimp only
    rw [h.get_none hN (N : Int) hu, bind_go]
    dsimp only
    rw [if_pos (by decide)]
    exact ⟨l, L, some 9, 9, (0, 0, 0, false, false, ByteArray.empty, 0), h, rfl, rfl, rfl⟩
theorem Unref_ok {N : Nat} {l : List FT} {L : List (Int × FT)} (h : Alike N l L) (hN : N ≤ 32) (k : Int) : ∃ (l' : List FT) (L' : List (Int × FT)) (e : Option Int) (c : Int) (F : FT), Alike N l' L' ∧ file_Table_Unref_v1.f k N N l = some (F.1, F.2.1, F.2.2.1, F.2.2.2.1, F.2.2.2.2.1, F.2.2.2.2.2.1, F.2.2.2.2.2.2, (if c = 0 then (F.2.2.2.2.2.2 == 0) else false), e, l') ∧ num.f e = some c ∧ halterref19_Ref.f (N : Int) L k (-1) = some ((N : Int), L', F.1, F.2.1, F.2.2.1, F.2.2.2.1, F.2.2.2.2.1, F.2.2.2.2.2.1, F.2.2.2.2.2.2, c) := by
  have hs := h.size
  have hl := h.len
  unfold file_Table_Unref_v1.f halterref19_Ref.f
  rw [at_eq, bind_go]
  by_cases hu : used N l k
  · rw [if_pos hu]
    dsimp only
    have hx := hu
    obtain ⟨k1, k2, k3⟩ := hx
    have hb := h.bnd k.toNat (by omega)
    have hg := fun F (hF : l.getD k.toNat FZ = F) => h.get_some hN (N : Int) hu F hF
    have hp := h.put hu
    generalize l.getD k.toNat FZ = F0 at hb k3 hg ⊢
    obtain ⟨f0, f1, f2, f3, f4, f5, f6⟩ := F0
    have hb : 0 ≤ f6 ∧ f6 ≤ 1048576 := hb
    have k3 : f6 ≠ 0 := k3
    dsimp only
    have hk : k.toNat < N := by omega
    rw [hg _ rfl, bind_go]
    dsimp only
    have e1 : f6 + -1 = f6 - 1 := by omega
    rw [if_pos hk, if_pos hk, if_pos hk, if_pos hk, if_neg (show ¬ ¬ (0 : Int) = 0 from fun h => h rfl), setD _ _ _ _ (by omega), e1, wi64 (x := f6 - 1) (by omega) (by omega), if_neg (by omega), With_eq (N : Int) L k (f0, f1, f2, f3, f4, f5, f6 - 1) (by omega), bind_go]
    exact ⟨_, _, none, 0, (f0, f1, f2, f3, f4, f5, f6 - 1), hp _ ⟨by show 0 ≤ f6 - 1; omega, by show f6 - 1 ≤ 1048576; omega⟩, rfl, rfl, rfl⟩
  · rw [if_neg hu]
    dsimp only
    rw [h.get_none hN (N : Int) hu, bind_go]
    dsimp only
    rw [if_pos (by decide)]
    exact ⟨l, L, some 9, 9, (0, 0, 0, false, false, ByteArray.empty, 0), h, rfl, rfl, rfl⟩
theorem Move_ok {N : Nat} {l : List FT} {L : List (Int × FT)} (h : Alike N l L) (hN : N ≤ 32) (k to : Int) : ∃ (l' : List FT) (L' : List (Int × FT)) (e : Option Int) (c : Int), Alike N l' L' ∧ file_Table_Move_v1.f k to N N l = some (e, l') ∧ num.f e = some c ∧ halterref19_Move.f (N : Int) L k to = some ((N : Int), L', c) := by
  have hs := h.size
  have hl := h.len
  unfold file_Table_Move_v1.f halterref19_Move.f
  rw [at_eq, bind_go]
  by_cases hu : used N l k
  · rw [if_pos hu]
    dsimp only
    have hx := hu
    obtain ⟨k1, k2, k3⟩ := hx
    have hb := h.bnd k.toNat (by omega)
    have hg := fun F (hF : l.getD k.toNat FZ = F) => h.get_some hN (N : Int) hu F hF
    have hp := h.put hu
    generalize l.getD k.toNat FZ = F0 at hb k3 hg ⊢
    obtain ⟨f0, f1, f2, f3, f4, f5, f6⟩ := F0
    have hb : 0 ≤ f6 ∧ f6 ≤ 1048576 := hb
    have k3 : f6 ≠ 0 := k3
    dsimp only
    have hk : k.toNat < N := by omega
    rw [hg _ rfl, bind_go]
    dsimp only
    rw [if_neg (show ¬ ¬ (0 : Int) = 0 from fun h => h rfl)]
    by_cases h1 : to < 0
    · rw [if_pos h1, if_pos h1]
      exact ⟨l, L, some 22, 22, h, rfl, rfl, rfl⟩
    · rw [if_neg h1, if_neg h1]
      by_cases h2 : to > 1073741824
      · rw [if_pos h2, if_pos h2]
        exact ⟨l, L, some 22, 22, h, rfl, rfl, rfl⟩
      · rw [if_neg h2, if_neg h2, if_pos hk, With_eq (N : Int) L k (f0, f1, to, f3, f4, f5, f6) (by omega), bind_go]
        exact ⟨_, _, none, 0, hp (f0, f1, to, f3, f4, f5, f6) hb, rfl, rfl, rfl⟩
  · rw [if_neg hu]
    dsimp only
    rw [h.get_none hN (N : Int) hu, bind_go]
    dsimp only
    rw [if_pos (by decide)]
    exact ⟨l, L, some 9, 9, h, rfl, rfl, rfl⟩
theorem Open_ok {N : Nat} {l : List FT} {L : List (Int × FT)} (h : Alike N l L) (hN : N ≤ 32) (F : FT) : ∃ (l' : List FT) (L' : List (Int × FT)) (e : Option Int) (c q : Int), Alike N l' L' ∧ file_Table_Open_v1.f F.1 F.2.1 F.2.2.1 F.2.2.2.1 F.2.2.2.2.1 F.2.2.2.2.2.1 F.2.2.2.2.2.2 N N l = some (q, e, l') ∧ num.f e = some c ∧ halterref19_Open.f (N : Int) L F.1 F.2.1 F.2.2.1 F.2.2.2.1 F.2.2.2.2.1 F.2.2.2.2.2.1 F.2.2.2.2.2.2 = some ((N : Int), L', q, c) := by
  have hs := h.size
  have hl := h.len
  have z0 : ((0 : Nat) : Int) = 0 := rfl
  unfold file_Table_Open_v1.f halterref19_Open.f
  rw [may_eq, bind_go, rmay_eq, bind_go]
  by_cases hm : mayP F.1 F.2.1 F.2.2.1 F.2.2.2.2.2.1
  · rw [if_neg (fun h => h (decide_eq_true hm)), if_neg (fun h => h (decide_eq_true hm))]
    have ht := topen F F.2.2.2.2.2.2 l N hl hN N 0 FUEL (by omega) (fuel_gt (by omega))
    rw [z0, List.drop_zero] at ht
    rw [ht, bind_go]
    cases hf : first 0 (rfs l) with
    | none =>
      have := first_cnt hf
      rw [if_pos (by omega)]
      exact ⟨l, L, some 23, 23, 0, h, rfl, rfl, rfl⟩
    | some q =>
      have hc := first_cnt2 hf
      obtain ⟨q1, q2, q3⟩ := first_some hf
      rw [List.length_map] at q1
      rw [rfs_getD] at q2
      have hr := ropen (N : Int) F.1 F.2.1 F.2.2.1 F.2.2.2.1 F.2.2.2.2.1 F.2.2.2.2.2.1 F.2.2.2.2.2.2 h hN q hf q 0 FUEL (by omega) (fuel_gt (by omega))
      rw [z0] at hr
      dsimp only
      rw [if_neg (by omega), hr, bind_go, toNat_nat, List.take_length, if_pos ⟨by omega, by show 0 < 1; omega, (show (L.length + 1) * 64 ≤ 140737488355328 by omega), (show L.length + 1 ≤ 9223372036854775807 by omega)⟩, Nat.zero_add]
      exact ⟨_, _, none, 0, _, h.add q (by omega) q2 (F.1, F.2.1, F.2.2.1, F.2.2.2.1, F.2.2.2.2.1, F.2.2.2.2.2.1, 1) rfl, rfl, rfl, rfl⟩
  · rw [if_pos (fun h => hm (of_decide_eq_true h)), if_pos (fun h => hm (of_decide_eq_true h))]
    exact ⟨l, L, some 22, 22, 0, h, rfl, rfl, rfl⟩
theorem j2_ok (t2 : TY0) (t3 : TY1) (N : Nat) (hN : N ≤ 32) (r0 : List FT) (a1 : List (Int × (Int × (Int × FT)))) (l : List FT) (L : List (Int × FT)) (i : Nat) (h : Alike N l L) : ∃ l' L' c, Alike N l' L' ∧ halterlaw19_FileRuns.j2 t2 t3 (N, N, r0) l (N : Int) L (i : Int) a1 = some (.inl (l', (N : Int), L', c, c)) := by
  unfold halterlaw19_FileRuns.j2
  rw [toNat_nat]
  generalize List.getD a1 i _ = st
  obtain ⟨kd0, x, y, F⟩ := st
  dsimp only
  generalize IntKind.wrap .i64 (Int.tmod (IntKind.wrap .u64 kd0) (7 : Int)) = kd
  by_cases k3 : kd = 3
  · obtain ⟨l', L', e, c, G, h1, h2, h3, h4⟩ := Ref_ok h hN x
    rw [if_pos k3, h2, bind_go, h3, bind_go, h4, bind_go]
    exact ⟨l', L', c, h1, rfl⟩
  · rw [if_neg k3]
    by_cases k4 : kd = 4
    · obtain ⟨l', L', e, c, G, h1, h2, h3, h4⟩ := Unref_ok h hN x
      rw [if_pos k4, h2, bind_go, h4, bind_go]
      dsimp only
      rw [if_neg (fun h => h ⟨rfl, rfl, rfl, rfl, rfl, rfl, rfl⟩)]
      by_cases hc : c = 0
      · rw [if_pos hc, if_pos hc, if_neg (fun h => h rfl), h3, bind_go]
        exact ⟨l', L', c, h1, rfl⟩
      · rw [if_neg hc, if_neg hc, if_neg (fun h => h rfl), h3, bind_go]
        exact ⟨l', L', c, h1, rfl⟩
    · rw [if_neg k4]
      by_cases k5 : kd = 5
      · obtain ⟨l', L', e, c, G, h1, h2, h3, h4⟩ := Unref_ok h hN x
        rw [if_pos k5, h2, bind_go, h4, bind_go]
        dsimp only
        rw [if_neg (fun h => h ⟨rfl, rfl, rfl, rfl, rfl, rfl, rfl⟩)]
        by_cases hc : c = 0
        · rw [if_pos hc, if_pos hc, if_neg (fun h => h rfl), h3, bind_go]
          exact ⟨l', L', c, h1, rfl⟩
        · rw [if_neg hc, if_neg hc, if_neg (fun h => h rfl), h3, bind_go]
          exact ⟨l', L', c, h1, rfl⟩
      · rw [if_neg k5]
        by_cases k6 : kd = 6
        · obtain ⟨l', L', e, c, h1, h2, h3, h4⟩ := Move_ok h hN x y
          rw [if_pos k6, h2, bind_go, h3, bind_go, h4, bind_go]
          exact ⟨l', L', c, h1, rfl⟩
        · obtain ⟨l', L', e, c, q, h1, h2, h3, h4⟩ := Open_ok h hN F
          rw [if_neg k6, h2, bind_go, h4, bind_go]
          dsimp only
          rw [if_neg (fun h => h rfl), h3, bind_go]
          exact ⟨l', L', c, h1, rfl⟩
theorem j1_ok (t2 : TY0) (t3 : TY1) (N : Nat) (hN : N ≤ 32) (r0 : List FT) (a1 : List (Int × (Int × (Int × FT)))) (l : List FT) (L : List (Int × FT)) (i : Nat) (h : Alike N l L) (hi : i < a1.length) : ∃ l' L', Alike N l' L' ∧ halterlaw19_FileRuns.j1 t2 t3 (N, N, r0) l (N : Int) L (i : Int) a1 = some (.inl (l', (N : Int), L')) := by
  unfold halterlaw19_FileRuns.j1
  rw [if_pos ⟨by omega, by omega⟩]
  obtain ⟨l', L', c, h1, h2⟩ := j2_ok t2 t3 N hN r0 a1 l L i h
  rw [h2, bind_go, toNat_nat]
  generalize List.getD a1 i _ = st
  obtain ⟨kd0, x, y, F⟩ := st
  dsimp only
  by_cases hb : ((ByteArray.size F.2.2.2.2.2.1 : Nat) : Int) > 1000
  · rw [if_pos hb]; exact ⟨l, L, h, rfl⟩
  · rw [if_neg hb]
    obtain ⟨r, r1, r2⟩ := List_ok h1 hN
    unfold file_Table_Get_v1.f
    rw [at_eq, bind_go]
    by_cases hu : used N l' x
    · have hx := hu
      obtain ⟨k1, k2, k3⟩ := hx
      rw [if_pos hu]
      dsimp only
      rw [if_pos (by omega), bind_go, h1.get_some hN (N : Int) hu _ rfl, bind_go]
      dsimp only
      rw [if_neg (fun h => h rfl), if_neg (fun h => h ⟨rfl, rfl, rfl, rfl, rfl, rfl, rfl⟩), num_none, bind_go, if_neg (fun h => h rfl), r1, bind_go, r2, if_neg (fun h => h rfl)]
      exact ⟨l', L', h1, rfl⟩
    · rw [if_neg hu]
      dsimp only
      rw [bind_go, h1.get_none hN (N : Int) hu, bind_go]
      dsimp only
      rw [if_neg (fun h => h rfl), if_neg (fun h => h ⟨rfl, rfl, rfl, rfl, rfl, rfl, rfl⟩), num_some, bind_go, if_neg (fun h => h rfl), r1, bind_go, r2, if_neg (fun h => h rfl)]
      exact ⟨l', L', h1, rfl⟩
theorem all_loop (t2 : TY0) (t3 : TY1) (N : Nat) (hN : N ≤ 32) (r0 : List FT) (a1 : List (Int × (Int × (Int × FT)))) : ∀ (d i n : Nat) (l : List FT) (L : List (Int × FT)), i + d = min a1.length 30 → d < n → Alike N l L →
    ∃ l' L', Alike N l' L' ∧ halterlaw19_FileRuns.l0 t2 t3 (N, N, r0) a1 n l (N : Int) L (i : Int) = some (.inl (l', (N : Int), L')) := by
  intro d
  induction d with
  | zero =>
    intro i n l L hi hn h
    obtain ⟨q, rfl⟩ := fuel_step hn
    rw [halterlaw19_FileRuns.l0]
    by_cases h1 : (i : Int) < ((a1.length : Nat) : Int)
    · rw [if_pos h1, if_neg (by omega)]; exact ⟨l, L, h, rfl⟩
    · rw [if_neg h1]; exact ⟨l, L, h, rfl⟩
  | succ d ih =>
    intro i n l L hi hn h
    obtain ⟨q, rfl⟩ := fuel_step hn
    obtain ⟨l', L', h1, h3⟩ := j1_ok t2 t3 N hN r0 a1 l L i h (by omega)
    rw [halterlaw19_FileRuns.l0, if_pos (by omega), if_pos (by omega), h3, bind_go]
    dsimp only
    rw [wsucc (by omega)]
    exact ih (i + 1) q l' L' (by omega) (by omega) h1
theorem FileRuns (a0 : Int) (a1 : (List (Int × (Int × (Int × (Int × (Int × (Int × (Bool × (Bool × (ByteArray × Int))))))))))) (h0 : (Lit.int .i64 a0).wf = true) (h1 : List.length a1 * 80 ≤ reachBytes) (h2 : ∀ z : (Int × (Int × (Int × (Int × (Int × (Int × (Bool × (Bool × (ByteArray × Int))))))))), z ∈ a1 → goodT (.pair (.int .i64) (.pair (.int .i64) (.pair (.int .i64) (.pair (.int .i64) (.pair (.int .i64) (.pair (.int .i64) (.pair .bool (.pair .bool (.pair .str (.int .i64)))))))))) z) : halterlaw19_FileRuns.f a0 a1 = some true := by
  have e1 : file_Table_Open.f 0 0 0 false false ByteArray.empty 0 = some (0, some 22) := rfl
  have e2 : file_Table_Get.f 0 = some (0, 0, 0, false, false, ByteArray.empty, 0, some 22) := by unfold file_Table_Get.f; rw [show file_Table_at.f 0 = some (some 22) from rfl, bind_go, if_pos (by decide)]
  have e3 : file_Table_Unref.f 0 = some (0, 0, 0, false, false, ByteArray.empty, 0, false, some 22) := by unfold file_Table_Unref.f; rw [show file_Table_at.f 0 = some (some 22) from rfl, bind_go, if_pos (by decide)]
  have e4 : file_Table_Ref.f 0 = some (some 22) := by unfold file_Table_Ref.f; rw [show file_Table_at.f 0 = some (some 22) from rfl, bind_go, if_pos (by decide)]
  have e5 : file_Table_Move.f 0 0 = some (some 22) := by unfold file_Table_Move.f; rw [show file_Table_at.f 0 = some (some 22) from rfl, bind_go, if_pos (by decide)]
  have e6 : file_Table_List.f = some [] := rfl
  unfold halterlaw19_FileRuns.f
  rw [e1, bind_go, e2, bind_go, e3, bind_go]
  dsimp only
  rw [num_some, bind_go, if_neg (fun h => h rfl), bind_go, if_neg (fun h => h rfl), bind_go, if_neg (fun h => h rfl), e4, bind_go, num_some, bind_go, if_neg (fun h => h rfl), e5, bind_go, num_some, bind_go, if_neg (fun h => h rfl), e6, bind_go, if_neg (fun h => h rfl)]
  by_cases hlo : a0 < 1
  · have en : file_New.f a0 = some (.inl 22) := by unfold file_New.f; rw [if_pos hlo]
    rw [en, bind_go]
    dsimp only
    rw [if_pos hlo, num_some, bind_go, if_pos rfl, sure_t, bind_go]
  · by_cases hhi : a0 > 32
    · have en : file_New.f a0 = some (.inl 22) := by unfold file_New.f; rw [if_neg hlo, if_pos hhi]
      rw [en, bind_go]
      dsimp only
      rw [if_neg hlo, if_pos hhi, num_some, bind_go, if_pos rfl, sure_t, bind_go]
    · obtain ⟨N, rfl⟩ : ∃ N : Nat, a0 = N := ⟨a0.toNat, by omega⟩
      have en : file_New.f (N : Int) = some (.inr (N, N, List.replicate N FZ)) := by
        unfold file_New.f; rw [if_neg hlo, if_neg hhi, if_pos ⟨by omega, rfl, by omega, by omega⟩, toNat_nat]
      rw [en, bind_go]
      dsimp only
      rw [if_neg hlo, if_neg hhi]
      have hz : ∀ k : Nat, (List.replicate N FZ).getD k FZ = FZ := fun k => by
        rw [List.getD_eq_getElem?_getD, List.getElem?_replicate]
        split <;> rfl
      have h00 : Alike N (List.replicate N FZ) [] := ⟨by simp, (fun k hk => by rw [hz]; rfl), (fun z hz => by cases hz), (fun z hz => by cases hz), (fun k hk => by rw [hz]; exact ⟨by decide, by decide⟩)⟩
      obtain ⟨l, L, h1, h3⟩ := all_loop (0, 0, 0, false, false, ByteArray.empty, 0, some 22) (0, 0, 0, false, false, ByteArray.empty, 0, false, some 22) N (by omega) (List.replicate N FZ) a1 (min a1.length 30) 0 FUEL (List.replicate N FZ) [] (by omega) (fuel_gt (by omega)) h00
      have z0 : ((0 : Nat) : Int) = 0 := rfl
      rw [z0] at h3
      rw [h3, bind_go]
      dsimp only
      rw [sure_t, bind_go]

end Go.Proofs.YticdckalmebhmaaDoor.Pure
