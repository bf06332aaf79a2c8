/- The plain law: what the law computes is true, whatever it is handed. -/
import Derived.Test.YtlkhfagmpoibaaaDoorGPipeOrder
import Derived.Test.YtlkhfagmpoibaaaDoorE16
set_option linter.unusedVariables false
set_option linter.unusedSimpArgs false
set_option linter.unnecessarySimpa false
namespace Go.Proofs.YtlkhfagmpoibaaaDoor.Pure
open Go Go.Proofs.YtlkhfagmpoibaaaDoorE Go.Proofs.YtlkhfagmpoibaaaDoorGPipeOrder
theorem wu8 (x : Int) : IntKind.wrap .u8 x = x % 256 := by simp [IntKind.wrap, IntKind.bits, IntKind.signed]
theorem wu16 (x : Int) : IntKind.wrap .u16 x = x % 65536 := by simp [IntKind.wrap, IntKind.bits, IntKind.signed]
theorem wu32 (x : Int) : IntKind.wrap .u32 x = x % 4294967296 := by simp [IntKind.wrap, IntKind.bits, IntKind.signed]
theorem wu64 (x : Int) : IntKind.wrap .u64 x = x % 18446744073709551616 := by simp [IntKind.wrap, IntKind.bits, IntKind.signed]
theorem wi64 {x : Int} (h : -9223372036854775808 ≤ x) (h' : x ≤ 9223372036854775807) : IntKind.wrap .i64 x = x := by
  simp [IntKind.wrap, IntKind.bits, IntKind.signed]
  omega
theorem wu8_id {x : Int} (h : 0 ≤ x ∧ x < 256) : IntKind.wrap .u8 x = x := by rw [wu8]; omega
theorem wu32_id {x : Int} (h : 0 ≤ x ∧ x < 4294967296) : IntKind.wrap .u32 x = x := by rw [wu32]; omega
theorem wu64_id {x : Int} (h : 0 ≤ x ∧ x < 18446744073709551616) : IntKind.wrap .u64 x = x := by rw [wu64]; omega
theorem wsucc {i : Nat} (h : i < 9223372036854775807) : IntKind.wrap .i64 ((i : Int) + 1) = ((i + 1 : Nat) : Int) := by rw [wi64 (by omega) (by omega)]; omega
theorem u8_bd {a : Int} (h : (Lit.int .u8 a).wf = true) : 0 ≤ a ∧ a < 256 := by
  simpa [Lit.wf, IntKind.min, IntKind.max, IntKind.signed, IntKind.bits, ← Int.lt_add_one_iff] using h
theorem u32_bd {a : Int} (h : (Lit.int .u32 a).wf = true) : 0 ≤ a ∧ a < 4294967296 := by
  simpa [Lit.wf, IntKind.min, IntKind.max, IntKind.signed, IntKind.bits, ← Int.lt_add_one_iff] using h
theorem u64_bd {a : Int} (h : (Lit.int .u64 a).wf = true) : 0 ≤ a ∧ a < 18446744073709551616 := by
  simpa [Lit.wf, IntKind.min, IntKind.max, IntKind.signed, IntKind.bits, ← Int.lt_add_one_iff] using h
theorem i64_bd {a : Int} (h : (Lit.int .i64 a).wf = true) : -9223372036854775808 ≤ a ∧ a < 9223372036854775808 := by
  simpa [Lit.wf, IntKind.min, IntKind.max, IntKind.signed, IntKind.bits, ← Int.lt_add_one_iff] using h
theorem fuel_gt {n : Nat} (h : n < 18446744073709551616) : n < FUEL := h
theorem bind_go {α β : Type} (a : α) (f : α → Option β) : (some a).bind f = f a := by rw [Option.bind_some]
theorem drop_getD {α : Type} (l : List α) (i : Nat) (d : α) (h : i < l.length) : l.drop i = l.getD i d :: l.drop (i + 1) := by
  rw [List.drop_eq_getElem_cons h, List.getD_eq_getElem?_getD, List.getElem?_eq_getElem h, Option.getD_some]
theorem getD_mem {α : Type} (l : List α) (i : Nat) (d : α) (h : i < l.length) : l.getD i d ∈ l := by
  rw [List.getD_eq_getElem?_getD, List.getElem?_eq_getElem h, Option.getD_some]; exact List.getElem_mem _
theorem toNat_nat (i : Nat) : Int.toNat (i : Int) = i := rfl
/-- A number behind another one: a round of a loop. -/
theorem fuel_step {d n : Nat} (h : d < n) : ∃ m, n = m + 1 := ⟨n - 1, by omega⟩
/-- Where something stands first. -/
def first (v : Int) : List Int → Option Nat
  | [] => none
  | x :: xs => if x = v then some 0 else (first v xs).map (· + 1)
theorem first_none {v : Int} : ∀ {l : List Int}, first v l = none → ∀ z ∈ l, z ≠ v
  | [], _, z, hz => by cases hz
  | x :: xs, h, z, hz => by
    unfold first at h
    split at h
    · cases h
    · rename_i hx
      rcases List.mem_cons.1 hz with rfl | hz
      · exact hx
      · exact first_none (by simpa using h) z hz
theorem first_some {v : Int} : ∀ {l : List Int} {k : Nat}, first v l = some k → k < l.length ∧ l.getD k 0 = v ∧ ∀ j, j < k → l.getD j 0 ≠ v
  | [], _, h => by cases h
  | x :: xs, k, h => by
    unfold first at h
    split at h
    · cases h
      rename_i hx
      exact ⟨by simp, by simpa using hx, fun j hj => by omega⟩
    · rename_i hx
      cases hf : first v xs with
      | none => simp [hf] at h
      | some m =>
        simp [hf] at h
        subst h
        obtain ⟨h1, h2, h3⟩ := first_some hf
        refine ⟨by simp; omega, by simpa using h2, fun j hj => ?_⟩
        cases j with
        | zero => simpa using hx
        | succ j => simpa using h3 j (by omega)

/-! What pipes do. -/
abbrev okP (l : List Int) (r w : Int) : Prop := l.length ≤ 64 ∧ 0 ≤ r ∧ r ≤ 1048576 ∧ 0 ≤ w ∧ w ≤ 1048576
def eo (e : Int) : Option Int := if e = 0 then none else some e
theorem num_eo (e : Int) : num.f (eo e) = some e := by
  unfold num.f eo
  split
  · rename_i h; rw [h]; rfl
  · rfl
theorem num_some (e : Int) : num.f (some e) = some e := rfl
theorem Check_eq (l : List Int) (r w : Int) : pipe_Check.f l r w = some (if okP l r w then none else some 22) := by
  unfold pipe_Check.f
  by_cases h : okP l r w
  · rw [if_pos h]
    obtain ⟨h1, h2, h3, h4, h5⟩ := h
    rw [if_neg (show ¬ ((l.length : Nat) : Int) > 64 by omega), if_neg (show ¬ r < 0 by omega), if_neg (show ¬ r > 1048576 by omega), if_neg (show ¬ w < 0 by omega), if_neg (show ¬ w > 1048576 by omega)]
  · rw [if_neg h]
    unfold okP at h
    split
    · rfl
    · split
      · rfl
      · split
        · rfl
        · split
          · rfl
          · split
            · rfl
            · exact absurd ⟨by omega, by omega, by omega, by omega, by omega⟩ h
theorem Grow_eq (n : Int) (h : 0 ≤ n) (h2 : n ≤ 100000) : slices_Grow_byte_byte.f n = some [] := by
  unfold slices_Grow_byte_byte.f
  rw [if_neg (by omega), wi64 (by omega) (by omega), Int.sub_zero]
  by_cases h0 : n > 0
  · rw [if_pos h0, if_pos ⟨by omega, by omega, by omega⟩, if_pos ⟨⟨by omega, by omega⟩, trivial⟩]
  · rw [if_neg h0]
theorem fuel3 : ∃ k, FUEL = k + 3 := ⟨18446744073709551613, rfl⟩
theorem Concat_eq (a b : List Int) (ha : a.length ≤ 10000) (hb : b.length ≤ 10000) : slices_Concat_byte_byte.f [a, b] = some (a ++ b) := by
  unfold slices_Concat_byte_byte.f
  have w1 : IntKind.wrap .i64 (1 : Int) = 1 := by decide
  have w2 : IntKind.wrap .i64 (2 : Int) = 2 := by decide
  have wa : IntKind.wrap .i64 (a.length : Int) = a.length := wi64 (by omega) (by omega)
  have wb : IntKind.wrap .i64 ((a.length : Int) + b.length) = (a.length : Int) + b.length := wi64 (by omega) (by omega)
  have e0 : slices_Concat_byte_byte.l0 [a, b] FUEL 0 0 = some ((a.length : Int) + b.length) := by
    obtain ⟨k, hk⟩ := fuel3
    rw [hk]
    have h1 : ¬ (a.length : Int) < 0 := by omega
    have h2 : ¬ (a.length : Int) + b.length < 0 := by omega
    simp [slices_Concat_byte_byte.l0, w1, w2, wa, wb, h1, h2]
  have e1 : slices_Concat_byte_byte.l1 [a, b] FUEL [] 0 = some (a ++ b) := by
    obtain ⟨k, hk⟩ := fuel3
    rw [hk]
    have h1 : a.length ≤ 140737488355328 ∧ a.length ≤ 9223372036854775807 := ⟨by omega, by omega⟩
    have h2 : a.length + b.length ≤ 140737488355328 ∧ a.length + b.length ≤ 9223372036854775807 := ⟨by omega, by omega⟩
    simp [slices_Concat_byte_byte.l1, w1, w2, h1, h2]
  rw [e0, bind_go, Grow_eq _ (by omega) (by omega), bind_go, e1, bind_go]
theorem Clone_eq (l : List Int) (h : l.length ≤ 10000) : slices_Clone_byte_byte.f l = some l := by
  unfold slices_Clone_byte_byte.f
  have hc : True ∧ 0 = 0 ∧ 0 = 0 ∧ ((0 + (List.length l)) * 1 ≤ 140737488355328 ∧ 0 + (List.length l) ≤ 9223372036854775807) := ⟨trivial, rfl, rfl, by omega, by omega⟩
  rw [if_pos hc, List.nil_append]
  by_cases h0 : List.length l = 0
  · have : l = [] := List.eq_nil_of_length_eq_zero h0
    subst this
    rfl
  · rw [if_neg h0]

def readS (l : List Int) (r w n : Int) : List Int × List Int × Int × Int × Int :=
  if ¬ okP l r w ∨ n < 0 then ([], [], 0, 0, 22)
  else if 0 < n ∧ l.length = 0 ∧ 0 < w then ([], [], 0, 0, 11)
  else (l.take n.toNat, l.drop n.toNat, r, w, 0)
def P5 (x : List Int × List Int × Int × Int × Int) : List Int × List Int × Int × Int × Option Int := (x.1, x.2.1, x.2.2.1, x.2.2.2.1, eo x.2.2.2.2)
def writeS (l : List Int) (r w : Int) (b : List Int) : Int × List Int × Int × Int × Int :=
  if ¬ okP l r w then (0, [], 0, 0, 22)
  else if r = 0 then (0, [], 0, 0, 32)
  else if 0 < b.length ∧ l.length = 64 then (0, [], 0, 0, 11)
  else (((min b.length (64 - l.length) : Nat) : Int), l ++ b.take (min b.length (64 - l.length)), r, w, 0)
def W5 (x : Int × List Int × Int × Int × Int) : Int × List Int × Int × Int × Option Int := (x.1, x.2.1, x.2.2.1, x.2.2.2.1, eo x.2.2.2.2)
def moveS (l : List Int) (r w : Int) (wr : Bool) (b : Int) : List Int × Int × Int × Int :=
  if ¬ okP l r w then ([], 0, 0, 22)
  else if okP (if (if wr = true then r else r + b) = 0 then [] else l) (if wr = true then r else r + b) (if wr = true then w + b else w) then
    ((if (if wr = true then r else r + b) = 0 then [] else l), (if wr = true then r else r + b), (if wr = true then w + b else w), 0)
  else ([], 0, 0, 22)
def M4 (x : List Int × Int × Int × Int) : List Int × Int × Int × Option Int := (x.1, x.2.1, x.2.2.1, eo x.2.2.2)

theorem take_min (l : List Int) (n : Int) (hn : 0 ≤ n) : List.take (Int.toNat (if ((l.length : Nat) : Int) < n then ((l.length : Nat) : Int) else n)) l = l.take n.toNat ∧ List.drop (Int.toNat (if ((l.length : Nat) : Int) < n then ((l.length : Nat) : Int) else n)) l = l.drop n.toNat := by
  split
  · have h1 : l.length ≤ n.toNat := by omega
    rw [toNat_nat, List.take_of_length_le h1, List.drop_eq_nil_of_le h1, List.take_length, List.drop_length]
    exact ⟨rfl, rfl⟩
  · exact ⟨rfl, rfl⟩

theorem Read_p (l : List Int) (r w n : Int) (hl : l.length ≤ 1000) : pipe_Read.f l r w n = some (P5 (readS l r w n)) := by
  unfold pipe_Read.f readS
  rw [Check_eq, bind_go]
  by_cases hok : okP l r w
  · rw [if_pos hok, if_neg (by simp)]
    by_cases hn : n < 0
    · rw [if_pos hn, if_pos (Or.inr hn)]; rfl
    · rw [if_neg hn, if_neg (show ¬ (¬ okP l r w ∨ n < 0) from fun h => h.elim (fun h => h hok) hn)]
      obtain ⟨t1, t2⟩ := take_min l n (by omega)
      have hc : 0 ≤ (if (((List.length l) : Nat) : Int) < n then (((List.length l) : Nat) : Int) else n) ∧ (if (((List.length l) : Nat) : Int) < n then (((List.length l) : Nat) : Int) else n) ≤ (((List.length l) : Nat) : Int) := by
        split <;> constructor <;> omega
      generalize (if (((List.length l) : Nat) : Int) < n then (((List.length l) : Nat) : Int) else n) = k at *
      have tail : (if 0 ≤ k ∧ k ≤ (((List.length l) : Nat) : Int) then
          (slices_Clone_byte_byte.f (List.take (Int.toNat k) l)).bind fun t11 =>
          if (True) ∧ ((0 ≤ k ∧ k ≤ (((List.length l) : Nat) : Int))) then
            (slices_Clone_byte_byte.f (List.drop (Int.toNat k) l)).bind fun t12 =>
            some (t11, t12, r, w, (none : Option Int))
          else none
        else none) = some (P5 (l.take n.toNat, l.drop n.toNat, r, w, 0)) := by
        rw [if_pos hc, t1, Clone_eq _ (by rw [List.length_take]; omega), bind_go, if_pos ⟨trivial, hc⟩, t2, Clone_eq _ (by rw [List.length_drop]; omega), bind_go]
        rfl
      by_cases hn0 : n > 0
      · rw [if_pos hn0]
        by_cases h0 : ((l.length : Nat) : Int) = 0
        · rw [if_pos h0]
          by_cases hw : w > 0
          · rw [if_pos hw, if_pos ⟨hn0, by omega, hw⟩]; rfl
          · rw [if_neg hw, if_neg (fun h : 0 < n ∧ l.length = 0 ∧ 0 < w => hw h.2.2)]; exact tail
        · rw [if_neg h0, if_neg (fun h : 0 < n ∧ l.length = 0 ∧ 0 < w => h0 (by omega))]; exact tail
      · rw [if_neg hn0, if_neg (fun h : 0 < n ∧ l.length = 0 ∧ 0 < w => hn0 h.1)]; exact tail
  · rw [if_neg hok, if_pos (by simp), if_pos (Or.inl hok)]; rfl

theorem Write_p (l : List Int) (r w : Int) (b : List Int) (hl : l.length ≤ 1000) (hb : b.length ≤ 1000) : pipe_Write.f l r w b = some (W5 (writeS l r w b)) := by
  unfold pipe_Write.f writeS
  rw [Check_eq, bind_go]
  by_cases hok : okP l r w
  · rw [if_pos hok, if_neg (by simp), if_neg (show ¬ ¬ okP l r w from fun h => h hok)]
    by_cases hr : r = 0
    · rw [if_pos hr, if_pos hr]; rfl
    · rw [if_neg hr, if_neg hr]
      have h64 := hok.1
      rw [wi64 (by omega) (by omega)]
      have hm : (if ((64 : Int) - (((List.length l) : Nat) : Int)) < (((List.length b) : Nat) : Int) then ((64 : Int) - (((List.length l) : Nat) : Int)) else (((List.length b) : Nat) : Int)) = ((min b.length (64 - l.length) : Nat) : Int) := by
        split <;> omega
      rw [hm]
      have hk1 : min b.length (64 - l.length) ≤ b.length := Nat.min_le_left _ _
      generalize min b.length (64 - l.length) = k at *
      have tail : (if 0 ≤ ((k : Nat) : Int) ∧ ((k : Nat) : Int) ≤ (((List.length b) : Nat) : Int) then
            (slices_Concat_byte_byte.f [l, (List.take (Int.toNat ((k : Nat) : Int)) b)]).bind fun t7 => some (((k : Nat) : Int), t7, r, w, (none : Option Int))
          else none) = some (W5 (((k : Nat) : Int), l ++ b.take k, r, w, 0)) := by
        rw [if_pos ⟨by omega, by omega⟩, toNat_nat, Concat_eq _ _ (by omega) (by rw [List.length_take]; omega), bind_go]
        rfl
      by_cases hb0 : ((b.length : Nat) : Int) > 0
      · rw [if_pos hb0]
        by_cases h0 : (64 : Int) - ((l.length : Nat) : Int) = 0
        · rw [if_pos h0, if_pos ⟨by omega, by omega⟩]; rfl
        · rw [if_neg h0, if_neg (fun h : 0 < b.length ∧ l.length = 64 => h0 (by omega))]; exact tail
      · rw [if_neg hb0, if_neg (fun h : 0 < b.length ∧ l.length = 64 => hb0 (by omega))]; exact tail
  · rw [if_neg hok, if_pos (by simp), if_pos hok]; rfl

theorem moved_p (l : List Int) (r w : Int) (wr : Bool) (b : Int) (hl : l.length ≤ 1000) (hb : b = 1 ∨ b = -1) : pipe_moved.f l r w wr b = some (M4 (moveS l r w wr b)) := by
  unfold pipe_moved.f moveS
  rw [Check_eq, bind_go]
  by_cases hok : okP l r w
  · rw [if_pos hok, if_neg (by simp), if_neg (show ¬ ¬ okP l r w from fun h => h hok)]
    obtain ⟨h1, h2, h3, h4, h5⟩ := hok
    rw [wi64 (x := w + b) (by omega) (by omega), wi64 (x := r + b) (by omega) (by omega), Clone_eq _ (by omega)]
    cases wr
    · simp only [bind_go, if_neg (show ¬ false = true by simp)]
      by_cases h0 : r + b = 0
      · simp only [if_pos h0, Check_eq, bind_go]
        by_cases hk : okP [] (r + b) w
        · simp only [if_pos hk]; rfl
        · simp only [if_neg hk]; rfl
      · simp only [if_neg h0, Check_eq, bind_go]
        by_cases hk : okP l (r + b) w
        · simp only [if_pos hk]; rfl
        · simp only [if_neg hk]; rfl
    · simp only [bind_go, if_pos]
      by_cases h0 : r = 0
      · simp only [if_pos h0, Check_eq, bind_go]
        by_cases hk : okP [] r (w + b)
        · simp only [if_pos hk]; rfl
        · simp only [if_neg hk]; rfl
      · simp only [if_neg h0, Check_eq, bind_go]
        by_cases hk : okP l r (w + b)
        · simp only [if_pos hk]; rfl
        · simp only [if_neg hk]; rfl
  · rw [if_neg hok, if_pos (by simp), if_pos hok]; rfl
theorem Open_p (l : List Int) (r w : Int) (wr : Bool) (hl : l.length ≤ 1000) : pipe_Open.f l r w wr = some (M4 (moveS l r w wr 1)) := by
  unfold pipe_Open.f
  rw [moved_p _ _ _ _ _ hl (.inl rfl), bind_go]
theorem sure_t : halterlaw18_sure.f = some true := by
  unfold halterlaw18_sure.f
  rw [Write_p _ _ _ _ (by simp) (by simp), bind_go]
  have e1 : W5 (writeS [] 1 1 [97, 98, 99]) = (3, [97, 98, 99], 1, 1, none) := by decide
  rw [e1]
  dsimp only
  rw [Read_p _ _ _ _ (by simp), bind_go, Read_p _ _ _ _ (by simp), bind_go, Write_p _ _ _ _ (by simp) (by simp), bind_go]
  have e2 : P5 (readS [97, 98, 99] 1 1 2) = ([97, 98], [99], 1, 1, none) := by decide
  have e3 : P5 (readS [] 0 1 1) = ([], [], 0, 0, some 11) := by decide
  have e4 : W5 (writeS [] 0 1 []) = (0, [], 0, 0, some 32) := by decide
  rw [e2, e3, e4]
  decide +kernel

theorem str_app (a b : List Int) : strOfNums (a ++ b) = strOfNums a ++ strOfNums b := by
  apply toList_inj
  rw [toList_eq, toList_eq, ByteArray.data_append, Array.toList_append, strOfNums_data, strOfNums_data, strOfNums_data, List.map_append]
def tailF (t1 : (List Int) × Int × Int × (Option Int)) (a0 : List ((List Int) × Int)) (n : Nat) (q : List Int) (r w : Int) (inn out : List Int) (i M : Int) : Option (((List Int) × Int × Int × (List Int) × (List Int)) ⊕ ((List Int) × Int × Int × (List Int) × (List Int))) :=
  (pipe_Read.f q r w M).bind fun t209 =>
  if t209.2.2.2.2 = none then
    if True ∧ 0 = 0 ∧ (List.length out) = (List.length out) ∧ (((List.length out) + (List.length t209.1)) * 1 ≤ 140737488355328 ∧ (List.length out) + (List.length t209.1) ≤ 9223372036854775807) then
      if (((List.length t209.2.1) : Nat) : Int) > (64 : Int) then
        some (.inr (t209.2.1, t209.2.2.1, t209.2.2.2.1, inn, (out ++ t209.1)))
      else
        if ByteArray.size (strOfNums (out ++ t209.1)) + ByteArray.size (strOfNums t209.2.1) ≤ 9223372036854775807 then
          if ¬ ((strOfNums inn) = ((strOfNums (out ++ t209.1)) ++ (strOfNums t209.2.1))) then
            some (.inr (t209.2.1, t209.2.2.1, t209.2.2.2.1, inn, (out ++ t209.1)))
          else
            halterlaw18_PipeOrder.l0 t1 a0 n t209.2.1 t209.2.2.1 t209.2.2.2.1 inn (out ++ t209.1) (IntKind.wrap .i64 (i + (1 : Int)))
        else none
    else none
  else
    (num.f t209.2.2.2.2).bind fun t215 =>
    if ¬ t215 = (11 : Int) then
      some (.inr (q, r, w, inn, out))
    else
      if (((List.length q) : Nat) : Int) > (64 : Int) then
        some (.inr (q, r, w, inn, out))
      else
        if ByteArray.size (strOfNums out) + ByteArray.size (strOfNums q) ≤ 9223372036854775807 then
          if ¬ ((strOfNums inn) = ((strOfNums out) ++ (strOfNums q))) then
            some (.inr (q, r, w, inn, out))
          else
            halterlaw18_PipeOrder.l0 t1 a0 n q r w inn out (IntKind.wrap .i64 (i + (1 : Int)))
        else none
theorem tail_ok (t1) (a0 : List ((List Int) × Int)) (n : Nat) (q inn out : List Int) (i M : Int) (hM : 0 ≤ M) (hq : q.length ≤ 64) (he : inn = out ++ q) (hb : inn.length ≤ 100000)
    (ih : ∀ (q2 out2 : List Int), q2.length ≤ 64 → inn = out2 ++ q2 → ∃ r, halterlaw18_PipeOrder.l0 t1 a0 n q2 1 1 inn out2 (IntKind.wrap .i64 (i + (1 : Int))) = some (.inl r)) :
    ∃ r, tailF t1 a0 n q 1 1 inn out i M = some (.inl r) := by
  unfold tailF
  rw [Read_p _ _ _ _ (by omega), bind_go]
  have hok : okP q 1 1 := ⟨hq, by decide, by decide, by decide, by decide⟩
  have hlen := congrArg List.length he
  rw [List.length_append] at hlen
  unfold readS
  rw [if_neg (show ¬ (¬ okP q 1 1 ∨ M < 0) from fun h => h.elim (fun h => h hok) (by omega))]
  by_cases hr : 0 < M ∧ q.length = 0 ∧ (0 : Int) < 1
  · rw [if_pos hr]
    rw [show P5 ([], [], 0, 0, 11) = ([], [], 0, 0, some 11) from rfl]
    dsimp only
    rw [if_neg (by simp), num_some, bind_go, if_neg (fun h => h rfl), if_neg (by omega), if_pos (by rw [strOfNums_size, strOfNums_size]; omega), if_neg (fun h => h (by rw [he, str_app]))]
    exact ih q out hq he
  · rw [if_neg hr]
    rw [show P5 (q.take M.toNat, q.drop M.toNat, 1, 1, 0) = (q.take M.toNat, q.drop M.toNat, 1, 1, none) from rfl]
    dsimp only
    have h1 := List.take_append_drop M.toNat q
    have h2 : (q.take M.toNat).length + (q.drop M.toNat).length = q.length := by rw [← List.length_append, h1]
    rw [if_pos rfl, if_pos ⟨trivial, rfl, rfl, by omega, by omega⟩, if_neg (by omega), if_pos (by rw [strOfNums_size, strOfNums_size, List.length_append]; omega)]
    have he2 : inn = (out ++ q.take M.toNat) ++ q.drop M.toNat := by rw [List.append_assoc, h1, he]
    rw [if_neg (fun h => h (by rw [← str_app, ← he2]))]
    exact ih _ _ (by omega) he2
theorem loop_ok (t1) (a0 : List ((List Int) × Int)) : ∀ (d i n : Nat) (q inn out : List Int), i + d = min a0.length 40 → d < n → q.length ≤ 64 → inn = out ++ q → inn.length ≤ 300 * i →
    ∃ r, halterlaw18_PipeOrder.l0 t1 a0 n q 1 1 inn out (i : Int) = some (.inl r) := by
  intro d
  induction d with
  | zero =>
    intro i n q inn out hi hn hq he hb
    obtain ⟨m, rfl⟩ := fuel_step hn
    rw [halterlaw18_PipeOrder.l0]
    by_cases h1 : (i : Int) < ((a0.length : Nat) : Int)
    · rw [if_pos h1, if_neg (by omega)]; exact ⟨_, rfl⟩
    · rw [if_neg h1]; exact ⟨_, rfl⟩
  | succ d ih =>
    intro i n q inn out hi hn hq he hb
    obtain ⟨m, rfl⟩ := fuel_step hn
    have hg : (0 : Int) ≤ (i : Int) ∧ (i : Int) < ((a0.length : Nat) : Int) := by omega
    rw [halterlaw18_PipeOrder.l0, if_pos hg.2, if_pos (show (i : Int) < 40 by omega), if_pos hg, toNat_nat]
    have hw1 : IntKind.wrap .i64 ((i : Int) + 1) = ((i + 1 : Nat) : Int) := wsucc (by omega)
    obtain ⟨B, N⟩ := a0.getD i (([] : List Int), (0 : Int))
    dsimp only
    by_cases hB : ((B.length : Nat) : Int) > 200
    · rw [if_pos hB, hw1]
      exact ih (i + 1) m q inn out (by omega) (by omega) hq he (by omega)
    · rw [if_neg hB, if_pos hg, Write_p _ _ _ _ (by omega) (by omega), bind_go]
      have hok : okP q 1 1 := ⟨hq, by decide, by decide, by decide, by decide⟩
      have hM : 0 ≤ IntKind.wrap .i64 (Int.tmod (IntKind.wrap .u64 N) 100) := by
        rw [wu64]
        have h1 : 0 ≤ N % 18446744073709551616 := by omega
        rw [Int.tmod_eq_emod_of_nonneg h1, wi64 (by omega) (by omega)]
        omega
      generalize IntKind.wrap .i64 (Int.tmod (IntKind.wrap .u64 N) 100) = M at *
      have eW : writeS q 1 1 B = (if 0 < B.length ∧ q.length = 64 then (0, [], 0, 0, 11) else (((min B.length (64 - q.length) : Nat) : Int), q ++ B.take (min B.length (64 - q.length)), 1, 1, 0)) := by
        unfold writeS
        rw [if_neg (show ¬ ¬ okP q 1 1 from fun h => h hok), if_neg (show ¬ (1 : Int) = 0 by decide)]
      rw [eW]
      by_cases hw : 0 < B.length ∧ q.length = 64
      · rw [if_pos hw]
        rw [show W5 (0, [], 0, 0, 11) = (0, [], 0, 0, some 11) from rfl]
        dsimp only
        rw [if_neg (by simp), num_some, bind_go, if_neg (fun h => h rfl), if_pos hg]
        refine tail_ok t1 a0 m q inn out (i : Int) M hM hq he (by omega) fun q2 out2 h1 h2 => ?_
        rw [hw1]
        exact ih (i + 1) m q2 inn out2 (by omega) (by omega) h1 h2 (by omega)
      · rw [if_neg hw]
        have hk1 : min B.length (64 - q.length) ≤ B.length := Nat.min_le_left _ _
        have hk2 : min B.length (64 - q.length) ≤ 64 - q.length := Nat.min_le_right _ _
        have hk3 : min B.length (64 - q.length) < B.length → q.length + min B.length (64 - q.length) = 64 := fun h => by omega
        generalize min B.length (64 - q.length) = k at *
        have htk : (B.take k).length = k := by rw [List.length_take]; omega
        rw [show W5 (((k : Nat) : Int), q ++ B.take k, 1, 1, 0) = (((k : Nat) : Int), q ++ B.take k, 1, 1, none) from rfl]
        dsimp only
        rw [if_pos rfl, if_neg (by omega), if_pos hg, if_neg (by omega), if_pos hg]
        have hT : ∃ r, tailF t1 a0 m (q ++ B.take k) 1 1 (inn ++ B.take k) out (i : Int) M = some (.inl r) := by
          refine tail_ok t1 a0 m (q ++ B.take k) (inn ++ B.take k) out (i : Int) M hM (by rw [List.length_append]; omega) (by rw [he, List.append_assoc]) (by rw [List.length_append]; omega) fun q2 out2 h1 h2 => ?_
          rw [hw1]
          exact ih (i + 1) m q2 (inn ++ B.take k) out2 (by omega) (by omega) h1 h2 (by rw [List.length_append]; omega)
        by_cases hkl : ((k : Nat) : Int) < ((B.length : Nat) : Int)
        · rw [if_pos hkl, if_neg (fun h => h (by rw [List.length_append, htk]; omega)), if_pos hg, if_pos ⟨by omega, by omega⟩, toNat_nat, if_pos ⟨trivial, rfl, rfl, by omega, by omega⟩, if_pos hg]
          exact hT
        · rw [if_neg hkl, if_pos hg, if_pos ⟨by omega, by omega⟩, toNat_nat, if_pos ⟨trivial, rfl, rfl, by omega, by omega⟩, if_pos hg]
          exact hT
theorem PipeOrder (a0 : (List ((List Int) × Int))) (h0 : List.length a0 * 32 ≤ reachBytes) (h1 : ∀ z : ((List Int) × Int), z ∈ a0 → goodT (.pair (.sl (.int .u8)) (.int .i64)) z) : halterlaw18_PipeOrder.f a0 = some true := by
  unfold halterlaw18_PipeOrder.f
  rw [Open_p _ _ _ _ (by simp), bind_go]
  have e1 : M4 (moveS [] 0 0 false 1) = ([], 1, 0, none) := by decide
  rw [e1]
  dsimp only
  rw [Open_p _ _ _ _ (by simp), bind_go]
  have e2 : M4 (moveS [] 1 0 true 1) = ([], 1, 1, none) := by decide
  rw [e2]
  dsimp only
  rw [if_neg (fun h => h rfl), if_neg (fun h => h rfl)]
  obtain ⟨r, hr⟩ := loop_ok ([], 1, 0, none) a0 (min a0.length 40) 0 FUEL [] [] [] (by omega) (fuel_gt (by omega)) (by simp) rfl (by simp)
  have z0 : ((0 : Nat) : Int) = 0 := rfl
  rw [z0] at hr
  rw [hr, bind_go]
  dsimp only
  rw [sure_t, bind_go]

end Go.Proofs.YtlkhfagmpoibaaaDoor.Pure
