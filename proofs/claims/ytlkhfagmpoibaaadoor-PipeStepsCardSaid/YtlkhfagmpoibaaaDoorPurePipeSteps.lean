/- The plain law: what the law computes is true, whatever it is handed. -/
import Derived.Test.YtlkhfagmpoibaaaDoorGPipeSteps
import Derived.Test.YtlkhfagmpoibaaaDoorE16
set_option linter.unusedVariables false
set_option linter.unusedSimpArgs false
set_option linter.unnecessarySimpa false
namespace Go.Proofs.YtlkhfagmpoibaaaDoor.Pure
open Go Go.Proofs.YtlkhfagmpoibaaaDoorE Go.Proofs.YtlkhfagmpoibaaaDoorGPipeSteps
theorem wu8 (x : Int) : IntKind.wrap .u8 x = x % 256 := by simp [IntKind.wrap, IntKind.bits, IntKind.signed]
theorem wu16 (x : Int) : IntKind.wrap .u16 x = x % 65536 := by simp [IntKind.wrap, IntKind.bits, IntKind.signed]
theorem wu32 (x : Int) : IntKind.wrap .u32 x = x % 4294967296 := by simp [IntKind.wrap, IntKind.bits, IntKind.signed]
theorem wu64 (x : Int) : IntKind.wrap .u64 x = x % 18446744073709551616 := by simp [IntKind.wrap, IntKind.bits, IntKind.signed]
theorem wi64 {x : Int} (h : -9223372036854775808 ≤ x) (h' : x ≤ 9223372036854775807) : IntKind.wrap .i64 x = x := by
  simp [IntKind.wrap, IntKind.bits, IntKind.signed]
  omega
theorem wu8_id {x : Int} (h : 0 ≤ x ∧ x < 256) : IntKind.wrap .u8 x = x := by rw [wu8]; omega
theorem wu32_id {x : Int} (h : 0 ≤ x ∧ x < 4294967296) : IntKind.wrap .u32 x = x := by rw [wu32]; omega
theorem wu64_id {x : Int} (h : 0 ≤ x ∧ x < 18446744073709551616) : IntKind.wrap .u64 x = x := by rw [wu64]; omega
theorem wsucc {i : Nat} (h : i < 9223372036854775807) : IntKind.wrap .i64 ((i : Int) + 1) = ((i + 1 : Nat) : Int) := by rw [wi64 (by omega) (by omega)]; omega
theorem u8_bd {a : Int} (h : (Lit.int .u8 a).wf = true) : 0 ≤ a ∧ a < 256 := by
  simpa [Lit.wf, IntKind.min, IntKind.max, IntKind.signed, IntKind.bits, ← Int.lt_add_one_iff] using h
theorem u32_bd {a : Int} (h : (Lit.int .u32 a).wf = true) : 0 ≤ a ∧ a < 4294967296 := by
  simpa [Lit.wf, IntKind.min, IntKind.max, IntKind.signed, IntKind.bits, ← Int.lt_add_one_iff] using h
theorem u64_bd {a : Int} (h : (Lit.int .u64 a).wf = true) : 0 ≤ a ∧ a < 18446744073709551616 := by
  simpa [Lit.wf, IntKind.min, IntKind.max, IntKind.signed, IntKind.bits, ← Int.lt_add_one_iff] using h
theorem i64_bd {a : Int} (h : (Lit.int .i64 a).wf = true) : -9223372036854775808 ≤ a ∧ a < 9223372036854775808 := by
  simpa [Lit.wf, IntKind.min, IntKind.max, IntKind.signed, IntKind.bits, ← Int.lt_add_one_iff] using h
theorem fuel_gt {n : Nat} (h : n < 18446744073709551616) : n < FUEL := h
theorem bind_go {α β : Type} (a : α) (f : α → Option β) : (some a).bind f = f a := by rw [Option.bind_some]
theorem drop_getD {α : Type} (l : List α) (i : Nat) (d : α) (h : i < l.length) : l.drop i = l.getD i d :: l.drop (i + 1) := by
  rw [List.drop_eq_getElem_cons h, List.getD_eq_getElem?_getD, List.getElem?_eq_getElem h, Option.getD_some]
theorem getD_mem {α : Type} (l : List α) (i : Nat) (d : α) (h : i < l.length) : l.getD i d ∈ l := by
  rw [List.getD_eq_getElem?_getD, List.getElem?_eq_getElem h, Option.getD_some]; exact List.getElem_mem _
theorem toNat_nat (i : Nat) : Int.toNat (i : Int) = i := rfl
/-- A number behind another one: a round of a loop. -/
theorem fuel_step {d n : Nat} (h : d < n) : ∃ m, n = m + 1 := ⟨n - 1, by omega⟩
/-- Where something stands first. -/
def first (v : Int) : List Int → Option Nat
  | [] => none
  | x :: xs => if x = v then some 0 else (first v xs).map (· + 1)
theorem first_none {v : Int} : ∀ {l : List Int}, first v l = none → ∀ z ∈ l, z ≠ v
  | [], _, z, hz => by cases hz
  | x :: xs, h, z, hz => by
    unfold first at h
    split at h
    · cases h
    · rename_i hx
      rcases List.mem_cons.1 hz with rfl | hz
      · exact hx
      · exact first_none (by simpa using h) z hz
theorem first_some {v : Int} : ∀ {l : List Int} {k : Nat}, first v l = some k → k < l.length ∧ l.getD k 0 = v ∧ ∀ j, j < k → l.getD j 0 ≠ v
  | [], _, h => by cases h
  | x :: xs, k, h => by
    unfold first at h
    split at h
    · cases h
      rename_i hx
      exact ⟨by simp, by simpa using hx, fun j hj => by omega⟩
    · rename_i hx
      cases hf : first v xs with
      | none => simp [hf] at h
      | some m =>
        simp [hf] at h
        subst h
        obtain ⟨h1, h2, h3⟩ := first_some hf
        refine ⟨by simp; omega, by simpa using h2, fun j hj => ?_⟩
        cases j with
        | zero => simpa using hx
        | succ j => simpa using h3 j (by omega)

/-! What pipes do. -/
abbrev okP (l : List Int) (r w : Int) : Prop := l.length ≤ 64 ∧ 0 ≤ r ∧ r ≤ 1048576 ∧ 0 ≤ w ∧ w ≤ 1048576
def eo (e : Int) : Option Int := if e = 0 then none else some e
theorem num_eo (e : Int) : num.f (eo e) = some e := by
  unfold num.f eo
  split
  · rename_i h; rw [h]; rfl
  · rfl
theorem num_some (e : Int) : num.f (some e) = some e := rfl
theorem Check_eq (l : List Int) (r w : Int) : pipe_Check.f l r w = some (if okP l r w then none else some 22) := by
  unfold pipe_Check.f
  by_cases h : okP l r w
  · rw [if_pos h]
    obtain ⟨h1, h2, h3, h4, h5⟩ := h
    rw [if_neg (show ¬ ((l.length : Nat) : Int) > 64 by omega), if_neg (show ¬ r < 0 by omega), if_neg (show ¬ r > 1048576 by omega), if_neg (show ¬ w < 0 by omega), if_neg (show ¬ w > 1048576 by omega)]
  · rw [if_neg h]
    unfold okP at h
    split
    · rfl
    · split
      · rfl
      · split
        · rfl
        · split
          · rfl
          · split
            · rfl
            · exact absurd ⟨by omega, by omega, by omega, by omega, by omega⟩ h
theorem Grow_eq (n : Int) (h : 0 ≤ n) (h2 : n ≤ 100000) : slices_Grow_byte_byte.f n = some [] := by
  unfold slices_Grow_byte_byte.f
  rw [if_neg (by omega), wi64 (by omega) (by omega), Int.sub_zero]
  by_cases h0 : n > 0
  · rw [if_pos h0, if_pos ⟨by omega, by omega, by omega⟩, if_pos ⟨⟨by omega, by omega⟩, trivial⟩]
  · rw [if_neg h0]
theorem fuel3 : ∃ k, FUEL = k + 3 := ⟨18446744073709551613, rfl⟩
theorem Concat_eq (a b : List Int) (ha : a.length ≤ 10000) (hb : b.length ≤ 10000) : slices_Concat_byte_byte.f [a, b] = some (a ++ b) := by
  unfold slices_Concat_byte_byte.f
  have w1 : IntKind.wrap .i64 (1 : Int) = 1 := by decide
  have w2 : IntKind.wrap .i64 (2 : Int) = 2 := by decide
  have wa : IntKind.wrap .i64 (a.length : Int) = a.length := wi64 (by omega) (by omega)
  have wb : IntKind.wrap .i64 ((a.length : Int) + b.length) = (a.length : Int) + b.length := wi64 (by omega) (by omega)
  have e0 : slices_Concat_byte_byte.l0 [a, b] FUEL 0 0 = some ((a.length : Int) + b.length) := by
    obtain ⟨k, hk⟩ := fuel3
    rw [hk]
    have h1 : ¬ (a.length : Int) < 0 := by omega
    have h2 : ¬ (a.length : Int) + b.length < 0 := by omega
    simp [slices_Concat_byte_byte.l0, w1, w2, wa, wb, h1, h2]
  have e1 : slices_Concat_byte_byte.l1 [a, b] FUEL [] 0 = some (a ++ b) := by
    obtain ⟨k, hk⟩ := fuel3
    rw [hk]
    have h1 : a.length ≤ 140737488355328 ∧ a.length ≤ 9223372036854775807 := ⟨by omega, by omega⟩
    have h2 : a.length + b.length ≤ 140737488355328 ∧ a.length + b.length ≤ 9223372036854775807 := ⟨by omega, by omega⟩
    simp [slices_Concat_byte_byte.l1, w1, w2, h1, h2]
  rw [e0, bind_go, Grow_eq _ (by omega) (by omega), bind_go, e1, bind_go]
theorem Clone_eq (l : List Int) (h : l.length ≤ 10000) : slices_Clone_byte_byte.f l = some l := by
  unfold slices_Clone_byte_byte.f
  have hc : True ∧ 0 = 0 ∧ 0 = 0 ∧ ((0 + (List.length l)) * 1 ≤ 140737488355328 ∧ 0 + (List.length l) ≤ 9223372036854775807) := ⟨trivial, rfl, rfl, by omega, by omega⟩
  rw [if_pos hc, List.nil_append]
  by_cases h0 : List.length l = 0
  · have : l = [] := List.eq_nil_of_length_eq_zero h0
    subst this
    rfl
  · rw [if_neg h0]

def readS (l : List Int) (r w n : Int) : List Int × List Int × Int × Int × Int :=
  if ¬ okP l r w ∨ n < 0 then ([], [], 0, 0, 22)
  else if 0 < n ∧ l.length = 0 ∧ 0 < w then ([], [], 0, 0, 11)
  else (l.take n.toNat, l.drop n.toNat, r, w, 0)
def P5 (x : List Int × List Int × Int × Int × Int) : List Int × List Int × Int × Int × Option Int := (x.1, x.2.1, x.2.2.1, x.2.2.2.1, eo x.2.2.2.2)
def writeS (l : List Int) (r w : Int) (b : List Int) : Int × List Int × Int × Int × Int :=
  if ¬ okP l r w then (0, [], 0, 0, 22)
  else if r = 0 then (0, [], 0, 0, 32)
  else if 0 < b.length ∧ l.length = 64 then (0, [], 0, 0, 11)
  else (((min b.length (64 - l.length) : Nat) : Int), l ++ b.take (min b.length (64 - l.length)), r, w, 0)
def W5 (x : Int × List Int × Int × Int × Int) : Int × List Int × Int × Int × Option Int := (x.1, x.2.1, x.2.2.1, x.2.2.2.1, eo x.2.2.2.2)
def moveS (l : List Int) (r w : Int) (wr : Bool) (b : Int) : List Int × Int × Int × Int :=
  if ¬ okP l r w then ([], 0, 0, 22)
  else if okP (if (if wr = true then r else r + b) = 0 then [] else l) (if wr = true then r else r + b) (if wr = true then w + b else w) then
    ((if (if wr = true then r else r + b) = 0 then [] else l), (if wr = true then r else r + b), (if wr = true then w + b else w), 0)
  else ([], 0, 0, 22)
def M4 (x : List Int × Int × Int × Int) : List Int × Int × Int × Option Int := (x.1, x.2.1, x.2.2.1, eo x.2.2.2)

theorem take_min (l : List Int) (n : Int) (hn : 0 ≤ n) : List.take (Int.toNat (if ((l.length : Nat) : Int) < n then ((l.length : Nat) : Int) else n)) l = l.take n.toNat ∧ List.drop (Int.toNat (if ((l.length : Nat) : Int) < n then ((l.length : Nat) : Int) else n)) l = l.drop n.toNat := by
  split
  · have h1 : l.length ≤ n.toNat := by omega
    rw [toNat_nat, List.take_of_length_le h1, List.drop_eq_nil_of_le h1, List.take_length, List.drop_length]
    exact ⟨rfl, rfl⟩
  · exact ⟨rfl, rfl⟩

theorem Read_p (l : List Int) (r w n : Int) (hl : l.length ≤ 1000) : pipe_Read.f l r w n = some (P5 (readS l r w n)) := by
  unfold pipe_Read.f readS
  rw [Check_eq, bind_go]
  by_cases hok : okP l r w
  · rw [if_pos hok, if_neg (by simp)]
    by_cases hn : n < 0
    · rw [if_pos hn, if_pos (Or.inr hn)]; rfl
    · rw [if_neg hn, if_neg (show ¬ (¬ okP l r w ∨ n < 0) from fun h => h.elim (fun h => h hok) hn)]
      obtain ⟨t1, t2⟩ := take_min l n (by omega)
      have hc : 0 ≤ (if (((List.length l) : Nat) : Int) < n then (((List.length l) : Nat) : Int) else n) ∧ (if (((List.length l) : Nat) : Int) < n then (((List.length l) : Nat) : Int) else n) ≤ (((List.length l) : Nat) : Int) := by
        split <;> constructor <;> omega
      generalize (if (((List.length l) : Nat) : Int) < n then (((List.length l) : Nat) : Int) else n) = k at *
      have tail : (if 0 ≤ k ∧ k ≤ (((List.length l) : Nat) : Int) then
          (slices_Clone_byte_byte.f (List.take (Int.toNat k) l)).bind fun t11 =>
          if (True) ∧ ((0 ≤ k ∧ k ≤ (((List.length l) : Nat) : Int))) then
            (slices_Clone_byte_byte.f (List.drop (Int.toNat k) l)).bind fun t12 =>
            some (t11, t12, r, w, (none : Option Int))
          else none
        else none) = some (P5 (l.take n.toNat, l.drop n.toNat, r, w, 0)) := by
        rw [if_pos hc, t1, Clone_eq _ (by rw [List.length_take]; omega), bind_go, if_pos ⟨trivial, hc⟩, t2, Clone_eq _ (by rw [List.length_drop]; omega), bind_go]
        rfl
      by_cases hn0 : n > 0
      · rw [if_pos hn0]
        by_cases h0 : ((l.length : Nat) : Int) = 0
        · rw [if_pos h0]
          by_cases hw : w > 0
          · rw [if_pos hw, if_pos ⟨hn0, by omega, hw⟩]; rfl
          · rw [if_neg hw, if_neg (fun h : 0 < n ∧ l.length = 0 ∧ 0 < w => hw h.2.2)]; exact tail
        · rw [if_neg h0, if_neg (fun h : 0 < n ∧ l.length = 0 ∧ 0 < w => h0 (by omega))]; exact tail
      · rw [if_neg hn0, if_neg (fun h : 0 < n ∧ l.length = 0 ∧ 0 < w => hn0 h.1)]; exact tail
  · rw [if_neg hok, if_pos (by simp), if_pos (Or.inl hok)]; rfl

theorem Write_p (l : List Int) (r w : Int) (b : List Int) (hl : l.length ≤ 1000) (hb : b.length ≤ 1000) : pipe_Write.f l r w b = some (W5 (writeS l r w b)) := by
  unfold pipe_Write.f writeS
  rw [Check_eq, bind_go]
  by_cases hok : okP l r w
  · rw [if_pos hok, if_neg (by simp), if_neg (show ¬ ¬ okP l r w from fun h => h hok)]
    by_cases hr : r = 0
    · rw [if_pos hr, if_pos hr]; rfl
    · rw [if_neg hr, if_neg hr]
      have h64 := hok.1
      rw [wi64 (by omega) (by omega)]
      have hm : (if ((64 : Int) - (((List.length l) : Nat) : Int)) < (((List.length b) : Nat) : Int) then ((64 : Int) - (((List.length l) : Nat) : Int)) else (((List.length b) : Nat) : Int)) = ((min b.length (64 - l.length) : Nat) : Int) := by
        split <;> omega
      rw [hm]
      have hk1 : min b.length (64 - l.length) ≤ b.length := Nat.min_le_left _ _
      generalize min b.length (64 - l.length) = k at *
      have tail : (if 0 ≤ ((k : Nat) : Int) ∧ ((k : Nat) : Int) ≤ (((List.length b) : Nat) : Int) then
            (slices_Concat_byte_byte.f [l, (List.take (Int.toNat ((k : Nat) : Int)) b)]).bind fun t7 => some (((k : Nat) : Int), t7, r, w, (none : Option Int))
          else none) = some (W5 (((k : Nat) : Int), l ++ b.take k, r, w, 0)) := by
        rw [if_pos ⟨by omega, by omega⟩, toNat_nat, Concat_eq _ _ (by omega) (by rw [List.length_take]; omega), bind_go]
        rfl
      by_cases hb0 : ((b.length : Nat) : Int) > 0
      · rw [if_pos hb0]
        by_cases h0 : (64 : Int) - ((l.length : Nat) : Int) = 0
        · rw [if_pos h0, if_pos ⟨by omega, by omega⟩]; rfl
        · rw [if_neg h0, if_neg (fun h : 0 < b.length ∧ l.length = 64 => h0 (by omega))]; exact tail
      · rw [if_neg hb0, if_neg (fun h : 0 < b.length ∧ l.length = 64 => hb0 (by omega))]; exact tail
  · rw [if_neg hok, if_pos (by simp), if_pos hok]; rfl

theorem moved_p (l : List Int) (r w : Int) (wr : Bool) (b : Int) (hl : l.length ≤ 1000) (hb : b = 1 ∨ b = -1) : pipe_moved.f l r w wr b = some (M4 (moveS l r w wr b)) := by
  unfold pipe_moved.f moveS
  rw [Check_eq, bind_go]
  by_cases hok : okP l r w
  · rw [if_pos hok, if_neg (by simp), if_neg (show ¬ ¬ okP l r w from fun h => h hok)]
    obtain ⟨h1, h2, h3, h4, h5⟩ := hok
    rw [wi64 (x := w + b) (by omega) (by omega), wi64 (x := r + b) (by omega) (by omega), Clone_eq _ (by omega)]
    cases wr
    · simp only [bind_go, if_neg (show ¬ false = true by simp)]
      by_cases h0 : r + b = 0
      · simp only [if_pos h0, Check_eq, bind_go]
        by_cases hk : okP [] (r + b) w
        · simp only [if_pos hk]; rfl
        · simp only [if_neg hk]; rfl
      · simp only [if_neg h0, Check_eq, bind_go]
        by_cases hk : okP l (r + b) w
        · simp only [if_pos hk]; rfl
        · simp only [if_neg hk]; rfl
    · simp only [bind_go, if_pos]
      by_cases h0 : r = 0
      · simp only [if_pos h0, Check_eq, bind_go]
        by_cases hk : okP [] r (w + b)
        · simp only [if_pos hk]; rfl
        · simp only [if_neg hk]; rfl
      · simp only [if_neg h0, Check_eq, bind_go]
        by_cases hk : okP l r (w + b)
        · simp only [if_pos hk]; rfl
        · simp only [if_neg hk]; rfl
  · rw [if_neg hok, if_pos (by simp), if_pos hok]; rfl
theorem Open_p (l : List Int) (r w : Int) (wr : Bool) (hl : l.length ≤ 1000) : pipe_Open.f l r w wr = some (M4 (moveS l r w wr 1)) := by
  unfold pipe_Open.f
  rw [moved_p _ _ _ _ _ hl (.inl rfl), bind_go]
theorem Close_p (l : List Int) (r w : Int) (wr : Bool) (hl : l.length ≤ 1000) : pipe_Close.f l r w wr = some (M4 (moveS l r w wr (-1))) := by
  unfold pipe_Close.f
  rw [moved_p _ _ _ _ _ hl (.inr rfl), bind_go]
theorem sure_t : halterlaw18_sure.f = some true := by
  unfold halterlaw18_sure.f
  rw [Write_p _ _ _ _ (by simp) (by simp), bind_go]
  have e1 : W5 (writeS [] 1 1 [97, 98, 99]) = (3, [97, 98, 99], 1, 1, none) := by decide
  rw [e1]
  dsimp only
  rw [Read_p _ _ _ _ (by simp), bind_go, Read_p _ _ _ _ (by simp), bind_go, Write_p _ _ _ _ (by simp) (by simp), bind_go]
  have e2 : P5 (readS [97, 98, 99] 1 1 2) = ([97, 98], [99], 1, 1, none) := by decide
  have e3 : P5 (readS [] 0 1 1) = ([], [], 0, 0, some 11) := by decide
  have e4 : W5 (writeS [] 0 1 []) = (0, [], 0, 0, some 32) := by decide
  rw [e2, e3, e4]
  decide +kernel

theorem take_snoc {α : Type} (l : List α) (i : Nat) (d : α) (h : i < l.length) : l.take i ++ [l.getD i d] = l.take (i + 1) := by
  rw [List.take_add_one, List.getD_eq_getElem?_getD, List.getElem?_eq_getElem h]; rfl
theorem May_eq (l : List Int) (r w : Int) : halterref18_May.f l r w = some (decide (okP l r w)) := by
  unfold halterref18_May.f okP
  by_cases h1 : ((l.length : Nat) : Int) ≤ 64
  · rw [if_pos h1]
    by_cases h2 : r ≥ 0
    · rw [if_pos h2]
      by_cases h3 : r ≤ 1048576
      · rw [if_pos h3]
        by_cases h4 : w ≥ 0
        · rw [if_pos h4]; congr 1; rw [decide_eq_decide]
          exact ⟨fun h => ⟨by omega, by omega, by omega, by omega, by omega⟩, fun h => by omega⟩
        · rw [if_neg h4]; congr 1; symm; rw [decide_eq_false_iff_not]; omega
      · rw [if_neg h3]; congr 1; symm; rw [decide_eq_false_iff_not]; omega
    · rw [if_neg h2]; congr 1; symm; rw [decide_eq_false_iff_not]; omega
  · rw [if_neg h1]; congr 1; symm; rw [decide_eq_false_iff_not]; omega
theorem rl0 (a0 : List Int) (a1 a2 a3 : Int) (h3 : 0 ≤ a3) (hlen : a0.length ≤ 1000) : ∀ (d i n : Nat), i + d = a0.length → d < n →
    halterref18_Read.l0 a0 a1 a2 a3 n ((a0.take i).take a3.toNat) ((a0.take i).drop a3.toNat) (i : Int) = some (a0.take a3.toNat, a0.drop a3.toNat) := by
  intro d
  induction d with
  | zero =>
    intro i n hi hn
    obtain ⟨m, rfl⟩ := fuel_step hn
    have e : i = a0.length := by omega
    subst e
    rw [halterref18_Read.l0, if_neg (by omega), List.take_length]
  | succ d ih =>
    intro i n hi hn
    obtain ⟨m, rfl⟩ := fuel_step hn
    have hlt : i < a0.length := by omega
    have hs := take_snoc a0 i 0 hlt
    rw [halterref18_Read.l0, if_pos (by omega), wsucc (by omega)]
    have hg : (0 : Int) ≤ (i : Int) ∧ (i : Int) < ((a0.length : Nat) : Int) := by omega
    have hti : (a0.take i).length = i := by rw [List.length_take]; omega
    by_cases hc : (i : Int) < a3
    · rw [if_pos hc, if_pos hg, if_pos ⟨⟨rfl, rfl⟩, rfl, rfl, by rw [List.length_take, hti]; omega, by rw [List.length_take, hti]; omega⟩, toNat_nat]
      have e1 : (a0.take i).take a3.toNat ++ [a0.getD i 0] = (a0.take (i + 1)).take a3.toNat := by
        have ht1 : (a0.take (i + 1)).length = i + 1 := by rw [List.length_take]; omega
        rw [List.take_of_length_le (l := a0.take i) (by omega), hs, List.take_of_length_le (l := a0.take (i + 1)) (by omega)]
      have e2 : (a0.take i).drop a3.toNat = (a0.take (i + 1)).drop a3.toNat := by
        rw [List.drop_eq_nil_of_le (by omega), List.drop_eq_nil_of_le (by rw [List.length_take]; omega)]
      rw [e1, e2]
      exact ih (i + 1) m (by omega) (by omega)
    · rw [if_neg hc, if_pos hg, if_pos ⟨⟨rfl, rfl⟩, rfl, rfl, by rw [List.length_drop, hti]; omega, by rw [List.length_drop, hti]; omega⟩, toNat_nat]
      have e1 : (a0.take i).drop a3.toNat ++ [a0.getD i 0] = (a0.take (i + 1)).drop a3.toNat := by
        rw [← hs, List.drop_append_of_le_length (by omega)]
      have e2 : (a0.take i).take a3.toNat = (a0.take (i + 1)).take a3.toNat := by
        rw [List.take_take, List.take_take]; congr 1; omega
      rw [e1, e2]
      exact ih (i + 1) m (by omega) (by omega)
theorem rl1 (a0 : List Int) (a1 a2 a3 : Int) (h3 : 0 ≤ a3) (hlen : a0.length ≤ 1000) : ∀ (d i n : Nat), i + d = a0.length → d < n →
    halterref18_Read.l1 a0 a1 a2 a3 n ((a0.take i).take a3.toNat) ((a0.take i).drop a3.toNat) (i : Int) = some (a0.take a3.toNat, a0.drop a3.toNat) := by
  intro d
  induction d with
  | zero =>
    intro i n hi hn
    obtain ⟨m, rfl⟩ := fuel_step hn
    have e : i = a0.length := by omega
    subst e
    rw [halterref18_Read.l1, if_neg (by omega), List.take_length]
  | succ d ih =>
    intro i n hi hn
    obtain ⟨m, rfl⟩ := fuel_step hn
    have hlt : i < a0.length := by omega
    have hs := take_snoc a0 i 0 hlt
    rw [halterref18_Read.l1, if_pos (by omega), wsucc (by omega)]
    have hg : (0 : Int) ≤ (i : Int) ∧ (i : Int) < ((a0.length : Nat) : Int) := by omega
    have hti : (a0.take i).length = i := by rw [List.length_take]; omega
    by_cases hc : (i : Int) < a3
    · rw [if_pos hc, if_pos hg, if_pos ⟨⟨rfl, rfl⟩, rfl, rfl, by rw [List.length_take, hti]; omega, by rw [List.length_take, hti]; omega⟩, toNat_nat]
      have e1 : (a0.take i).take a3.toNat ++ [a0.getD i 0] = (a0.take (i + 1)).take a3.toNat := by
        have ht1 : (a0.take (i + 1)).length = i + 1 := by rw [List.length_take]; omega
        rw [List.take_of_length_le (l := a0.take i) (by omega), hs, List.take_of_length_le (l := a0.take (i + 1)) (by omega)]
      have e2 : (a0.take i).drop a3.toNat = (a0.take (i + 1)).drop a3.toNat := by
        rw [List.drop_eq_nil_of_le (by omega), List.drop_eq_nil_of_le (by rw [List.length_take]; omega)]
      rw [e1, e2]
      exact ih (i + 1) m (by omega) (by omega)
    · rw [if_neg hc, if_pos hg, if_pos ⟨⟨rfl, rfl⟩, rfl, rfl, by rw [List.length_drop, hti]; omega, by rw [List.length_drop, hti]; omega⟩, toNat_nat]
      have e1 : (a0.take i).drop a3.toNat ++ [a0.getD i 0] = (a0.take (i + 1)).drop a3.toNat := by
        rw [← hs, List.drop_append_of_le_length (by omega)]
      have e2 : (a0.take i).take a3.toNat = (a0.take (i + 1)).take a3.toNat := by
        rw [List.take_take, List.take_take]; congr 1; omega
      rw [e1, e2]
      exact ih (i + 1) m (by omega) (by omega)
theorem rl2 (a0 : List Int) (a1 a2 a3 : Int) (h3 : 0 ≤ a3) (hlen : a0.length ≤ 1000) : ∀ (d i n : Nat), i + d = a0.length → d < n →
    halterref18_Read.l2 a0 a1 a2 a3 n ((a0.take i).take a3.toNat) ((a0.take i).drop a3.toNat) (i : Int) = some (a0.take a3.toNat, a0.drop a3.toNat) := by
  intro d
  induction d with
  | zero =>
    intro i n hi hn
    obtain ⟨m, rfl⟩ := fuel_step hn
    have e : i = a0.length := by omega
    subst e
    rw [halterref18_Read.l2, if_neg (by omega), List.take_length]
  | succ d ih =>
    intro i n hi hn
    obtain ⟨m, rfl⟩ := fuel_step hn
    have hlt : i < a0.length := by omega
    have hs := take_snoc a0 i 0 hlt
    rw [halterref18_Read.l2, if_pos (by omega), wsucc (by omega)]
    have hg : (0 : Int) ≤ (i : Int) ∧ (i : Int) < ((a0.length : Nat) : Int) := by omega
    have hti : (a0.take i).length = i := by rw [List.length_take]; omega
    by_cases hc : (i : Int) < a3
    · rw [if_pos hc, if_pos hg, if_pos ⟨⟨rfl, rfl⟩, rfl, rfl, by rw [List.length_take, hti]; omega, by rw [List.length_take, hti]; omega⟩, toNat_nat]
      have e1 : (a0.take i).take a3.toNat ++ [a0.getD i 0] = (a0.take (i + 1)).take a3.toNat := by
        have ht1 : (a0.take (i + 1)).length = i + 1 := by rw [List.length_take]; omega
        rw [List.take_of_length_le (l := a0.take i) (by omega), hs, List.take_of_length_le (l := a0.take (i + 1)) (by omega)]
      have e2 : (a0.take i).drop a3.toNat = (a0.take (i + 1)).drop a3.toNat := by
        rw [List.drop_eq_nil_of_le (by omega), List.drop_eq_nil_of_le (by rw [List.length_take]; omega)]
      rw [e1, e2]
      exact ih (i + 1) m (by omega) (by omega)
    · rw [if_neg hc, if_pos hg, if_pos ⟨⟨rfl, rfl⟩, rfl, rfl, by rw [List.length_drop, hti]; omega, by rw [List.length_drop, hti]; omega⟩, toNat_nat]
      have e1 : (a0.take i).drop a3.toNat ++ [a0.getD i 0] = (a0.take (i + 1)).drop a3.toNat := by
        rw [← hs, List.drop_append_of_le_length (by omega)]
      have e2 : (a0.take i).take a3.toNat = (a0.take (i + 1)).take a3.toNat := by
        rw [List.take_take, List.take_take]; congr 1; omega
      rw [e1, e2]
      exact ih (i + 1) m (by omega) (by omega)
theorem wl0 (a0 : List Int) (a1 a2 : Int) (b : List Int) (hlen : a0.length ≤ 64) (hb : b.length ≤ 1000) : ∀ (d i n : Nat), i + d = min b.length (64 - a0.length) → d < n →
    halterref18_Write.l0 a0 a1 a2 b n (a0 ++ b.take i) (i : Int) = some (a0 ++ b.take (min b.length (64 - a0.length)), ((min b.length (64 - a0.length) : Nat) : Int)) := by
  intro d
  induction d with
  | zero =>
    intro i n hi hn
    obtain ⟨m, rfl⟩ := fuel_step hn
    have e : i = min b.length (64 - a0.length) := by omega
    have hl : (a0 ++ b.take i).length = a0.length + i := by rw [List.length_append, List.length_take]; omega
    rw [halterref18_Write.l0, ← e]
    by_cases h1 : (i : Int) < ((b.length : Nat) : Int)
    · rw [if_pos h1, if_neg (by rw [hl]; omega)]
    · rw [if_neg h1]
  | succ d ih =>
    intro i n hi hn
    obtain ⟨m, rfl⟩ := fuel_step hn
    have hlt : i < b.length := by omega
    have hs := take_snoc b i 0 hlt
    have hl : (a0 ++ b.take i).length = a0.length + i := by rw [List.length_append, List.length_take]; omega
    rw [halterref18_Write.l0, if_pos (by omega), if_pos (by rw [hl]; omega), if_pos ⟨by omega, by omega⟩, if_pos ⟨⟨rfl, rfl⟩, rfl, rfl, by rw [hl]; omega, by rw [hl]; omega⟩, toNat_nat, wsucc (by omega), List.append_assoc, hs]
    exact ih (i + 1) m (by omega) (by omega)
theorem wl1 (a0 : List Int) (a1 a2 : Int) (b : List Int) (hlen : a0.length ≤ 64) (hb : b.length ≤ 1000) : ∀ (d i n : Nat), i + d = min b.length (64 - a0.length) → d < n →
    halterref18_Write.l1 a0 a1 a2 b n (a0 ++ b.take i) (i : Int) = some (a0 ++ b.take (min b.length (64 - a0.length)), ((min b.length (64 - a0.length) : Nat) : Int)) := by
  intro d
  induction d with
  | zero =>
    intro i n hi hn
    obtain ⟨m, rfl⟩ := fuel_step hn
    have e : i = min b.length (64 - a0.length) := by omega
    have hl : (a0 ++ b.take i).length = a0.length + i := by rw [List.length_append, List.length_take]; omega
    rw [halterref18_Write.l1, ← e]
    by_cases h1 : (i : Int) < ((b.length : Nat) : Int)
    · rw [if_pos h1, if_neg (by rw [hl]; omega)]
    · rw [if_neg h1]
  | succ d ih =>
    intro i n hi hn
    obtain ⟨m, rfl⟩ := fuel_step hn
    have hlt : i < b.length := by omega
    have hs := take_snoc b i 0 hlt
    have hl : (a0 ++ b.take i).length = a0.length + i := by rw [List.length_append, List.length_take]; omega
    rw [halterref18_Write.l1, if_pos (by omega), if_pos (by rw [hl]; omega), if_pos ⟨by omega, by omega⟩, if_pos ⟨⟨rfl, rfl⟩, rfl, rfl, by rw [hl]; omega, by rw [hl]; omega⟩, toNat_nat, wsucc (by omega), List.append_assoc, hs]
    exact ih (i + 1) m (by omega) (by omega)

theorem Read_r (l : List Int) (r w n : Int) (hl : l.length ≤ 1000) : halterref18_Read.f l r w n = some (readS l r w n) := by
  unfold halterref18_Read.f readS
  rw [May_eq, bind_go]
  by_cases hok : okP l r w
  · rw [if_neg (by simpa using hok)]
    by_cases hn : n < 0
    · rw [if_pos hn, if_pos (Or.inr hn)]
    · rw [if_neg hn, if_neg (show ¬ (¬ okP l r w ∨ n < 0) from fun h => h.elim (fun h => h hok) hn)]
      have f0 := rl0 l r w n (by omega) hl l.length 0 FUEL (by omega) (fuel_gt (by omega))
      have f1 := rl1 l r w n (by omega) hl l.length 0 FUEL (by omega) (fuel_gt (by omega))
      have f2 := rl2 l r w n (by omega) hl l.length 0 FUEL (by omega) (fuel_gt (by omega))
      simp only [List.take_zero, List.take_nil, List.drop_nil] at f0 f1 f2
      have z0 : ((0 : Nat) : Int) = 0 := rfl
      rw [z0] at f0 f1 f2
      rw [f0, f1, f2]
      simp only [bind_go]
      by_cases hn0 : n > 0
      · rw [if_pos hn0]
        by_cases h0 : ((l.length : Nat) : Int) = 0
        · rw [if_pos h0]
          by_cases hw : w > 0
          · rw [if_pos hw, if_pos ⟨hn0, by omega, hw⟩]
          · rw [if_neg hw, if_neg (fun h : 0 < n ∧ l.length = 0 ∧ 0 < w => hw h.2.2)]
        · rw [if_neg h0, if_neg (fun h : 0 < n ∧ l.length = 0 ∧ 0 < w => h0 (by omega))]
      · rw [if_neg hn0, if_neg (fun h : 0 < n ∧ l.length = 0 ∧ 0 < w => hn0 h.1)]
  · rw [if_pos (by simpa using hok), if_pos (Or.inl hok)]
theorem Write_r (l : List Int) (r w : Int) (b : List Int) (hl : l.length ≤ 1000) (hb : b.length ≤ 1000) : halterref18_Write.f l r w b = some (writeS l r w b) := by
  unfold halterref18_Write.f writeS
  rw [May_eq, bind_go]
  by_cases hok : okP l r w
  · rw [if_neg (by simpa using hok), if_neg (show ¬ ¬ okP l r w from fun h => h hok)]
    by_cases hr : r = 0
    · rw [if_pos hr, if_pos hr]
    · rw [if_neg hr, if_neg hr]
      have h64 := hok.1
      have f0 := wl0 l r w b h64 hb (min b.length (64 - l.length)) 0 FUEL (by omega) (fuel_gt (by omega))
      have f1 := wl1 l r w b h64 hb (min b.length (64 - l.length)) 0 FUEL (by omega) (fuel_gt (by omega))
      simp only [List.take_zero, List.append_nil] at f0 f1
      have z0 : ((0 : Nat) : Int) = 0 := rfl
      rw [z0] at f0 f1
      have hc : True ∧ ((List.length l) * 1 ≤ 140737488355328 ∧ (List.length l) ≤ 9223372036854775807) := ⟨trivial, by omega, by omega⟩
      rw [if_pos hc, if_pos hc, f0, f1]
      simp only [bind_go]
      by_cases hb0 : ((b.length : Nat) : Int) > 0
      · rw [if_pos hb0]
        by_cases h0 : ((l.length : Nat) : Int) = 64
        · rw [if_pos h0, if_pos ⟨by omega, by omega⟩]
        · rw [if_neg h0, if_neg (fun h : 0 < b.length ∧ l.length = 64 => h0 (by omega))]
      · rw [if_neg hb0, if_neg (fun h : 0 < b.length ∧ l.length = 64 => hb0 (by omega))]
  · rw [if_pos (by simpa using hok), if_pos hok]
theorem Open_r (l : List Int) (r w : Int) (wr : Bool) (b : Int) (hb : b = 1 ∨ b = -1) : halterref18_Open.f l r w wr b = some (moveS l r w wr b) := by
  unfold halterref18_Open.f moveS
  rw [May_eq, bind_go]
  by_cases hok : okP l r w
  · rw [if_neg (by simpa using hok), if_neg (show ¬ ¬ okP l r w from fun h => h hok)]
    obtain ⟨h1, h2, h3, h4, h5⟩ := hok
    rw [wi64 (x := w + b) (by omega) (by omega), wi64 (x := r + b) (by omega) (by omega)]
    cases wr
    · simp only [if_neg (show ¬ false = true by simp)]
      by_cases h0 : r + b = 0
      · simp only [if_pos h0, May_eq, bind_go]
        by_cases hk : okP [] (r + b) w
        · rw [if_neg (fun h => h (decide_eq_true hk)), if_pos hk]
        · rw [if_pos (fun h => hk (of_decide_eq_true h)), if_neg hk]
      · simp only [if_neg h0, May_eq, bind_go]
        by_cases hk : okP l (r + b) w
        · rw [if_neg (fun h => h (decide_eq_true hk)), if_pos hk]
        · rw [if_pos (fun h => hk (of_decide_eq_true h)), if_neg hk]
    · simp only [if_pos]
      by_cases h0 : r = 0
      · simp only [if_pos h0, May_eq, bind_go]
        by_cases hk : okP [] r (w + b)
        · rw [if_neg (fun h => h (decide_eq_true hk)), if_pos hk]
        · rw [if_pos (fun h => hk (of_decide_eq_true h)), if_neg hk]
      · simp only [if_neg h0, May_eq, bind_go]
        by_cases hk : okP l r (w + b)
        · rw [if_neg (fun h => h (decide_eq_true hk)), if_pos hk]
        · rw [if_pos (fun h => hk (of_decide_eq_true h)), if_neg hk]
  · rw [if_pos (by simpa using hok), if_pos hok]
theorem same_eq (l : List Int) (r w : Int) : halterlaw18_same.f l r w l r w = some true := by
  unfold halterlaw18_same.f
  rw [if_pos rfl, if_pos rfl]
  simp

theorem fuel3' : ∃ k, FUEL = k + 3 := ⟨18446744073709551613, rfl⟩
theorem loop2 (t5 t6 t7 t8) (a0 : List Int) (a1 a2 : Int) (hl : a0.length ≤ 1000) : halterlaw18_PipeSteps.l0 t5 t6 t7 t8 a0 a1 a2 FUEL 0 = some (.inl ()) := by
  obtain ⟨k, hk⟩ := fuel3'
  have step : ∀ (n : Nat) (x : Int), x < 2 → halterlaw18_PipeSteps.l0 t5 t6 t7 t8 a0 a1 a2 (n + 1) x = halterlaw18_PipeSteps.l0 t5 t6 t7 t8 a0 a1 a2 n (IntKind.wrap .i64 (x + 1)) := by
    intro n x hx
    rw [halterlaw18_PipeSteps.l0, if_pos hx, Open_p _ _ _ _ hl, bind_go, Open_r _ _ _ _ _ (.inl rfl), bind_go, Close_p _ _ _ _ hl, bind_go, Open_r _ _ _ _ _ (.inr rfl), bind_go]
    simp only [M4, same_eq, bind_go, num_eo, not_true_eq_false, if_false]
  rw [hk, step _ _ (by omega)]
  have w1 : IntKind.wrap .i64 ((0 : Int) + 1) = 1 := by decide
  have w2 : IntKind.wrap .i64 ((1 : Int) + 1) = 2 := by decide
  rw [w1, step _ _ (by omega), w2, halterlaw18_PipeSteps.l0, if_neg (by omega)]
theorem PipeSteps (a0 : (List Int)) (a1 : Int) (a2 : Int) (a3 : Int) (a4 : (List Int)) (h0 : List.length a0 ≤ maxLen) (h1 : ∀ z ∈ a0, (Lit.int .u8 z).wf = true) (h2 : (Lit.int .i64 a1).wf = true) (h3 : (Lit.int .i64 a2).wf = true) (h4 : (Lit.int .i64 a3).wf = true) (h5 : List.length a4 * 1 ≤ reachBytes) (h6 : ∀ z ∈ a4, (Lit.int .u8 z).wf = true) : halterlaw18_PipeSteps.f a0 a1 a2 a3 a4 = some true := by
  unfold halterlaw18_PipeSteps.f
  by_cases hl : (((List.length a0) : Nat) : Int) > (200 : Int)
  · rw [if_pos hl, sure_t, bind_go]
  · rw [if_neg hl]
    by_cases hb : (((List.length a4) : Nat) : Int) > (300 : Int)
    · rw [if_pos hb, sure_t, bind_go]
    · rw [if_neg hb, Read_p _ _ _ _ (by omega), bind_go, Read_r _ _ _ _ (by omega), bind_go, Write_p _ _ _ _ (by omega) (by omega), bind_go, Write_r _ _ _ _ (by omega) (by omega), bind_go]
      rw [loop2 _ _ _ _ a0 a1 a2 (by omega), May_eq, Check_eq, sure_t]
      simp only [P5, W5, same_eq, bind_go, num_eo, not_true_eq_false, if_false, if_true]
      by_cases hok : okP a0 a1 a2
      · rw [if_pos (by simp [hok])]
      · rw [if_pos (by simp [hok])]

end Go.Proofs.YtlkhfagmpoibaaaDoor.Pure
