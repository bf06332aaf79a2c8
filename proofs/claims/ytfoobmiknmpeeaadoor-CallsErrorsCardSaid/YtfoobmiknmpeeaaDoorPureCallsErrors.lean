/- The plain law: what the law computes is true, whatever it is handed. -/
import Derived.Test.YtfoobmiknmpeeaaDoorGCallsErrors
import Derived.Test.YtfoobmiknmpeeaaDoorE16
set_option linter.unusedVariables false
set_option linter.unusedSimpArgs false
set_option linter.unnecessarySimpa false
namespace Go.Proofs.YtfoobmiknmpeeaaDoor.Pure
open Go Go.Proofs.YtfoobmiknmpeeaaDoorE Go.Proofs.YtfoobmiknmpeeaaDoorGCallsErrors
theorem wu8 (x : Int) : IntKind.wrap .u8 x = x % 256 := by simp [IntKind.wrap, IntKind.bits, IntKind.signed]
theorem wu16 (x : Int) : IntKind.wrap .u16 x = x % 65536 := by simp [IntKind.wrap, IntKind.bits, IntKind.signed]
theorem wu32 (x : Int) : IntKind.wrap .u32 x = x % 4294967296 := by simp [IntKind.wrap, IntKind.bits, IntKind.signed]
theorem wu64 (x : Int) : IntKind.wrap .u64 x = x % 18446744073709551616 := by simp [IntKind.wrap, IntKind.bits, IntKind.signed]
theorem wi64 {x : Int} (h : -9223372036854775808 ≤ x) (h' : x ≤ 9223372036854775807) : IntKind.wrap .i64 x = x := by
  simp [IntKind.wrap, IntKind.bits, IntKind.signed]
  omega
theorem wu8_id {x : Int} (h : 0 ≤ x ∧ x < 256) : IntKind.wrap .u8 x = x := by rw [wu8]; omega
theorem wu32_id {x : Int} (h : 0 ≤ x ∧ x < 4294967296) : IntKind.wrap .u32 x = x := by rw [wu32]; omega
theorem wu64_id {x : Int} (h : 0 ≤ x ∧ x < 18446744073709551616) : IntKind.wrap .u64 x = x := by rw [wu64]; omega
theorem wsucc {i : Nat} (h : i < 9223372036854775807) : IntKind.wrap .i64 ((i : Int) + 1) = ((i + 1 : Nat) : Int) := by rw [wi64 (by omega) (by omega)]; omega
theorem u8_bd {a : Int} (h : (Lit.int .u8 a).wf = true) : 0 ≤ a ∧ a < 256 := by
  simpa [Lit.wf, IntKind.min, IntKind.max, IntKind.signed, IntKind.bits, ← Int.lt_add_one_iff] using h
theorem u32_bd {a : Int} (h : (Lit.int .u32 a).wf = true) : 0 ≤ a ∧ a < 4294967296 := by
  simpa [Lit.wf, IntKind.min, IntKind.max, IntKind.signed, IntKind.bits, ← Int.lt_add_one_iff] using h
theorem u64_bd {a : Int} (h : (Lit.int .u64 a).wf = true) : 0 ≤ a ∧ a < 18446744073709551616 := by
  simpa [Lit.wf, IntKind.min, IntKind.max, IntKind.signed, IntKind.bits, ← Int.lt_add_one_iff] using h
theorem i64_bd {a : Int} (h : (Lit.int .i64 a).wf = true) : -9223372036854775808 ≤ a ∧ a < 9223372036854775808 := by
  simpa [Lit.wf, IntKind.min, IntKind.max, IntKind.signed, IntKind.bits, ← Int.lt_add_one_iff] using h
theorem fuel_gt {n : Nat} (h : n < 18446744073709551616) : n < FUEL := h
theorem bind_go {α β : Type} (a : α) (f : α → Option β) : (some a).bind f = f a := by rw [Option.bind_some]
theorem drop_getD {α : Type} (l : List α) (i : Nat) (d : α) (h : i < l.length) : l.drop i = l.getD i d :: l.drop (i + 1) := by
  rw [List.drop_eq_getElem_cons h, List.getD_eq_getElem?_getD, List.getElem?_eq_getElem h, Option.getD_some]
theorem getD_mem {α : Type} (l : List α) (i : Nat) (d : α) (h : i < l.length) : l.getD i d ∈ l := by
  rw [List.getD_eq_getElem?_getD, List.getElem?_eq_getElem h, Option.getD_some]; exact List.getElem_mem _
theorem toNat_nat (i : Nat) : Int.toNat (i : Int) = i := rfl
/-- A number behind another one: a round of a loop. -/
theorem fuel_step {d n : Nat} (h : d < n) : ∃ m, n = m + 1 := ⟨n - 1, by omega⟩
/-- Where something stands first. -/
def first (v : Int) : List Int → Option Nat
  | [] => none
  | x :: xs => if x = v then some 0 else (first v xs).map (· + 1)
theorem first_none {v : Int} : ∀ {l : List Int}, first v l = none → ∀ z ∈ l, z ≠ v
  | [], _, z, hz => by cases hz
  | x :: xs, h, z, hz => by
    unfold first at h
    split at h
    · cases h
    · rename_i hx
      rcases List.mem_cons.1 hz with rfl | hz
      · exact hx
      · exact first_none (by simpa using h) z hz
theorem first_some {v : Int} : ∀ {l : List Int} {k : Nat}, first v l = some k → k < l.length ∧ l.getD k 0 = v ∧ ∀ j, j < k → l.getD j 0 ≠ v
  | [], _, h => by cases h
  | x :: xs, k, h => by
    unfold first at h
    split at h
    · cases h
      rename_i hx
      exact ⟨by simp, by simpa using hx, fun j hj => by omega⟩
    · rename_i hx
      cases hf : first v xs with
      | none => simp [hf] at h
      | some m =>
        simp [hf] at h
        subst h
        obtain ⟨h1, h2, h3⟩ := first_some hf
        refine ⟨by simp; omega, by simpa using h2, fun j hj => ?_⟩
        cases j with
        | zero => simpa using hx
        | succ j => simpa using h3 j (by omega)

theorem tmod_pos {a m : Int} (h : 0 ≤ a) : Int.tmod a m = a % m := Int.tmod_eq_emod_of_nonneg h
theorem fail_eq (v : Int) (h0 : 0 ≤ v) (h1 : v < 4294967296) : calls_Failed.f v = some (if 4294963201 ≤ v then 4294967296 - v else 0) := by
  unfold calls_Failed.f
  rw [wu32]
  by_cases h : 4294963201 ≤ v
  · rw [if_pos h, if_pos (by omega), if_pos (by omega), wi64 (by omega) (by omega)]
    congr 1; omega
  · rw [if_neg h]
    by_cases h2 : (0 - v) % 4294967296 ≥ 1
    · rw [if_pos h2, if_neg (by omega)]
    · rw [if_neg h2]
theorem rfail_eq (v : Int) (h0 : 0 ≤ v) (h1 : v < 4294967296) : halterref28_Failed.f v = some (if 4294963201 ≤ v then 4294967296 - v else 0) := by
  unfold halterref28_Failed.f
  rw [wi64 (x := v) (by omega) (by omega), wi64 (x := 4294967296 - v) (by omega) (by omega), if_pos (by omega)]
  by_cases h : 4294963201 ≤ v
  · rw [if_pos h, if_pos (by omega)]
  · rw [if_neg h, if_neg (by omega)]
theorem mod_lo (a m : Int) (hm : 0 < m ∧ m < 1000) : ∃ k : Nat, (k : Int) < m ∧ IntKind.wrap .i64 ((1 : Int) + IntKind.wrap .i64 (Int.tmod (IntKind.wrap .u64 a) m)) = ((k + 1 : Nat) : Int) := by
  rw [wu64, tmod_pos (by omega)]
  have h1 := Int.emod_nonneg (a % 18446744073709551616) (show m ≠ 0 by omega)
  have h2 := Int.emod_lt_of_pos (a % 18446744073709551616) hm.1
  refine ⟨(a % 18446744073709551616 % m).toNat, by omega, ?_⟩
  rw [wi64 (x := a % 18446744073709551616 % m) (by omega) (by omega), wi64 (by omega) (by omega)]
  omega
theorem names_all : ∀ q : Fin 29, (calls_Name.f ((q.val + 1 : Nat) : Int)).bind calls_Find.f = some (((q.val + 1 : Nat) : Int), none) := by decide +kernel
theorem res_eq (a v : Int) : calls_Result.f a (some v) = some (-(v % 4294967296) % 4294967296) := rfl
theorem sure_t : halterlaw28_sure.f = some true := by kernel_rfl
theorem CallsErrors (a0 : Int) (a1 : Int) (a2 : Int) (h0 : (Lit.int .u32 a0).wf = true) (h1 : (Lit.int .i64 a1).wf = true) (h2 : (Lit.int .i64 a2).wf = true) : halterlaw28_CallsErrors.f a0 a1 a2 = some true := by
  obtain ⟨x0, x1⟩ := u32_bd h0
  obtain ⟨k, hk, ek⟩ := mod_lo a1 337 (by omega)
  obtain ⟨c, hc, ec⟩ := mod_lo a2 29 (by omega)
  have hm : Int.tmod a0 2147483648 = a0 % 2147483648 := tmod_pos x0
  have r1 : calls_Result.f a0 (some ((k + 1 : Nat) : Int)) = some (4294967296 - ((k + 1 : Nat) : Int)) := by
    have e : -(((k + 1 : Nat) : Int) % 4294967296) % 4294967296 = 4294967296 - ((k + 1 : Nat) : Int) := by omega
    rw [res_eq, e]
  have f1 : (if (4294963201 : Int) ≤ 4294967296 - ((k + 1 : Nat) : Int) then 4294967296 - (4294967296 - ((k + 1 : Nat) : Int)) else 0) = ((k + 1 : Nat) : Int) := by rw [if_pos (by omega)]; omega
  have f2 : (if (4294963201 : Int) ≤ a0 % 2147483648 then 4294967296 - a0 % 2147483648 else 0) = 0 := if_neg (by omega)
  have r2 : ∀ v : Int, calls_Result.f v none = some v := fun v => rfl
  have r3 : calls_Result_oe.f a0 = some 4294967291 := rfl
  have rn : errors_New.f (⟨#[111, 116, 104, 101, 114]⟩ : ByteArray) = some () := rfl
  have hn := names_all ⟨c, by omega⟩
  unfold halterlaw28_CallsErrors.f
  rw [fail_eq a0 x0 x1, bind_go, rfail_eq a0 x0 x1, bind_go, if_neg (fun h => h rfl), ek, r1, bind_go, fail_eq _ (by omega) (by omega), bind_go, f1, if_neg (fun h => h rfl), hm, r2, bind_go, fail_eq _ (by omega) (by omega), bind_go, f2, if_neg (fun h => h rfl), r2, bind_go, if_neg (fun h => h rfl), rn, bind_go, r3, bind_go, if_neg (fun h => h rfl), ec]
  cases hN : calls_Name.f ((c + 1 : Nat) : Int) with
  | none => rw [show calls_Name.f (((⟨c, by omega⟩ : Fin 29).val + 1 : Nat) : Int) = none from hN] at hn; cases hn
  | some x =>
    rw [show calls_Name.f (((⟨c, by omega⟩ : Fin 29).val + 1 : Nat) : Int) = some x from hN, bind_go] at hn
    rw [bind_go, hn, bind_go]
    dsimp only
    rw [if_pos rfl, if_pos rfl, sure_t, bind_go]

end Go.Proofs.YtfoobmiknmpeeaaDoor.Pure
