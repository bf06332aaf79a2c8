/- The plain law: what the law computes is true, whatever it is handed. -/
import Derived.Test.YtfoejbiifolnnaaDoorGAluFloats
import Derived.Test.YtfoejbiifolnnaaDoorE16
import Derived.Laws.BitsLemmas
import Derived.Laws.BitsAllLaws
import Derived.Laws.BitsLemmas
import Derived.Laws.BitsAllLaws
set_option linter.unusedVariables false
set_option linter.unusedSimpArgs false
set_option linter.unnecessarySimpa false
namespace Go.Proofs.YtfoejbiifolnnaaDoor.Pure
open Go Go.Proofs.YtfoejbiifolnnaaDoorE Go.Proofs.YtfoejbiifolnnaaDoorGAluFloats
theorem wu32 (x : Int) : IntKind.wrap .u32 x = x % 4294967296 := by simp [IntKind.wrap, IntKind.bits, IntKind.signed]
theorem wu64 (x : Int) : IntKind.wrap .u64 x = x % 18446744073709551616 := by simp [IntKind.wrap, IntKind.bits, IntKind.signed]
theorem wi64 {x : Int} (h : -9223372036854775808 ≤ x) (h' : x ≤ 9223372036854775807) : IntKind.wrap .i64 x = x := by
  simp [IntKind.wrap, IntKind.bits, IntKind.signed]
  omega
theorem wu32_id {x : Int} (h : 0 ≤ x ∧ x < 4294967296) : IntKind.wrap .u32 x = x := by rw [wu32]; omega
theorem wu64_id {x : Int} (h : 0 ≤ x ∧ x < 18446744073709551616) : IntKind.wrap .u64 x = x := by rw [wu64]; omega
theorem wsucc {i : Nat} (h : i < 9223372036854775807) : IntKind.wrap .i64 ((i : Int) + 1) = ((i + 1 : Nat) : Int) := by rw [wi64 (by omega) (by omega)]; omega
theorem u32_bd {a : Int} (h : (Lit.int .u32 a).wf = true) : 0 ≤ a ∧ a < 4294967296 := by
  simpa [Lit.wf, IntKind.min, IntKind.max, IntKind.signed, IntKind.bits, ← Int.lt_add_one_iff] using h
theorem u64_bd {a : Int} (h : (Lit.int .u64 a).wf = true) : 0 ≤ a ∧ a < 18446744073709551616 := by
  simpa [Lit.wf, IntKind.min, IntKind.max, IntKind.signed, IntKind.bits, ← Int.lt_add_one_iff] using h
theorem fuel_gt {n : Nat} (h : n < 18446744073709551616) : n < FUEL := h
theorem bind_go {α β : Type} (a : α) (f : α → Option β) : (some a).bind f = f a := by rw [Option.bind_some]
theorem fuel_step {d n : Nat} (h : d < n) : ∃ m, n = m + 1 := ⟨n - 1, by omega⟩
open Go.Proofs.YtfoejbiifolnnaaDoorF (ofB ofB_none sg rg mag val fin D wordN rnd read_fin read_inf read_nan word_self write_read rnd_mag mag_rnd mag_exact order_fin add_fin sub_fin nearest_units nearest_scale nearest_eq word_eq D_eq D_inf D_binade D_sign D_least D_frac cut_rne rne rne_zero rne_scale rne_exact log2_shift log2_of signed_eq val_of cmp_int cmp_scale pick)
theorem mag_pos (r : Nat) (h : r ≠ 0) : mag r ≠ 0 := by
  unfold mag
  have hp := Nat.two_pow_pos (r / 4503599627370496 - 1)
  split
  · exact h
  · intro e
    rcases Nat.mul_eq_zero.1 e with e | e <;> omega
theorem read_pos (x : Nat) (h : fin x) (h0 : rg x ≠ 0) : ∃ m j : Nat, m ≠ 0 ∧ D.read x = .number (sg x) m ((j : Int) - 1074) ∧ m * 2 ^ j = mag (rg x) := by
  obtain ⟨m, j, h1, h2⟩ := read_fin x h
  refine ⟨m, j, fun e => ?_, h1, h2⟩
  rw [e, Nat.zero_mul] at h2
  exact mag_pos _ h0 h2.symm
theorem order_self (x : Nat) (h : rg x ≤ 9218868437227405312) : D.order x x = some .eq := by
  by_cases h1 : fin x
  · rw [order_fin x x h1 h1, cmp_int, if_neg (by omega), if_pos rfl]
  · have h2 : rg x = 9218868437227405312 := by have : ¬ rg x < 9218868437227405312 := h1; omega
    unfold Ieee.Format.order
    rw [read_inf x h2]
    show some (compare (sg x).toNat (sg x).toNat) = some .eq
    cases sg x <;> rfl
theorem ofB_some (x : Nat) (h : rg x ≤ 9218868437227405312) : ofB (some x) = (x : Int) := by
  unfold ofB
  dsimp only
  rw [if_pos (show FloatKind.f64.format.order x x = some .eq from order_self x h)]
theorem sqrt_neg (x : Nat) (hx : fin x) (h0 : rg x ≠ 0) (hs : sg x = true) : D.sqrt x = none := by
  obtain ⟨m, j, hm, h1, h2⟩ := read_pos x hx h0
  unfold Ieee.Format.sqrt
  rw [h1, hs]
  unfold Ieee.Datum.root
  dsimp only
  rw [if_neg hm, if_pos rfl]
  rfl
theorem f_add (x y : Nat) : soft_Add.f (x : Int) (y : Int) = some (ofB (D.add x y)) := rfl
theorem f_sub (x y : Nat) : soft_Sub.f (x : Int) (y : Int) = some (ofB (D.sub x y)) := rfl
theorem f_mul (x y : Nat) : soft_Mul.f (x : Int) (y : Int) = some (ofB (D.mul x y)) := rfl
theorem f_div (x y : Nat) : soft_Div.f (x : Int) (y : Int) = some (ofB (D.div x y)) := rfl
theorem f_sqrt (x : Nat) : soft_Sqrt.f (x : Int) = some (ofB (D.sqrt x)) := rfl
open Go.RowKit (wrap32)
theorem rg_word (s : Bool) (r : Nat) (h : r < 9223372036854775808) : rg (wordN s r) = r ∧ sg (wordN s r) = s ∧ wordN s r < 18446744073709551616 := by
  unfold wordN rg sg
  cases s
  · rw [if_neg (by simp)]
    refine ⟨by omega, ?_, by omega⟩
    rw [beq_eq_false_iff_ne]; omega
  · rw [if_pos rfl]
    refine ⟨by omega, ?_, by omega⟩
    rw [beq_iff_eq]; omega
theorem sum_comm (d e : Ieee.Datum) : d.sum e = e.sum d := by
  cases d with
  | nan => cases e <;> rfl
  | infinity s =>
    cases e with
    | nan => rfl
    | infinity t =>
      show (if s = t then some (Ieee.Datum.infinity s) else none) = (if t = s then some (Ieee.Datum.infinity t) else none)
      cases s <;> cases t <;> rfl
    | number => rfl
  | number s m i =>
    cases e with
    | nan => rfl
    | infinity t => rfl
    | number t n j =>
      unfold Ieee.Datum.sum
      dsimp only
      rw [Int.min_comm i j, Int.add_comm (Ieee.signed s m _), Bool.and_comm s t]
theorem prod_comm (d e : Ieee.Datum) : d.product e = e.product d := by
  cases d with
  | nan => cases e <;> rfl
  | infinity s =>
    cases e with
    | nan => rfl
    | infinity t =>
      show some (Ieee.Datum.infinity (s ^^ t)) = some (Ieee.Datum.infinity (t ^^ s))
      rw [Bool.xor_comm]
    | number => rfl
  | number s m i =>
    cases e with
    | nan => rfl
    | infinity t => rfl
    | number t n j =>
      unfold Ieee.Datum.product
      dsimp only
      rw [Bool.xor_comm s t, Nat.mul_comm m n, Int.add_comm i j]
theorem add_comm' (x y : Nat) : D.add x y = D.add y x := by unfold Ieee.Format.add; rw [sum_comm]
theorem mul_comm' (x y : Nat) : D.mul x y = D.mul y x := by unfold Ieee.Format.mul; rw [prod_comm]
theorem nan_add (x y : Nat) (h : 9218868437227405312 < rg x) : D.add x y = none := by unfold Ieee.Format.add; rw [read_nan x h]; rfl
theorem nan_mul (x y : Nat) (h : 9218868437227405312 < rg x) : D.mul x y = none := by unfold Ieee.Format.mul; rw [read_nan x h]; rfl
theorem nan_div (x y : Nat) (h : 9218868437227405312 < rg x) : D.div x y = none := by unfold Ieee.Format.div; rw [read_nan x h]; rfl
theorem nan_sqrt (x : Nat) (h : 9218868437227405312 < rg x) : D.sqrt x = none := by unfold Ieee.Format.sqrt; rw [read_nan x h]; rfl
theorem nan_ord (x y : Nat) (h : 9218868437227405312 < rg x) : D.order x y = none := by unfold Ieee.Format.order; rw [read_nan x h]; rfl
theorem nan_ord2 (x y : Nat) (h : 9218868437227405312 < rg x) : D.order y x = none := by unfold Ieee.Format.order; rw [read_nan x h]; cases D.read y <;> rfl
theorem mag_step (r : Nat) : mag r < mag (r + 1) := by
  unfold mag
  by_cases h1 : r + 1 < 4503599627370496
  · rw [if_pos h1, if_pos (by omega)]; omega
  · rw [if_neg h1]
    by_cases h2 : r < 4503599627370496
    · have hr : r = 4503599627370495 := by omega
      subst hr
      rw [if_pos h2]
      decide
    · rw [if_neg h2]
      by_cases h3 : r % 4503599627370496 = 4503599627370495
      · have q1 : (r + 1) / 4503599627370496 - 1 = (r / 4503599627370496 - 1) + 1 := by omega
        have q2 : (r + 1) % 4503599627370496 = 0 := by omega
        rw [q1, q2, h3, Nat.pow_succ]
        have hp := Nat.two_pow_pos (r / 4503599627370496 - 1)
        generalize 2 ^ (r / 4503599627370496 - 1) = P at *
        omega
      · have q1 : (r + 1) / 4503599627370496 = r / 4503599627370496 := by omega
        have q2 : (r + 1) % 4503599627370496 = r % 4503599627370496 + 1 := by omega
        rw [q1, q2]
        exact (Nat.mul_lt_mul_right (Nat.two_pow_pos _)).2 (by omega)
theorem mag_lt : ∀ (d r : Nat), mag r < mag (r + d + 1)
  | 0, r => mag_step r
  | d + 1, r => Nat.lt_trans (mag_lt d r) (mag_step (r + d + 1))
theorem mag_mono {r s : Nat} (h : r < s) : mag r < mag s := by
  obtain ⟨d, rfl⟩ : ∃ d, s = r + d + 1 := ⟨s - r - 1, by omega⟩
  exact mag_lt d r

def key (x : Nat) : Int := if sg x then 9223372036854775807 - (rg x : Int) else 9223372036854775808 + (rg x : Int)
theorem mag_le {r s : Nat} (h : mag r < mag s) : r < s := by
  rcases Nat.lt_trichotomy r s with h1 | h1 | h1
  · exact h1
  · subst h1; omega
  · have := mag_mono h1; omega
theorem mag_inj {r s : Nat} (h : mag r = mag s) : r = s := by
  rcases Nat.lt_trichotomy r s with h1 | h1 | h1
  · have := mag_mono h1; omega
  · exact h1
  · have := mag_mono h1; omega
theorem mag0 : mag 0 = 0 := rfl
theorem ord_key (x y : Nat) (hx : rg x ≤ 9218868437227405312) (hy : rg y ≤ 9218868437227405312) : ∃ o, D.order x y = some o ∧ (o = .lt → key x < key y) ∧ (o = .gt → key y < key x) ∧ (o = .eq → key x = key y ∨ rg x = 0 ∧ rg y = 0) := by
  by_cases fx : fin x
  · by_cases fy : fin y
    · refine ⟨_, order_fin x y fx fy, ?_⟩
      have fx : rg x < 9218868437227405312 := fx
      have fy : rg y < 9218868437227405312 := fy
      rw [cmp_int]
      unfold val key
      cases sg x <;> cases sg y
      · simp only [Bool.false_eq_true, ↓reduceIte]
        by_cases h1 : (mag (rg x) : Int) < (mag (rg y) : Int)
        · have := mag_le (r := rg x) (s := rg y) (by omega)
          rw [if_pos h1]; exact ⟨(fun _ => by omega), (fun h => by cases h), (fun h => by cases h)⟩
        · rw [if_neg h1]
          by_cases h2 : (mag (rg x) : Int) = (mag (rg y) : Int)
          · have := mag_inj (r := rg x) (s := rg y) (by omega)
            rw [if_pos h2]; exact ⟨(fun h => by cases h), (fun h => by cases h), fun _ => Or.inl (by omega)⟩
          · have := mag_le (r := rg y) (s := rg x) (by omega)
            rw [if_neg h2]; exact ⟨(fun h => by cases h), (fun _ => by omega), (fun h => by cases h)⟩
      · simp only [Bool.false_eq_true, ↓reduceIte]
        rw [if_neg (by omega)]
        by_cases h2 : (mag (rg x) : Int) = -(mag (rg y) : Int)
        · have e1 := mag_inj (r := rg x) (s := 0) (by rw [mag0]; omega)
          have e2 := mag_inj (r := rg y) (s := 0) (by rw [mag0]; omega)
          rw [if_pos h2]; exact ⟨(fun h => by cases h), (fun h => by cases h), fun _ => Or.inr ⟨e1, e2⟩⟩
        · rw [if_neg h2]; exact ⟨(fun h => by cases h), (fun _ => by omega), (fun h => by cases h)⟩
      · simp only [Bool.false_eq_true, ↓reduceIte]
        by_cases h1 : -(mag (rg x) : Int) < (mag (rg y) : Int)
        · rw [if_pos h1]; exact ⟨(fun _ => by omega), (fun h => by cases h), (fun h => by cases h)⟩
        · rw [if_neg h1]
          have e1 := mag_inj (r := rg x) (s := 0) (by rw [mag0]; omega)
          have e2 := mag_inj (r := rg y) (s := 0) (by rw [mag0]; omega)
          rw [if_pos (by omega)]; exact ⟨(fun h => by cases h), (fun h => by cases h), fun _ => Or.inr ⟨e1, e2⟩⟩
      · simp only [↓reduceIte]
        by_cases h1 : -(mag (rg x) : Int) < -(mag (rg y) : Int)
        · have := mag_le (r := rg y) (s := rg x) (by omega)
          rw [if_pos h1]; exact ⟨(fun _ => by omega), (fun h => by cases h), (fun h => by cases h)⟩
        · rw [if_neg h1]
          by_cases h2 : -(mag (rg x) : Int) = -(mag (rg y) : Int)
          · have := mag_inj (r := rg x) (s := rg y) (by omega)
            rw [if_pos h2]; exact ⟨(fun h => by cases h), (fun h => by cases h), fun _ => Or.inl (by omega)⟩
          · have := mag_le (r := rg x) (s := rg y) (by omega)
            rw [if_neg h2]; exact ⟨(fun h => by cases h), (fun _ => by omega), (fun h => by cases h)⟩
    · have iy : rg y = 9218868437227405312 := by have : ¬ rg y < 9218868437227405312 := fy; omega
      have fx' : rg x < 9218868437227405312 := fx
      obtain ⟨m, j, h1, h2⟩ := read_fin x fx
      refine ⟨if sg y then .gt else .lt, ?_, ?_⟩
      · unfold Ieee.Format.order; rw [h1, read_inf y iy]; rfl
      · unfold key
        cases sg y <;> cases sg x <;> simp <;> omega
  · have ix : rg x = 9218868437227405312 := by have : ¬ rg x < 9218868437227405312 := fx; omega
    by_cases fy : fin y
    · have fy' : rg y < 9218868437227405312 := fy
      obtain ⟨m, j, h1, h2⟩ := read_fin y fy
      refine ⟨if sg x then .lt else .gt, ?_, ?_⟩
      · unfold Ieee.Format.order; rw [h1, read_inf x ix]; rfl
      · unfold key
        cases sg y <;> cases sg x <;> simp <;> omega
    · have iy : rg y = 9218868437227405312 := by have : ¬ rg y < 9218868437227405312 := fy; omega
      refine ⟨compare (sg y).toNat (sg x).toNat, ?_, ?_⟩
      · unfold Ieee.Format.order; rw [read_inf x ix, read_inf y iy]; rfl
      · unfold key
        rw [ix, iy]
        cases sg y <;> cases sg x <;> decide

def cmpV (o : Option Ordering) : Int := match o with | some .lt => -1 | some .gt => 1 | some .eq => 0 | none => 2
theorem f_cmp0 (x y : Nat) : soft_Cmp.f (x : Int) (y : Int) = some (cmpV (D.order x y)) := by
  show some _ = some _
  unfold cmpV
  rfl
theorem f_cmp (x y : Nat) (o : Option Ordering) (h : D.order x y = o) : soft_Cmp.f (x : Int) (y : Int) = some (cmpV o) := by rw [f_cmp0, h]
theorem val_zero (x : Nat) (h : rg x = 0) : val x = 0 := by
  unfold val; rw [h, mag0]
  cases sg x <;> rfl

theorem tmod_pos {a m : Int} (h : 0 ≤ a) : Int.tmod a m = a % m := Int.tmod_eq_emod_of_nonneg h
theorem tdiv_pos {a m : Int} (h : 0 ≤ a) : Int.tdiv a m = a / m := Int.tdiv_eq_ediv_of_nonneg h
theorem rclass_eq (x : Nat) (h : x < 18446744073709551616) : halterref02_Class.f (x : Int) = some (if rg x = 0 then 0 else if rg x < 4503599627370496 then 1 else if rg x < 9218868437227405312 then 2 else if rg x = 9218868437227405312 then 3 else 4) := by
  have e1 : Int.tmod (IntKind.wrap .u64 (Int.tdiv (x : Int) 4503599627370496)) 2048 = ((x / 4503599627370496 % 2048 : Nat) : Int) := by
    rw [tdiv_pos (by omega), wu64_id (by omega), tmod_pos (by omega)]; omega
  have e2 : Int.tmod (x : Int) 4503599627370496 = ((x % 4503599627370496 : Nat) : Int) := by rw [tmod_pos (by omega)]; omega
  unfold halterref02_Class.f rg
  rw [e1, e2]
  by_cases h1 : ((x / 4503599627370496 % 2048 : Nat) : Int) = 2047
  · rw [if_pos h1, if_neg (show ¬ x % 9223372036854775808 = 0 by omega), if_neg (show ¬ x % 9223372036854775808 < 4503599627370496 by omega), if_neg (show ¬ x % 9223372036854775808 < 9218868437227405312 by omega)]
    by_cases h3 : ((x % 4503599627370496 : Nat) : Int) = 0
    · rw [if_pos h3, if_pos (show x % 9223372036854775808 = 9218868437227405312 by omega)]
    · rw [if_neg h3, if_neg (show ¬ x % 9223372036854775808 = 9218868437227405312 by omega)]
  · rw [if_neg h1]
    by_cases h2 : ((x / 4503599627370496 % 2048 : Nat) : Int) = 0
    · rw [if_pos h2]
      by_cases h3 : ((x % 4503599627370496 : Nat) : Int) = 0
      · rw [if_pos h3, if_pos (show x % 9223372036854775808 = 0 by omega)]
      · rw [if_neg h3, if_neg (show ¬ x % 9223372036854775808 = 0 by omega), if_pos (show x % 9223372036854775808 < 4503599627370496 by omega)]
    · rw [if_neg h2, if_neg (show ¬ x % 9223372036854775808 = 0 by omega), if_neg (show ¬ x % 9223372036854775808 < 4503599627370496 by omega), if_pos (show x % 9223372036854775808 < 9218868437227405312 by omega)]
theorem rkey_eq (x : Nat) (h : x < 18446744073709551616) : halterref02_key.f (x : Int) = some (key x) := by
  unfold halterref02_key.f halterref02_Neg.f key sg rg
  rw [bind_go]
  by_cases h1 : (x : Int) ≥ 9223372036854775808
  · rw [if_pos (decide_eq_true h1), wu64_id (by omega), if_pos (by rw [beq_iff_eq]; omega)]
    congr 1; omega
  · rw [if_neg (by rw [decide_eq_true_eq]; exact h1), wu64_id (by omega), if_neg (by rw [beq_iff_eq]; omega)]
    congr 1; omega
theorem rorder_eq (x y : Nat) (hx : x < 18446744073709551616) (hy : y < 18446744073709551616) : halterref02_Order.f (x : Int) (y : Int) = some (if key x < key y then -1 else if key x > key y then 1 else 0) := by
  unfold halterref02_Order.f
  rw [rkey_eq x hx, bind_go, rkey_eq y hy, bind_go]
  by_cases h1 : key x < key y
  · rw [if_pos h1, if_pos h1]
  · rw [if_neg h1, if_neg h1, bind_go, bind_go]
    by_cases h2 : key x > key y
    · rw [if_pos h2, if_pos h2]
    · rw [if_neg h2, if_neg h2]
theorem rclass4 (x : Nat) (h : x < 18446744073709551616) : ∃ c : Int, halterref02_Class.f (x : Int) = some c ∧ (c = 4 ↔ 9218868437227405312 < rg x) ∧ (c = 0 ↔ rg x = 0) ∧ (c = 3 ↔ rg x = 9218868437227405312) := by
  refine ⟨_, rclass_eq x h, ?_⟩
  by_cases h0 : rg x = 0
  · rw [if_pos h0]; omega
  · rw [if_neg h0]
    by_cases h1 : rg x < 4503599627370496
    · rw [if_pos h1]; omega
    · rw [if_neg h1]
      by_cases h2 : rg x < 9218868437227405312
      · rw [if_pos h2]; omega
      · rw [if_neg h2]
        by_cases h3 : rg x = 9218868437227405312
        · rw [if_pos h3]; omega
        · rw [if_neg h3]; omega
theorem rnone_eq (x y : Nat) (hx : x < 18446744073709551616) (hy : y < 18446744073709551616) : halterref02_none.f (x : Int) (y : Int) = some (decide (9218868437227405312 < rg x) || decide (9218868437227405312 < rg y)) := by
  obtain ⟨c, e, h4, _⟩ := rclass4 x hx
  obtain ⟨d, f, g4, _⟩ := rclass4 y hy
  unfold halterref02_none.f
  rw [e, bind_go]
  by_cases h : c = 4
  · rw [if_pos h, decide_eq_true (h4.1 h), Bool.true_or]
  · rw [if_neg h, f, bind_go, decide_eq_false (fun k => h (h4.2 k)), Bool.false_or]
    congr 1
    rw [Bool.eq_iff_iff, beq_iff_eq, decide_eq_true_eq, g4]
theorem Cmp_both (x y : Nat) (hx : x < 18446744073709551616) (hy : y < 18446744073709551616) : ∃ v : Int, soft_Cmp.f (x : Int) (y : Int) = some v ∧ halterref02_Cmp.f (x : Int) (y : Int) = some v := by
  obtain ⟨c, e, h4, hc0, _⟩ := rclass4 x hx
  obtain ⟨d, f, g4, gc0, _⟩ := rclass4 y hy
  unfold halterref02_Cmp.f
  rw [rnone_eq x y hx hy, bind_go]
  by_cases nx : 9218868437227405312 < rg x
  · rw [f_cmp x y none (nan_ord x y nx), decide_eq_true nx, Bool.true_or, if_pos rfl]
    exact ⟨2, rfl, rfl⟩
  · by_cases ny : 9218868437227405312 < rg y
    · rw [f_cmp x y none (nan_ord2 y x ny), decide_eq_true ny, Bool.or_true, if_pos rfl]
      exact ⟨2, rfl, rfl⟩
    · rw [decide_eq_false nx, decide_eq_false ny, if_neg (by simp), e, bind_go, f, bind_go, rorder_eq x y hx hy, bind_go]
      obtain ⟨o, h1, h2, h3, h5⟩ := ord_key x y (by omega) (by omega)
      rw [f_cmp x y _ h1]
      refine ⟨_, rfl, ?_⟩
      by_cases z : rg x = 0 ∧ rg y = 0
      · rw [if_pos (hc0.2 z.1), if_pos (gc0.2 z.2)]
        have ho := order_fin x y (by show rg x < _; omega) (by show rg y < _; omega)
        rw [val_zero x z.1, val_zero y z.2, h1] at ho
        rw [ho]; rfl
      · have hk : (if key x < key y then (-1 : Int) else if key x > key y then 1 else 0) = cmpV (some o) := by
          cases o with
          | lt => rw [if_pos (h2 rfl)]; rfl
          | gt => have := h3 rfl; rw [if_neg (by omega), if_pos (by omega)]; rfl
          | eq =>
            have := (h5 rfl).resolve_right z
            rw [if_neg (by omega), if_neg (by omega)]; rfl
        rw [hk]
        by_cases c0 : c = 0
        · rw [if_pos c0, if_neg (fun d0 => z ⟨hc0.1 c0, gc0.1 d0⟩)]
        · rw [if_neg c0]
theorem divmod_is {a b d c : Nat} (h : c + b * d = a) (hc : c < b) : a / b = d ∧ a % b = c := (Nat.div_mod_unique (by omega)).2 ⟨h, hc⟩
theorem log2_div (Q j : Nat) (h : Q / 2 ^ j ≠ 0) : Q.log2 = (Q / 2 ^ j).log2 + j := by
  have hp := Nat.two_pow_pos j
  have h0 : Q ≠ 0 := by intro e; subst e; exact h (Nat.zero_div _)
  have h1 := Nat.log2_self_le h
  have h2 : Q / 2 ^ j < 2 ^ ((Q / 2 ^ j).log2 + 1) := Nat.lt_log2_self
  have hd : 2 ^ j * (Q / 2 ^ j) + Q % 2 ^ j = Q := Nat.div_add_mod Q (2 ^ j)
  have hm := Nat.mod_lt Q hp
  rw [Nat.log2_eq_iff h0]
  constructor
  · rw [Nat.pow_add, Nat.mul_comm]
    exact Nat.le_trans (Nat.mul_le_mul_left _ h1) (by omega)
  · rw [show (Q / 2 ^ j).log2 + j + 1 = (Q / 2 ^ j).log2 + 1 + j by omega, Nat.pow_add, Nat.mul_comm]
    have h3 : 2 ^ j * (Q / 2 ^ j + 1) ≤ 2 ^ j * 2 ^ ((Q / 2 ^ j).log2 + 1) := Nat.mul_le_mul_left _ h2
    rw [Nat.mul_add, Nat.mul_one] at h3
    omega
theorem log2_four (Q : Nat) (b : Bool) (h : Q ≠ 0) : (4 * Q + b.toNat).log2 = Q.log2 + 2 := by
  have hb : b.toNat ≤ 1 := by cases b <;> decide
  have e : (4 * Q + b.toNat) / 2 ^ 2 = Q := by omega
  have := log2_div (4 * Q + b.toNat) 2 (by rw [e]; exact h)
  rw [this, e]
theorem rne_sticky (Q j e : Nat) (b : Bool) : rne (4 * Q + b.toNat) (j + (e + 1) + 2) = rne (4 * (Q / 2 ^ j) + (decide (Q % 2 ^ j ≠ 0) || b).toNat) (e + 1 + 2) := by
  have hp := Nat.two_pow_pos j
  have he := Nat.two_pow_pos e
  have hQ : 2 ^ j * (Q / 2 ^ j) + Q % 2 ^ j = Q := Nat.div_add_mod Q (2 ^ j)
  have hR := Nat.mod_lt Q hp
  have hE : 2 ^ (e + 1) = 2 * 2 ^ e := by rw [Nat.pow_succ]; omega
  have hA : 2 ^ (e + 1) * (Q / 2 ^ j / 2 ^ (e + 1)) + Q / 2 ^ j % 2 ^ (e + 1) = Q / 2 ^ j := Nat.div_add_mod _ _
  have hS := Nat.mod_lt (Q / 2 ^ j) (Nat.two_pow_pos (e + 1))
  have p1 : 2 ^ (j + (e + 1) + 2) = 4 * (2 ^ j * (2 * 2 ^ e)) := by rw [Nat.pow_add, Nat.pow_add, hE]; omega
  have p2 : 2 ^ (e + 1 + 2) = 4 * (2 * 2 ^ e) := by rw [Nat.pow_add, hE]; omega
  rw [hE] at hA hS
  generalize hs : (decide (Q % 2 ^ j ≠ 0) || b) = s
  have hb : b.toNat ≤ 1 := by cases b <;> decide
  have hs1 : s.toNat ≤ 1 := by cases s <;> decide
  have hz : s.toNat = 0 ↔ Q % 2 ^ j = 0 ∧ b.toNat = 0 := by
    rw [← hs]
    cases b
    · by_cases h : Q % 2 ^ j = 0
      · simp [h]
      · simp [h]
    · simp
  generalize hB : Q / 2 ^ j / (2 * 2 ^ e) = B at *
  generalize hSS : Q / 2 ^ j % (2 * 2 ^ e) = S at *
  generalize hRR : Q % 2 ^ j = R at *
  generalize hAA : Q / 2 ^ j = A at *
  generalize 2 ^ j = P at *
  generalize 2 ^ e = E at *
  have hPA : P * A = P * (2 * E) * B + P * S := by rw [← hA, Nat.mul_add, ← Nat.mul_assoc]
  have x1 : P * S + P ≤ P * (2 * E) := by
    have : P * (S + 1) ≤ P * (2 * E) := Nat.mul_le_mul_left _ hS
    rw [Nat.mul_add, Nat.mul_one] at this; exact this
  have l : (4 * Q + b.toNat) / (4 * (P * (2 * E))) = B ∧ (4 * Q + b.toNat) % (4 * (P * (2 * E))) = 4 * (P * S + R) + b.toNat := by
    refine divmod_is ?_ (by omega)
    rw [Nat.mul_assoc]; omega
  have r : (4 * A + s.toNat) / (4 * (2 * E)) = B ∧ (4 * A + s.toNat) % (4 * (2 * E)) = 4 * S + s.toNat := by
    refine divmod_is ?_ (by omega)
    rw [Nat.mul_assoc]; omega
  unfold rne
  rw [p1, p2, l.1, l.2, r.1, r.2]
  have x2 : P * (2 * E) = 2 * (P * E) := by rw [← Nat.mul_assoc, Nat.mul_comm P 2, Nat.mul_assoc]
  rw [x2] at x1 ⊢
  have tri : (E < S ∧ P * E + P ≤ P * S) ∨ (E = S ∧ P * E = P * S) ∨ (S < E ∧ P * S + P ≤ P * E) := by
    rcases Nat.lt_trichotomy E S with h | h | h
    · left
      refine ⟨h, ?_⟩
      have : P * (E + 1) ≤ P * S := Nat.mul_le_mul_left _ h
      rw [Nat.mul_add, Nat.mul_one] at this; exact this
    · right; left; exact ⟨h, by rw [h]⟩
    · right; right
      refine ⟨h, ?_⟩
      have : P * (S + 1) ≤ P * E := Nat.mul_le_mul_left _ h
      rw [Nat.mul_add, Nat.mul_one] at this; exact this
  clear hA hB hSS hRR hAA hPA l r p1 p2 hE hQ x2 hs
  have c1 : decide (4 * (2 * (P * E)) < 2 * (4 * (P * S + R) + b.toNat)) = decide (4 * (2 * E) < 2 * (4 * S + s.toNat)) := by
    rw [decide_eq_decide]; omega
  have c2 : decide (4 * (2 * (P * E)) = 2 * (4 * (P * S + R) + b.toNat)) = decide (4 * (2 * E) = 2 * (4 * S + s.toNat)) := by
    rw [decide_eq_decide]; omega
  rw [c1, c2]
theorem nearest_sticky (neg : Bool) (Q j : Nat) (b : Bool) (p : Int) (hQ : 9007199254740992 ≤ Q / 2 ^ j) : D.nearest neg (4 * Q + b.toNat) (p - 2) = D.nearest neg (4 * (Q / 2 ^ j) + (decide (Q % 2 ^ j ≠ 0) || b).toNat) (p + j - 2) := by
  have hA0 : Q / 2 ^ j ≠ 0 := by omega
  have hlA : 53 ≤ (Q / 2 ^ j).log2 := (Nat.le_log2 hA0).2 hQ
  have hl := log2_div Q j hA0
  have h0 : Q ≠ 0 := by intro e; rw [e, Nat.zero_div] at hA0; exact hA0 rfl
  rw [nearest_eq, nearest_eq, if_neg (by omega), if_neg (by omega), log2_four Q b h0, log2_four (Q / 2 ^ j) _ hA0, hl]
  generalize hg : (Q / 2 ^ j).log2 = g at *
  have e1 : p - 2 + ((g + j + 2 : Nat) : Int) - 52 = p + j - 2 + ((g + 2 : Nat) : Int) - 52 := by omega
  rw [e1]
  generalize hL : max (p + (j : Int) - 2 + ((g + 2 : Nat) : Int) - 52) (-1074) = L
  have hL1 : p + j + 1 ≤ L := by omega
  obtain ⟨e, he⟩ : ∃ e : Nat, L = p + j + 1 + e := ⟨(L - (p + j + 1)).toNat, by omega⟩
  rw [show (p - 2 - L).toNat = 0 by omega, show (p + j - 2 - L).toNat = 0 by omega, Nat.pow_zero, Nat.mul_one, Nat.mul_one, show (L - (p - 2)).toNat = j + (e + 1) + 2 by omega, show (L - (p + j - 2)).toNat = e + 1 + 2 by omega, rne_sticky]
theorem rne_half (M d : Nat) (b : Bool) : rne (4 * M + b.toNat) (d + 3) = M / 2 ^ (d + 1) + ((M / 2 ^ d % 2 == 1) && ((b || decide (M % 2 ^ d ≠ 0)) || (M / 2 ^ (d + 1) % 2 == 1))).toNat := by
  have h := rne_sticky M d 0 b
  rw [show d + (0 + 1) + 2 = d + 3 by omega] at h
  rw [h, Bool.or_comm]
  have e : M / 2 ^ (d + 1) = M / 2 ^ d / 2 := by rw [Nat.pow_succ, Nat.div_div_eq_div_mul]
  rw [e]
  generalize M / 2 ^ d = A
  generalize (b || decide (M % 2 ^ d ≠ 0)) = s
  unfold rne
  rw [show 2 ^ (0 + 1 + 2) = 8 from rfl]
  rcases Nat.mod_two_eq_zero_or_one A with ha | ha
  · cases s
    · rw [show (4 * A + false.toNat) / 8 = A / 2 by simp; omega, show (4 * A + false.toNat) % 8 = 0 by simp; omega, ha]; rfl
    · rw [show (4 * A + true.toNat) / 8 = A / 2 by simp; omega, show (4 * A + true.toNat) % 8 = 1 by simp; omega, ha]; rfl
  · cases s
    · rw [show (4 * A + false.toNat) / 8 = A / 2 by simp; omega, show (4 * A + false.toNat) % 8 = 4 by simp; omega, ha]; rfl
    · rw [show (4 * A + true.toNat) / 8 = A / 2 by simp; omega, show (4 * A + true.toNat) % 8 = 5 by simp; omega, ha]
      show A / 2 + _ = A / 2 + _
      simp
theorem rne_two (M : Nat) (b : Bool) : rne (4 * M + b.toNat) 2 = M := by
  unfold rne
  have hb : b.toNat ≤ 1 := by cases b <;> decide
  rw [show (2 : Nat) ^ 2 = 4 from rfl, show (4 * M + b.toNat) / 4 = M by omega, show (4 * M + b.toNat) % 4 = b.toNat by omega]
  cases b <;> simp
def down (M : Nat) (E : Int) : Nat := (max ((M.log2 : Int) - 52) (-1074 - E)).toNat
def hf (M d : Nat) : Bool := match d with | 0 => false | d + 1 => M / 2 ^ d % 2 == 1
def rs (M d : Nat) (b : Bool) : Bool := match d with | 0 => b | d + 1 => b || decide (M % 2 ^ d ≠ 0)
theorem rne_hr (M d : Nat) (b : Bool) : rne (4 * M + b.toNat) (d + 2) = M / 2 ^ d + (hf M d && (rs M d b || (M / 2 ^ d % 2 == 1))).toNat := by
  cases d with
  | zero => rw [Nat.zero_add, rne_two]; unfold hf; simp
  | succ d => rw [show d + 1 + 2 = d + 3 by omega, rne_half]; rfl
theorem nearest_down (neg : Bool) (M : Nat) (E : Int) (b : Bool) (h0 : M ≠ 0) (hs : 0 ≤ max ((M.log2 : Int) - 52) (-1074 - E)) : D.nearest neg (4 * M + b.toNat) (E - 2) = wordN neg (min ((E + down M E + 1074).toNat * 4503599627370496 + (M / 2 ^ down M E + (hf M (down M E) && (rs M (down M E) b || (M / 2 ^ down M E % 2 == 1))).toNat)) 9218868437227405312) := by
  rw [nearest_eq, if_neg (by omega), log2_four M b h0]
  have hd : (down M E : Int) = max ((M.log2 : Int) - 52) (-1074 - E) := by unfold down; omega
  have e : max (E - 2 + ((M.log2 + 2 : Nat) : Int) - 52) (-1074) = E + down M E := by omega
  rw [e, show (E - 2 - (E + down M E)).toNat = 0 by omega, show (E + (down M E : Int) - (E - 2)).toNat = down M E + 2 by omega, Nat.pow_zero, Nat.mul_one, rne_hr]
theorem nearest_up (neg : Bool) (M k : Nat) (E : Int) (h0 : M ≠ 0) (hk : (M.log2 : Int) - 52 ≤ -(k : Int)) (hk2 : -1074 - E ≤ -(k : Int)) (hs : (k : Int) = 52 - (M.log2 : Int) ∨ (k : Int) = 1074 + E) : D.nearest neg (4 * M) (E - 2) = wordN neg (min ((E - k + 1074).toNat * 4503599627370496 + M * 2 ^ k) 9218868437227405312) := by
  have h := nearest_scale neg M 2 E
  rw [show M * 2 ^ 2 = 4 * M by omega, show E - ((2 : Nat) : Int) = E - 2 from rfl] at h
  rw [h, nearest_eq, if_neg h0]
  have e : max (E + (M.log2 : Int) - 52) (-1074) = E - k := by omega
  rw [e, show (E - (k : Int) - E).toNat = 0 by omega, show (E - (E - (k : Int))).toNat = k by omega, rne_zero]
def hf2 (h : Bool) (M d : Nat) : Bool := match d with | 0 => h | d + 1 => M / 2 ^ d % 2 == 1
def rs2 (h r : Bool) (M d : Nat) : Bool := match d with | 0 => r | d + 1 => (r || h) || decide (M % 2 ^ d ≠ 0)
theorem hf2_step (h : Bool) (M d : Nat) : hf2 (M % 2 == 1) (M / 2) d = hf2 h M (d + 1) := by
  cases d with
  | zero => show (M % 2 == 1) = (M / 2 ^ 0 % 2 == 1); rw [Nat.pow_zero, Nat.div_one]
  | succ e => show (M / 2 / 2 ^ e % 2 == 1) = (M / 2 ^ (e + 1) % 2 == 1); rw [Nat.div_div_eq_div_mul, Nat.pow_succ, Nat.mul_comm]
theorem rs2_step (h r : Bool) (M d : Nat) : rs2 (M % 2 == 1) (r || h) (M / 2) d = rs2 h r M (d + 1) := by
  cases d with
  | zero =>
    show (r || h) = ((r || h) || decide (M % 2 ^ 0 ≠ 0))
    rw [Nat.pow_zero, Nat.mod_one]; simp
  | succ e =>
    show (((r || h) || (M % 2 == 1)) || decide (M / 2 % 2 ^ e ≠ 0)) = ((r || h) || decide (M % 2 ^ (e + 1) ≠ 0))
    rw [Bool.or_assoc]
    congr 1
    rw [Nat.pow_succ, Nat.mul_comm (2 ^ e) 2, Nat.mod_mul]
    generalize M / 2 % 2 ^ e = X
    rw [Bool.eq_iff_iff, Bool.or_eq_true, beq_iff_eq, decide_eq_true_eq, decide_eq_true_eq]
    omega
theorem log2_half (M : Nat) : (M / 2).log2 = M.log2 - 1 := by
  by_cases h : M < 2
  · rw [show M / 2 = 0 by omega]
    have : M.log2 = 0 := by
      rcases Nat.lt_or_ge M 1 with h1 | h1
      · rw [show M = 0 by omega]; rfl
      · rw [show M = 1 by omega]; rfl
    rw [this]; rfl
  · have := log2_div M 1 (by rw [Nat.pow_one]; omega)
    rw [Nat.pow_one] at this; omega
theorem log2_ge (M k : Nat) (h0 : M ≠ 0) : k ≤ M.log2 ↔ 2 ^ k ≤ M := Nat.le_log2 h0
theorem R_half (M : Nat) (hM : M < 18446744073709551616) : IntKind.wrap .u64 (Int.tdiv (M : Int) 2) = ((M / 2 : Nat) : Int) := by
  rw [Int.tdiv_eq_ediv_of_nonneg (by omega), wu64_id (by omega)]; omega
theorem R_odd (M : Nat) : (Int.tmod (M : Int) 2 == 1) = (M % 2 == 1) := by
  rw [Int.tmod_eq_emod_of_nonneg (by omega), Bool.eq_iff_iff, beq_iff_eq, beq_iff_eq]; omega
theorem R_l0 (neg more : Bool) : ∀ (d n M : Nat) (E : Int) (h r : Bool), d < n → M < 18446744073709551616 → -1000000 < E → E + d < 1000000 → down M E = d → (d = 0 ∨ M ≠ 0 ∨ h = true ∨ r = true) → halterref02_Round.l0 neg more n (M : Int) E h r = some (((M / 2 ^ d : Nat) : Int), E + d, hf2 h M d, rs2 h r M d) := by
  intro d
  induction d with
  | zero =>
    intro n M E h r hn hM h1 h2 hd hz
    obtain ⟨q, rfl⟩ := fuel_step hn
    unfold down at hd
    have hm : M < 9007199254740992 := by
      rcases Nat.lt_or_ge M 9007199254740992 with g | g
      · exact g
      · have := (log2_ge M 53 (by omega)).2 g
        omega
    rw [halterref02_Round.l0, if_neg (by omega), if_neg (by omega), Nat.pow_zero, Nat.div_one, show E + ((0 : Nat) : Int) = E by omega]
    rfl
  | succ d ih =>
    intro n M E h r hn hM h1 h2 hd hz
    obtain ⟨q, rfl⟩ := fuel_step hn
    unfold down at hd
    have e2 : IntKind.wrap .i64 (E + 1) = E + 1 := wi64 (by omega) (by omega)
    have hl := log2_half M
    have hd2 : down (M / 2) (E + 1) = d := by unfold down; rw [hl]; omega
    have hz2 : d = 0 ∨ M / 2 ≠ 0 ∨ (M % 2 == 1) = true ∨ (r || h) = true := by
      rcases hz with hz | hz | hz | hz
      · omega
      · by_cases g : M / 2 = 0
        · right; right; left; rw [beq_iff_eq]; omega
        · right; left; exact g
      · right; right; right; rw [hz, Bool.or_true]
      · right; right; right; rw [hz, Bool.true_or]
    have key := ih q (M / 2) (E + 1) (M % 2 == 1) (r || h) (by omega) (by omega) (by omega) (by omega) hd2 hz2
    have e4 : M / 2 / 2 ^ d = M / 2 ^ (d + 1) := by rw [Nat.div_div_eq_div_mul, Nat.pow_succ, Nat.mul_comm]
    have e5 : E + 1 + (d : Int) = E + ((d + 1 : Nat) : Int) := by omega
    rw [hf2_step h, rs2_step, e4, e5] at key
    rw [← key, halterref02_Round.l0, R_half M hM, R_odd M, e2]
    by_cases c1 : (M : Int) ≥ 9007199254740992
    · rw [if_pos c1]
      cases r
      · rw [if_neg (by simp)]; cases h <;> rfl
      · rw [if_pos rfl]; rfl
    · rw [if_neg c1]
      have c2 : E < -1074 := by
        have hm : M.log2 < 53 := by
          rcases Nat.eq_zero_or_pos M with g | g
          · rw [g]; decide
          · exact (Nat.log2_lt (by omega)).2 (by omega)
        omega
      rw [if_pos c2]
      by_cases c3 : (M : Int) > 0
      · rw [if_pos c3]
        cases r
        · rw [if_neg (by simp)]; cases h <;> rfl
        · rw [if_pos rfl]; rfl
      · rw [if_neg c3]
        cases h
        · rw [if_neg (by simp)]
          cases r
          · exfalso
            rcases hz with hz | hz | hz | hz
            · omega
            · omega
            · cases hz
            · cases hz
          · rw [if_pos rfl]; rfl
        · rw [if_pos rfl]
          cases r
          · rw [if_neg (by simp)]; rfl
          · rw [if_pos rfl]; rfl
theorem R_l1stop (t : Int × Int × Bool × Bool) (neg more : Bool) (n : Nat) (M : Nat) (E : Int) (hn : 0 < n) (hs : M = 0 ∨ 4503599627370496 ≤ M ∨ E ≤ -1074) : halterref02_Round.l1 t neg more n (M : Int) E = some ((M : Int), E) := by
  obtain ⟨q, rfl⟩ := fuel_step hn
  rw [halterref02_Round.l1]
  by_cases c1 : (M : Int) > 0
  · rw [if_pos c1]
    by_cases c2 : (M : Int) < 4503599627370496
    · rw [if_pos c2, if_neg (by omega)]
    · rw [if_neg c2]
  · rw [if_neg c1]
theorem R_l1 (t : Int × Int × Bool × Bool) (neg more : Bool) (t1 : t.2.2.1 = false) (t2 : t.2.2.2 = false) : ∀ (k n M : Nat) (E : Int), k < n → M ≠ 0 → M < 9007199254740992 → E < 1000000 → M.log2 + k ≤ 52 → -1074 + (k : Int) ≤ E → (M.log2 + k = 52 ∨ E = -1074 + k) → halterref02_Round.l1 t neg more n (M : Int) E = some (((M * 2 ^ k : Nat) : Int), E - k) := by
  intro k
  induction k with
  | zero =>
    intro n M E hn h0 hM hE hl hE2 hs
    rw [R_l1stop t neg more n M E hn (by
      rcases hs with hs | hs
      · right; left; exact (log2_ge M 52 h0).1 (by omega)
      · right; right; omega), Nat.pow_zero, Nat.mul_one, show E - ((0 : Nat) : Int) = E by omega]
  | succ k ih =>
    intro n M E hn h0 hM hE hl hE2 hs
    obtain ⟨q, rfl⟩ := fuel_step hn
    have hm : M < 4503599627370496 := by
      rcases Nat.lt_or_ge M 4503599627370496 with g | g
      · exact g
      · have := (log2_ge M 52 h0).2 g
        omega
    have e1 : IntKind.wrap .u64 ((2 : Int) * (M : Int)) = ((M * 2 : Nat) : Int) := by rw [wu64_id (by omega)]; omega
    have e2 : IntKind.wrap .i64 (E - 1) = E - 1 := wi64 (by omega) (by omega)
    have hl2 : (M * 2).log2 = M.log2 + 1 := log2_shift M 1 h0
    rw [halterref02_Round.l1, if_pos (by omega), if_pos (by omega), if_pos (by omega), if_pos (by rw [t1]; simp), if_pos (by rw [t2]; simp), e1, e2, ih q (M * 2) (E - 1) (by omega) (by omega) (by omega) (by omega) (by omega) (by omega) (by omega)]
    have e3 : M * 2 * 2 ^ k = M * 2 ^ (k + 1) := by rw [Nat.pow_succ, Nat.mul_assoc, Nat.mul_comm 2]
    have e4 : E - 1 - (k : Int) = E - ((k + 1 : Nat) : Int) := by omega
    rw [e3, e4]
theorem rsigned_eq (neg : Bool) (r : Nat) (h : r < 9223372036854775808) : halterref02_signed.f neg (r : Int) = some ((wordN neg r : Nat) : Int) := by
  unfold halterref02_signed.f wordN
  cases neg
  · rw [if_neg (by simp), if_neg (by simp)]
  · have e : (r : Int) + 9223372036854775808 = ((9223372036854775808 + r : Nat) : Int) := by omega
    rw [if_pos rfl, if_pos rfl, wu64_id (by omega), e]
theorem R_post (neg : Bool) (M : Nat) (E : Int) (hM : M ≤ 9007199254740992) (h1 : -1000000 < E) (h2 : E < 1000000) (h3 : M = 0 ∨ -1074 ≤ E) (h4 : M = 0 ∨ 4503599627370496 ≤ M ∨ E = -1074) :
    (if (M : Int) = (9007199254740992 : Int) then
        if (IntKind.wrap .u64 (Int.tdiv (M : Int) (2 : Int))) = (0 : Int) then
          (halterref02_signed.f neg (0 : Int)).bind fun t72 =>
          some t72
        else
          if (IntKind.wrap .u64 (Int.tdiv (M : Int) (2 : Int))) < (4503599627370496 : Int) then
            (halterref02_signed.f neg (IntKind.wrap .u64 (Int.tdiv (M : Int) (2 : Int)))).bind fun t74 =>
            some t74
          else
            if (IntKind.wrap .i64 ((IntKind.wrap .i64 (E + (1 : Int))) + (1075 : Int))) ≥ (2047 : Int) then
              (halterref02_signed.f neg (9218868437227405312 : Int)).bind fun t76 =>
              some t76
            else
              (halterref02_signed.f neg (IntKind.wrap .u64 ((IntKind.wrap .u64 ((IntKind.wrap .u64 ((IntKind.wrap .u64 ((IntKind.wrap .i64 ((IntKind.wrap .i64 (E + (1 : Int))) + (1075 : Int))))) * (4503599627370496 : Int))) + (IntKind.wrap .u64 (Int.tdiv (M : Int) (2 : Int))))) - (4503599627370496 : Int)))).bind fun t77 =>
              some t77
      else
        if (M : Int) = (0 : Int) then
          (halterref02_signed.f neg (0 : Int)).bind fun t79 =>
          some t79
        else
          if (M : Int) < (4503599627370496 : Int) then
            (halterref02_signed.f neg (M : Int)).bind fun t81 =>
            some t81
          else
            if (IntKind.wrap .i64 (E + (1075 : Int))) ≥ (2047 : Int) then
              (halterref02_signed.f neg (9218868437227405312 : Int)).bind fun t83 =>
              some t83
            else
              (halterref02_signed.f neg (IntKind.wrap .u64 ((IntKind.wrap .u64 ((IntKind.wrap .u64 ((IntKind.wrap .u64 ((IntKind.wrap .i64 (E + (1075 : Int))))) * (4503599627370496 : Int))) + (M : Int))) - (4503599627370496 : Int)))).bind fun t84 =>
              some t84) = some ((wordN neg (if M = 0 then 0 else min ((E + 1074).toNat * 4503599627370496 + M) 9218868437227405312) : Nat) : Int) := by
  have w1 : IntKind.wrap .i64 (E + 1) = E + 1 := wi64 (by omega) (by omega)
  have w2 : IntKind.wrap .i64 (E + 1 + 1075) = E + 1076 := by rw [wi64 (by omega) (by omega)]; omega
  have w3 : IntKind.wrap .i64 (E + 1075) = E + 1075 := wi64 (by omega) (by omega)
  have hinf : halterref02_signed.f neg (9218868437227405312 : Int) = some ((wordN neg 9218868437227405312 : Nat) : Int) := rsigned_eq neg 9218868437227405312 (by omega)
  have hzer : halterref02_signed.f neg (0 : Int) = some ((wordN neg 0 : Nat) : Int) := rsigned_eq neg 0 (by omega)
  rw [R_half M (by omega), w1, w2, w3]
  by_cases c1 : (M : Int) = 9007199254740992
  · have hM2 : M = 9007199254740992 := by omega
    rw [if_pos c1, if_neg (by omega), if_neg (by omega), if_neg (show ¬ M = 0 by omega), hM2]
    rcases h3 with h3 | h3
    · omega
    by_cases c2 : E + 1076 ≥ 2047
    · rw [if_pos c2, hinf, bind_go, show min ((E + 1074).toNat * 4503599627370496 + 9007199254740992) 9218868437227405312 = 9218868437227405312 by omega]
    · have e : IntKind.wrap .u64 (IntKind.wrap .u64 (IntKind.wrap .u64 (IntKind.wrap .u64 (E + 1076) * 4503599627370496) + ((9007199254740992 / 2 : Nat) : Int)) - 4503599627370496) = ((((E + 1074).toNat * 4503599627370496 + 9007199254740992 : Nat)) : Int) := by
        rw [wu64_id (x := E + 1076) (by omega), wu64_id (x := (E + 1076) * 4503599627370496) (by omega), wu64_id (x := (E + 1076) * 4503599627370496 + _) (by omega), wu64_id (by omega)]; omega
      rw [if_neg c2, e, rsigned_eq neg _ (by omega), bind_go, show min ((E + 1074).toNat * 4503599627370496 + 9007199254740992) 9218868437227405312 = (E + 1074).toNat * 4503599627370496 + 9007199254740992 by omega]
  · rw [if_neg c1]
    by_cases c0 : (M : Int) = 0
    · rw [if_pos c0, if_pos (show M = 0 by omega), hzer, bind_go]
    · rw [if_neg c0, if_neg (show ¬ M = 0 by omega)]
      have h3 : -1074 ≤ E := by omega
      by_cases c3 : (M : Int) < 4503599627370496
      · have hE : E = -1074 := by omega
        rw [if_pos c3, rsigned_eq neg M (by omega), bind_go, hE, show min ((-1074 + 1074 : Int).toNat * 4503599627370496 + M) 9218868437227405312 = M by simp; omega]
      · rw [if_neg c3]
        by_cases c2 : E + 1075 ≥ 2047
        · rw [if_pos c2, hinf, bind_go, show min ((E + 1074).toNat * 4503599627370496 + M) 9218868437227405312 = 9218868437227405312 by omega]
        · have e : IntKind.wrap .u64 (IntKind.wrap .u64 (IntKind.wrap .u64 (IntKind.wrap .u64 (E + 1075) * 4503599627370496) + (M : Int)) - 4503599627370496) = ((((E + 1074).toNat * 4503599627370496 + M : Nat)) : Int) := by
            rw [wu64_id (x := E + 1075) (by omega), wu64_id (x := (E + 1075) * 4503599627370496) (by omega), wu64_id (x := (E + 1075) * 4503599627370496 + _) (by omega), wu64_id (by omega)]; omega
          rw [if_neg c2, e, rsigned_eq neg _ (by omega), bind_go, show min ((E + 1074).toNat * 4503599627370496 + M) 9218868437227405312 = (E + 1074).toNat * 4503599627370496 + M by omega]
theorem R_div_small (M : Nat) (E : Int) (h0 : M ≠ 0) (hs : 0 ≤ max ((M.log2 : Int) - 52) (-1074 - E)) : M / 2 ^ down M E < 9007199254740992 ∧ -1074 ≤ E + (down M E : Int) ∧ (4503599627370496 ≤ M / 2 ^ down M E ∨ E + (down M E : Int) = -1074) := by
  have hd : (down M E : Int) = max ((M.log2 : Int) - 52) (-1074 - E) := by unfold down; omega
  have h1 := Nat.log2_self_le h0
  have h2 : M < 2 ^ (M.log2 + 1) := Nat.lt_log2_self
  generalize down M E = d at *
  refine ⟨?_, by omega, ?_⟩
  · rw [Nat.div_lt_iff_lt_mul (Nat.two_pow_pos d)]
    have : 2 ^ (M.log2 + 1) ≤ 2 ^ 53 * 2 ^ d := by rw [← Nat.pow_add]; exact Nat.pow_le_pow_right (by omega) (by omega)
    omega
  · by_cases h : (d : Int) = -1074 - E
    · right; omega
    · left
      rw [Nat.le_div_iff_mul_le (Nat.two_pow_pos d)]
      have : 2 ^ (52 + d) ≤ 2 ^ M.log2 := Nat.pow_le_pow_right (by omega) (by omega)
      rw [Nat.pow_add] at this
      omega
theorem R_min (E : Int) (X : Nat) (h : -1074 ≤ E) (hX : 4503599627370496 ≤ X ∨ E = -1074) : (if X = 0 then 0 else min ((E + 1074).toNat * 4503599627370496 + X) 9218868437227405312) = min ((E + 1074).toNat * 4503599627370496 + X) 9218868437227405312 := by
  by_cases h0 : X = 0
  · rw [if_pos h0]; omega
  · rw [if_neg h0]
theorem R_inc (M : Nat) (h : M < 18446744073709551615) : IntKind.wrap .u64 ((M : Int) + 1) = ((M + 1 : Nat) : Int) := by rw [wu64_id (by omega)]; omega
theorem Round_eq (neg : Bool) (M : Nat) (E : Int) (more : Bool) (hM : M < 18446744073709551616) (h1 : -100000 < E) (h2 : E < 100000) (hm : more = true → 4503599627370496 ≤ M) : halterref02_Round.f neg (M : Int) E more = some ((D.nearest neg (4 * M + more.toNat) (E - 2) : Nat) : Int) := by
  by_cases h0 : M = 0
  · subst h0
    cases more with
    | true => exact absurd (hm rfl) (by omega)
    | false =>
      obtain ⟨q, hq⟩ := fuel_step (fuel_gt (n := 0) (by omega))
      have e0 : halterref02_Round.l0 neg false FUEL ((0 : Nat) : Int) E false false = some (((0 : Nat) : Int), E, false, false) := by
        rw [hq, halterref02_Round.l0, if_neg (by omega)]
        by_cases c : E < -1074
        · rw [if_pos c, if_neg (by omega), if_neg (by simp), if_neg (by simp)]
        · rw [if_neg c]
      unfold halterref02_Round.f
      rw [e0, bind_go]
      dsimp only
      rw [R_l1stop _ neg false FUEL 0 E (fuel_gt (by omega)) (Or.inl rfl), bind_go, if_neg (by simp)]
      dsimp only
      rw [R_post neg 0 E (by omega) (by omega) (by omega) (Or.inl rfl) (Or.inl rfl), nearest_eq, if_pos rfl, if_pos (by simp)]
  · have hl : M.log2 < 64 := (Nat.log2_lt h0).2 (by omega)
    have hdn : down M E ≤ 200000 := by unfold down; omega
    have e0 := R_l0 neg more (down M E) FUEL M E false more (fuel_gt (by omega)) hM (by omega) (by omega) rfl (Or.inr (Or.inl h0))
    unfold halterref02_Round.f
    rw [e0, bind_go]
    dsimp only
    by_cases hs : 0 ≤ max ((M.log2 : Int) - 52) (-1074 - E)
    · obtain ⟨b1, b2, b3⟩ := R_div_small M E h0 hs
      have f1 : hf2 false M (down M E) = hf M (down M E) := by unfold hf2 hf; rfl
      have f2 : rs2 false more M (down M E) = rs M (down M E) more := by
        unfold rs2 rs
        cases down M E with
        | zero => rfl
        | succ d => dsimp only; rw [Bool.or_false]
      have hE3 : E + (down M E : Int) < 1000000 := by omega
      rw [R_l1stop _ neg more FUEL (M / 2 ^ down M E) (E + down M E) (fuel_gt (by omega)) (by omega), bind_go, f1, f2, nearest_down neg M E more h0 hs]
      dsimp only
      generalize down M E = d at *
      generalize M / 2 ^ d = Q at *
      generalize hf M d = h at *
      generalize rs M d more = r at *
      have inc : (IntKind.wrap .u64 ((Q : Int) + 1)) = ((Q + 1 : Nat) : Int) := R_inc Q (by omega)
      rw [inc]
      have P0 := R_post neg Q (E + (d : Int)) (by omega) (by omega) hE3 (by omega) (by omega)
      have P1 := R_post neg (Q + 1) (E + (d : Int)) (by omega) (by omega) hE3 (by omega) (by omega)
      rw [R_min _ _ b2 (by omega)] at P0 P1
      cases h with
      | false => rw [if_neg (by simp), P0]; rfl
      | true =>
        rw [if_pos rfl]
        cases r with
        | true => rw [if_pos rfl, P1]; rfl
        | false =>
          rw [if_neg (by simp)]
          have ho : (Int.tmod (Q : Int) 2 = 1) = (Q % 2 = 1) := by
            rw [Int.tmod_eq_emod_of_nonneg (by omega), eq_iff_iff]; omega
          by_cases c : Q % 2 = 1
          · rw [if_pos (show Int.tmod (Q : Int) 2 = 1 by rw [ho]; exact c), P1, c]; rfl
          · rw [if_neg (show ¬ Int.tmod (Q : Int) 2 = 1 by rw [ho]; exact c), P0, show Q % 2 = 0 by omega]; rfl
    · have hd0 : down M E = 0 := by unfold down; omega
      have hmore : more = false := by
        cases more with
        | false => rfl
        | true => have := (log2_ge M 52 h0).2 (hm rfl); omega
      subst hmore
      rw [hd0, Nat.pow_zero, Nat.div_one, show E + ((0 : Nat) : Int) = E by omega]
      show (Option.bind (halterref02_Round.l1 ((M : Int), E, false, false) neg false FUEL (M : Int) E) _) = _
      obtain ⟨k, hk⟩ : ∃ k : Nat, (k : Int) = min (52 - (M.log2 : Int)) (1074 + E) := ⟨(min (52 - (M.log2 : Int)) (1074 + E)).toNat, by omega⟩
      have hMs : M < 4503599627370496 := by
        rcases Nat.lt_or_ge M 4503599627370496 with g | g
        · exact g
        · have := (log2_ge M 52 h0).2 g
          omega
      rw [R_l1 ((M : Int), E, false, false) neg false rfl rfl k FUEL M E (fuel_gt (by omega)) h0 (by omega) (by omega) (by omega) (by omega) (by omega), bind_go]
      show (if false = true then _ else _) = _
      rw [if_neg (by simp)]
      dsimp only
      have h3 := Nat.log2_self_le h0
      have h4 : M < 2 ^ (M.log2 + 1) := Nat.lt_log2_self
      have h5 : M * 2 ^ k < 2 ^ (M.log2 + 1) * 2 ^ k := (Nat.mul_lt_mul_right (Nat.two_pow_pos k)).2 h4
      have h6 : 2 ^ (M.log2 + 1) * 2 ^ k ≤ 2 ^ 53 := by rw [← Nat.pow_add]; exact Nat.pow_le_pow_right (by omega) (by omega)
      have h7 : 4503599627370496 ≤ M * 2 ^ k ∨ E - (k : Int) = -1074 := by
        by_cases c : M.log2 + k = 52
        · left
          have : 2 ^ M.log2 * 2 ^ k ≤ M * 2 ^ k := Nat.mul_le_mul_right _ h3
          rw [← Nat.pow_add, c] at this
          omega
        · right; omega
      have en := nearest_up neg M k E h0 (by omega) (by omega) (by omega)
      rw [show 4 * M + false.toNat = 4 * M from rfl, en]
      have P0 := R_post neg (M * 2 ^ k) (E - (k : Int)) (by omega) (by omega) (by omega) (by omega) (by omega)
      rw [R_min _ _ (by omega) h7] at P0
      rw [P0]
def om (x : Nat) : Nat := if rg x < 4503599627370496 then rg x else 4503599627370496 + rg x % 4503599627370496
def oj (x : Nat) : Nat := rg x / 4503599627370496 - 1
theorem om_mag (x : Nat) : om x * 2 ^ oj x = mag (rg x) := by
  unfold om oj mag
  by_cases h : rg x < 4503599627370496
  · rw [if_pos h, if_pos h, show rg x / 4503599627370496 - 1 = 0 by omega, Nat.pow_zero, Nat.mul_one]
  · rw [if_neg h, if_neg h]
theorem om_lt (x : Nat) : om x < 9007199254740992 := by unfold om; split <;> omega
theorem oj_le (x : Nat) (h : fin x) : oj x ≤ 2045 := by
  have h : rg x < 9218868437227405312 := h
  unfold oj; omega
theorem om_zero (x : Nat) : om x = 0 ↔ rg x = 0 := by unfold om; split <;> omega
theorem om_read (x : Nat) (h : fin x) : D.read x = .number (sg x) (om x) ((oj x : Int) - 1074) := by
  have h : rg x < 9218868437227405312 := h
  unfold Ieee.Format.read
  rw [D_sign, D_binade, D_inf, D_least]
  dsimp only
  show (if rg x < 4503599627370496 then Ieee.Datum.number (sg x) (rg x) (-1074) else if rg x < 9218868437227405312 then .number (sg x) (4503599627370496 + rg x % 4503599627370496) (-1074 + ((rg x / 4503599627370496 - 1 : Nat) : Int)) else if rg x = 9218868437227405312 then .infinity (sg x) else .nan (sg x) (rg x - 9218868437227405312)) = _
  unfold om oj
  by_cases h1 : rg x < 4503599627370496
  · rw [if_pos h1, if_pos h1, show rg x / 4503599627370496 - 1 = 0 by omega]; rfl
  · rw [if_neg h1, if_pos h, if_neg h1, show (-1074 : Int) + ((rg x / 4503599627370496 - 1 : Nat) : Int) = ((rg x / 4503599627370496 - 1 : Nat) : Int) - 1074 by omega]
theorem neg_eq (x : Nat) (hx : x < 18446744073709551616) : halterref02_Neg.f (x : Int) = some (sg x) := by
  unfold halterref02_Neg.f sg
  congr 1
  rw [Bool.eq_iff_iff, decide_eq_true_eq, beq_iff_eq]
  omega
theorem open_eq (x : Nat) (hx : x < 18446744073709551616) (h : fin x) : halterref02_Open.f (x : Int) = some (sg x, (om x : Int), (oj x : Int) - 1074, false) := by
  have h : x % 9223372036854775808 < 9218868437227405312 := h
  have e1 : IntKind.wrap .i64 (Int.tmod (IntKind.wrap .u64 (Int.tdiv (x : Int) 4503599627370496)) 2048) = ((x / 4503599627370496 % 2048 : Nat) : Int) := by
    rw [Int.tdiv_eq_ediv_of_nonneg (by omega), wu64_id (by omega), Int.tmod_eq_emod_of_nonneg (by omega), wi64 (by omega) (by omega)]; omega
  have e2 : Int.tmod (x : Int) 4503599627370496 = ((x % 4503599627370496 : Nat) : Int) := by rw [Int.tmod_eq_emod_of_nonneg (by omega)]; omega
  unfold halterref02_Open.f
  rw [e1, e2, neg_eq x hx, bind_go, bind_go]
  unfold om oj rg
  by_cases h1 : ((x / 4503599627370496 % 2048 : Nat) : Int) = 0
  · rw [if_pos h1, if_pos (show x % 9223372036854775808 < 4503599627370496 by omega), show x % 9223372036854775808 / 4503599627370496 - 1 = 0 by omega, show x % 4503599627370496 = x % 9223372036854775808 by omega]
    rfl
  · have e3 : IntKind.wrap .u64 (((x % 4503599627370496 : Nat) : Int) + 4503599627370496) = ((4503599627370496 + x % 9223372036854775808 % 4503599627370496 : Nat) : Int) := by rw [wu64_id (by omega)]; omega
    have e4 : IntKind.wrap .i64 (((x / 4503599627370496 % 2048 : Nat) : Int) - 1075) = ((x % 9223372036854775808 / 4503599627370496 - 1 : Nat) : Int) - 1074 := by rw [wi64 (by omega) (by omega)]; omega
    rw [if_neg h1, if_neg (show ¬ x % 9223372036854775808 < 4503599627370496 by omega), e3, e4]
theorem nearest_cut (neg : Bool) (N k : Nat) (B : Int) (h : k = 0 ∨ 9007199254740992 ≤ N / 2 ^ k) : D.nearest neg (4 * (N / 2 ^ k) + (decide (N % 2 ^ k ≠ 0)).toNat) (B + k - 2) = D.nearest neg N B := by
  have e : D.nearest neg (4 * N) (B - 2) = D.nearest neg N B := by
    have := nearest_scale neg N 2 B
    rw [show N * 2 ^ 2 = 4 * N by omega] at this
    exact this
  rcases h with h | h
  · subst h
    rw [Nat.pow_zero, Nat.div_one, Nat.mod_one, show B + ((0 : Nat) : Int) - 2 = B - 2 by omega]
    exact e
  · have := nearest_sticky neg N k false B h
    rw [Bool.or_false, show false.toNat = 0 from rfl, Nat.add_zero] at this
    rw [← this, e]
theorem inf_word (x : Nat) (h : x < 18446744073709551616) (hi : rg x = 9218868437227405312) : ofB (some (D.write (.infinity (sg x)))) = (x : Int) := by
  have e : D.write (.infinity (sg x)) = x := by
    show D.word (sg x) D.infRung = x
    rw [word_eq, D_inf, ← hi, word_self x h]
  rw [e, ofB_some x (by omega)]
theorem l1_l0 (t t' : Bool × Int × Int × Bool) : ∀ n a b c d e, halterref02_Add.l1 t t' n a b c d e = halterref02_Add.l0 t t' n a b c d e := by
  intro n
  induction n with
  | zero => intros; rfl
  | succ n ih => intros; rw [halterref02_Add.l1, halterref02_Add.l0]; simp only [ih]
theorem l2_l0 (t t' : Bool × Int × Int × Bool) : ∀ n a b c d e, halterref02_Add.l2 t t' n a b c d e = halterref02_Add.l0 t t' n a b c d e := by
  intro n
  induction n with
  | zero => intros; rfl
  | succ n ih => intros; rw [halterref02_Add.l2, halterref02_Add.l0]; simp only [ih]
theorem l3_l0 (t t' : Bool × Int × Int × Bool) : ∀ n a b c d e, halterref02_Add.l3 t t' n a b c d e = halterref02_Add.l0 t t' n a b c d e := by
  intro n
  induction n with
  | zero => intros; rfl
  | succ n ih => intros; rw [halterref02_Add.l3, halterref02_Add.l0]; simp only [ih]
theorem shift_odd (Y j : Nat) : (decide (Y % 2 ^ j ≠ 0) || (Y / 2 ^ j % 2 == 1)) = decide (Y % 2 ^ (j + 1) ≠ 0) := by
  rw [Nat.pow_succ, Nat.mod_mul, Bool.eq_iff_iff, Bool.or_eq_true, beq_iff_eq, decide_eq_true_eq, decide_eq_true_eq]
  have hp := Nat.two_pow_pos j
  have h2 : Y / 2 ^ j % 2 = 0 ∨ Y / 2 ^ j % 2 = 1 := by omega
  generalize Y / 2 ^ j % 2 = b at *
  generalize Y % 2 ^ j = a at *
  rcases h2 with h | h <;> subst h
  · rw [Nat.mul_zero]; omega
  · rw [Nat.mul_one]; omega
theorem A_l0 (t t' : Bool × Int × Int × Bool) (Y : Nat) (B0 : Int) (hY : 0 < Y) (hY2 : Y < 2305843009213693952) (b1 : -100000 < B0) (b2 : B0 < 100000) : ∀ (d n X kx j : Nat), kx = j + d → d < n → kx < 100000 → X < 4611686018427387904 → Y / 2 ^ j ≠ 0 → (j = 0 ∨ 2305843009213693952 ≤ X) → ∃ (X' k : Nat) (z : Int), halterref02_Add.l0 t t' n (X : Int) (B0 + kx) ((Y / 2 ^ j : Nat) : Int) (B0 + j) (decide (Y % 2 ^ j ≠ 0)) = some ((X' : Int), B0 + k, ((Y / 2 ^ k : Nat) : Int), z, decide (Y % 2 ^ k ≠ 0)) ∧ X' * 2 ^ k = X * 2 ^ kx ∧ (k = 0 ∨ 2305843009213693952 ≤ X') ∧ X' < 4611686018427387904 ∧ k ≤ kx := by
  intro d
  induction d with
  | zero =>
    intro n X kx j hk hn hb hX hq hj
    obtain ⟨q, rfl⟩ := fuel_step hn
    refine ⟨X, kx, B0 + j, ?_, rfl, ?_, hX, Nat.le_refl _⟩
    · rw [halterref02_Add.l0, if_neg (by omega), show kx = j by omega]
    · omega
  | succ d ih =>
    intro n X kx j hk hn hb hX hq hj
    obtain ⟨q, rfl⟩ := fuel_step hn
    have hle : Y / 2 ^ j ≤ Y := Nat.div_le_self _ _
    have hq' : ((Y / 2 ^ j : Nat) : Int) > 0 := Int.natCast_pos.2 (Nat.pos_of_ne_zero hq)
    by_cases c : X < 2305843009213693952
    · have hj0 : j = 0 := by omega
      have e1 : IntKind.wrap .u64 ((2 : Int) * (X : Int)) = ((X * 2 : Nat) : Int) := by rw [wu64_id (by omega)]; omega
      have e2 : IntKind.wrap .i64 (B0 + (kx : Int) - 1) = B0 + ((kx - 1 : Nat) : Int) := by rw [wi64 (by omega) (by omega)]; omega
      obtain ⟨X', k, z, a1, a2, a3, a4, a5⟩ := ih q (X * 2) (kx - 1) j (by omega) (by omega) (by omega) (by omega) hq (Or.inl hj0)
      refine ⟨X', k, z, ?_, ?_, a3, a4, by omega⟩
      · rw [halterref02_Add.l0, if_pos (by omega), if_pos hq', if_pos (by omega), e1, e2, a1]
      · rw [a2, Nat.mul_assoc, show 2 * 2 ^ (kx - 1) = 2 ^ kx by rw [Nat.mul_comm, ← Nat.pow_succ]; congr 1; omega]
    · have e1 := R_half (Y / 2 ^ j) (by omega)
      have e4 : Y / 2 ^ j / 2 = Y / 2 ^ (j + 1) := by rw [Nat.div_div_eq_div_mul, Nat.pow_succ]
      rw [e4] at e1
      have e2 : IntKind.wrap .i64 (B0 + (j : Int) + 1) = B0 + ((j + 1 : Nat) : Int) := by rw [wi64 (by omega) (by omega)]; omega
      have e3 : (if decide (Y % 2 ^ j ≠ 0) = true then true else (Int.tmod ((Y / 2 ^ j : Nat) : Int) 2 == 1)) = decide (Y % 2 ^ (j + 1) ≠ 0) := by
        rw [R_odd, ← shift_odd]
        cases decide (Y % 2 ^ j ≠ 0) <;> simp
      by_cases z0 : Y / 2 ^ (j + 1) = 0
      · have hlt : Y < 2 ^ (j + 1) := by
          rcases Nat.div_eq_zero_iff.1 z0 with h | h
          · exact absurd h (by have := Nat.two_pow_pos (j + 1); omega)
          · exact h
        have hk2 : 2 ^ (j + 1) ≤ 2 ^ kx := Nat.pow_le_pow_right (by omega) (by omega)
        have g1 : Y / 2 ^ kx = 0 := Nat.div_eq_of_lt (by omega)
        have g2 : decide (Y % 2 ^ kx ≠ 0) = decide (Y % 2 ^ (j + 1) ≠ 0) := by rw [Nat.mod_eq_of_lt (show Y < 2 ^ kx by omega), Nat.mod_eq_of_lt hlt]
        refine ⟨X, kx, B0 + ((j + 1 : Nat) : Int), ?_, rfl, Or.inr (by omega), hX, Nat.le_refl _⟩
        rw [halterref02_Add.l0, if_pos (by omega), if_pos hq', if_neg (by omega), e1, e2, z0, g1, g2, ← e3]
        cases decide (Y % 2 ^ j ≠ 0)
        · rw [if_neg (by simp), if_pos (by rfl), if_neg (by simp)]
        · rw [if_pos rfl, if_pos (by rfl), if_pos rfl]
      · obtain ⟨X', k, z, a1, a2, a3, a4, a5⟩ := ih q X kx (j + 1) (by omega) (by omega) (by omega) hX z0 (Or.inr (by omega))
        refine ⟨X', k, z, ?_, a2, a3, a4, a5⟩
        have z0' : ¬ ((Y / 2 ^ (j + 1) : Nat) : Int) = 0 := fun h => z0 (Int.natCast_eq_zero.1 h)
        rw [halterref02_Add.l0, if_pos (by omega), if_pos hq', if_neg (by omega), e1, e2, ← a1, ← e3]
        cases decide (Y % 2 ^ j ≠ 0)
        · rw [if_neg (by simp), if_neg z0', if_neg (by simp)]
        · rw [if_pos rfl, if_neg z0', if_pos rfl]
def addW (s t : Bool) (a b : Nat) : Nat := if s = t then wordN s (rnd (a + b)) else if a < b then wordN t (rnd (b - a)) else if a = b then 0 else wordN s (rnd (a - b))
theorem addW_units (s t : Bool) (A B j : Nat) : addW s t (A * 2 ^ j) (B * 2 ^ j) = if s = t then wordN s (rnd ((A + B) * 2 ^ j)) else if A < B then wordN t (rnd ((B - A) * 2 ^ j)) else if A = B then 0 else wordN s (rnd ((A - B) * 2 ^ j)) := by
  have hp := Nat.two_pow_pos j
  unfold addW
  rw [Nat.add_mul, Nat.sub_mul, Nat.sub_mul]
  have h1 : (A * 2 ^ j < B * 2 ^ j) = (A < B) := by rw [eq_iff_iff]; exact Nat.mul_lt_mul_right hp
  have h2 : (A * 2 ^ j = B * 2 ^ j) = (A = B) := by rw [eq_iff_iff]; exact Nat.mul_left_inj (by omega)
  simp only [h1, h2]
theorem nearest_w (s : Bool) (W j : Nat) : D.nearest s (256 * W) ((j : Int) - 1074 - 8) = wordN s (rnd (W * 2 ^ j)) := by
  have := nearest_scale s W 8 ((j : Int) - 1074)
  rw [show 256 * W = W * 2 ^ 8 by omega, show (j : Int) - 1074 - 8 = (j : Int) - 1074 - ((8 : Nat) : Int) from rfl, this, nearest_units]
theorem add_core (t t' : Bool × Int × Int × Bool) (sg_ sl : Bool) (Mg Ml jg jl : Nat) (h1 : Mg < 9007199254740992) (h2 : Ml < 9007199254740992) (g0 : Mg ≠ 0) (l0 : Ml ≠ 0) (hj : jl ≤ jg) (hb : jg ≤ 2045) :
    ((halterref02_Add.l0 t t' FUEL (IntKind.wrap .u64 ((256 : Int) * (Mg : Int))) (IntKind.wrap .i64 ((jg : Int) - 1074 - (8 : Int))) (IntKind.wrap .u64 ((256 : Int) * (Ml : Int))) (IntKind.wrap .i64 ((jl : Int) - 1074 - (8 : Int))) false).bind fun t62 =>
      if sg_ = sl then
        (halterref02_Round.f sg_ (IntKind.wrap .u64 (t62.1 + t62.2.2.1)) t62.2.1 t62.2.2.2.2).bind fun t83 =>
        some t83
      else
        if t62.1 < t62.2.2.1 then
          (halterref02_Round.f sl (IntKind.wrap .u64 (t62.2.2.1 - t62.1)) t62.2.1 false).bind fun t85 =>
          some t85
        else
          if t62.2.2.2.2 = true then
            if (IntKind.wrap .u64 ((IntKind.wrap .u64 (t62.1 - t62.2.2.1)) - (1 : Int))) = (0 : Int) then
              (halterref02_Round.f sg_ (IntKind.wrap .u64 ((IntKind.wrap .u64 (t62.1 - t62.2.2.1)) - (1 : Int))) t62.2.1 t62.2.2.2.2).bind fun t88 =>
              some t88
            else
              (halterref02_Round.f sg_ (IntKind.wrap .u64 ((IntKind.wrap .u64 (t62.1 - t62.2.2.1)) - (1 : Int))) t62.2.1 t62.2.2.2.2).bind fun t89 =>
              some t89
          else
            if (IntKind.wrap .u64 (t62.1 - t62.2.2.1)) = (0 : Int) then
              some (0 : Int)
            else
              (halterref02_Round.f sg_ (IntKind.wrap .u64 (t62.1 - t62.2.2.1)) t62.2.1 t62.2.2.2.2).bind fun t91 =>
              some t91) = some ((addW sg_ sl (Mg * 2 ^ jg) (Ml * 2 ^ jl) : Nat) : Int) := by
  have w1 : IntKind.wrap .u64 ((256 : Int) * (Mg : Int)) = ((256 * Mg : Nat) : Int) := by rw [wu64_id (by omega)]; omega
  have w2 : IntKind.wrap .u64 ((256 : Int) * (Ml : Int)) = ((256 * Ml : Nat) : Int) := by rw [wu64_id (by omega)]; omega
  have w3 : IntKind.wrap .i64 ((jg : Int) - 1074 - 8) = (jl : Int) - 1074 - 8 + ((jg - jl : Nat) : Int) := by rw [wi64 (by omega) (by omega)]; omega
  have w4 : IntKind.wrap .i64 ((jl : Int) - 1074 - 8) = (jl : Int) - 1074 - 8 := by rw [wi64 (by omega) (by omega)]
  obtain ⟨X, k, z, a1, a2, a3, a4, a5⟩ := A_l0 t t' (256 * Ml) ((jl : Int) - 1074 - 8) (by omega) (by omega) (by omega) (by omega) (jg - jl) FUEL (256 * Mg) (jg - jl) 0 (by omega) (fuel_gt (by omega)) (by omega) (by omega) (by rw [Nat.pow_zero]; omega) (Or.inl rfl)
  have e0 : decide ((256 * Ml) % 2 ^ 0 ≠ 0) = false := by rw [Nat.pow_zero, Nat.mod_one]; rfl
  rw [e0, Nat.pow_zero, Nat.div_one, show (jl : Int) - 1074 - 8 + ((0 : Nat) : Int) = (jl : Int) - 1074 - 8 by omega] at a1
  have ejg : Mg * 2 ^ jg = Mg * 2 ^ (jg - jl) * 2 ^ jl := by rw [Nat.mul_assoc, ← Nat.pow_add, show jg - jl + jl = jg by omega]
  rw [w1, w2, w3, w4, a1, bind_go, ejg, addW_units]
  dsimp only
  rw [Nat.mul_assoc] at a2
  generalize Mg * 2 ^ (jg - jl) = A at *
  have hp := Nat.two_pow_pos k
  have hd : 2 ^ k * (256 * Ml / 2 ^ k) + 256 * Ml % 2 ^ k = 256 * Ml := Nat.div_add_mod _ _
  have hr := Nat.mod_lt (256 * Ml) hp
  have hk0 : k = 0 → 256 * Ml / 2 ^ k = 256 * Ml ∧ 256 * Ml % 2 ^ k = 0 ∧ X * 2 ^ k = X := fun h => by subst h; rw [Nat.pow_zero, Nat.div_one, Nat.mod_one, Nat.mul_one]; exact ⟨rfl, rfl, rfl⟩
  have hk1 : k ≠ 0 → 256 * Ml / 2 ^ k ≤ 1152921504606846976 := fun h => by
    have : 2 ^ 1 ≤ 2 ^ k := Nat.pow_le_pow_right (by omega) (by omega)
    have h3 : 256 * Ml / 2 ^ k ≤ 256 * Ml / 2 ^ 1 := Nat.div_le_div_left this (by omega)
    omega
  have hB : -100000 < (jl : Int) - 1074 - 8 + (k : Int) := by omega
  have hB2 : (jl : Int) - 1074 - 8 + (k : Int) < 100000 := by omega
  have cut := fun (s : Bool) (N : Nat) (h : k = 0 ∨ 9007199254740992 ≤ N / 2 ^ k) => nearest_cut s N k ((jl : Int) - 1074 - 8) h
  generalize hq : 256 * Ml / 2 ^ k = q at *
  generalize hrr : 256 * Ml % 2 ^ k = r at *
  have hcomm : X * 2 ^ k = 2 ^ k * X := Nat.mul_comm _ _
  by_cases hs : sg_ = sl
  · rw [if_pos hs, if_pos hs]
    have e1 : IntKind.wrap .u64 ((X : Int) + (q : Int)) = ((X + q : Nat) : Int) := by
      have : q ≤ 256 * Ml := by rw [← hq]; exact Nat.div_le_self _ _
      rw [wu64_id (by omega)]; omega
    have hN : (256 * (A + Ml)) / 2 ^ k = X + q ∧ (256 * (A + Ml)) % 2 ^ k = r := by
      refine divmod_is ?_ hr
      rw [Nat.mul_add]; omega
    have hN2 := cut sg_ (256 * (A + Ml)) (by rw [hN.1]; omega)
    rw [hN.1, hN.2, nearest_w] at hN2
    rw [e1, Round_eq sg_ (X + q) _ _ (by
      have : q ≤ 256 * Ml := by rw [← hq]; exact Nat.div_le_self _ _
      omega) hB hB2 (fun h => by have := of_decide_eq_true h; omega), hN2, bind_go]
  · rw [if_neg hs, if_neg hs]
    by_cases c : X < q
    · have k0 : k = 0 := by
        rcases Nat.eq_zero_or_pos k with h | h
        · exact h
        · have := hk1 (by omega); omega
      obtain ⟨u1, u2, u3⟩ := hk0 k0
      have e1 : IntKind.wrap .u64 ((q : Int) - (X : Int)) = ((q - X : Nat) : Int) := by rw [wu64_id (by omega)]; omega
      have hN : (256 * (Ml - A)) / 2 ^ k = q - X ∧ (256 * (Ml - A)) % 2 ^ k = 0 := by
        refine divmod_is ?_ hp
        rw [Nat.mul_sub]; rw [k0, Nat.pow_zero]; omega
      have hN2 := cut sl (256 * (Ml - A)) (Or.inl k0)
      rw [hN.1, hN.2, nearest_w] at hN2
      rw [if_pos (by omega), if_pos (by omega), e1, Round_eq sl (q - X) _ _ (by omega) hB hB2 (fun h => by cases h), bind_go]
      exact congrArg (fun z : Nat => some (z : Int)) hN2
    · rw [if_neg (show ¬ (X : Int) < (q : Int) by omega)]
      have e1 : IntKind.wrap .u64 ((X : Int) - (q : Int)) = ((X - q : Nat) : Int) := by rw [wu64_id (by omega)]; omega
      rw [e1]
      by_cases r0 : r = 0
      · rw [if_neg (show ¬ decide (r ≠ 0) = true by rw [decide_eq_true_eq]; omega)]
        by_cases x0 : X = q
        · have : X * 2 ^ k = q * 2 ^ k := by rw [x0]
          have hc2 : q * 2 ^ k = 2 ^ k * q := Nat.mul_comm _ _
          rw [if_pos (show ((X - q : Nat) : Int) = 0 by omega), if_neg (by omega), if_pos (by omega)]; rfl
        · have hlt : q * 2 ^ k < X * 2 ^ k := (Nat.mul_lt_mul_right hp).2 (by omega)
          have hc2 : q * 2 ^ k = 2 ^ k * q := Nat.mul_comm _ _
          have hN : (256 * (A - Ml)) / 2 ^ k = X - q ∧ (256 * (A - Ml)) % 2 ^ k = 0 := by
            refine divmod_is ?_ hp
            rw [Nat.mul_sub, Nat.mul_sub]; omega
          have hN2 := cut sg_ (256 * (A - Ml)) (by
            rw [hN.1]
            by_cases k0 : k = 0
            · exact Or.inl k0
            · have := hk1 k0; omega)
          rw [hN.1, hN.2, nearest_w] at hN2
          rw [if_neg (show ¬ ((X - q : Nat) : Int) = 0 by omega), if_neg (by omega), if_neg (by omega), r0, show decide ((0 : Nat) ≠ 0) = false from rfl, Round_eq sg_ (X - q) _ _ (by omega) hB hB2 (fun h => by cases h), bind_go]
          exact congrArg (fun z : Nat => some (z : Int)) hN2
      · have k0 : k ≠ 0 := fun h => r0 (hk0 h).2.1
        have hq2 := hk1 k0
        have e2 : IntKind.wrap .u64 (((X - q : Nat) : Int) - 1) = ((X - q - 1 : Nat) : Int) := by rw [wu64_id (by omega)]; omega
        have hle : 2 ^ k * (q + 1) ≤ 2 ^ k * X := Nat.mul_le_mul_left _ (by omega)
        rw [Nat.mul_add, Nat.mul_one] at hle
        have hN : (256 * (A - Ml)) / 2 ^ k = X - q - 1 ∧ (256 * (A - Ml)) % 2 ^ k = 2 ^ k - r := by
          refine divmod_is ?_ (by omega)
          rw [Nat.mul_sub, Nat.mul_sub, Nat.mul_sub, Nat.mul_one]; omega
        have hN2 := cut sg_ (256 * (A - Ml)) (by rw [hN.1]; omega)
        rw [hN.1, hN.2, nearest_w, decide_eq_true (show 2 ^ k - r ≠ 0 by omega)] at hN2
        rw [if_pos (show decide (r ≠ 0) = true by rw [decide_eq_true_eq]; omega), e2, if_neg (show ¬ ((X - q - 1 : Nat) : Int) = 0 by omega), if_neg (by omega), if_neg (by omega), decide_eq_true r0, Round_eq sg_ (X - q - 1) _ _ (by omega) hB hB2 (fun _ => by omega), hN2, bind_go]
theorem addW_comm (s t : Bool) (a b : Nat) : addW s t a b = addW t s b a := by
  unfold addW
  by_cases h : s = t
  · subst h; rw [if_pos rfl, if_pos rfl, Nat.add_comm]
  · have h' : ¬ t = s := fun e => h e.symm
    rw [if_neg h, if_neg h']
    rcases Nat.lt_trichotomy a b with g | g | g
    · rw [if_pos g, if_neg (show ¬ b < a by omega), if_neg (show ¬ b = a by omega)]
    · rw [if_neg (show ¬ a < b by omega), if_pos g, if_neg (show ¬ b < a by omega), if_pos g.symm]
    · rw [if_neg (show ¬ a < b by omega), if_neg (show ¬ a = b by omega), if_pos g]
theorem rnd_le (N : Nat) : rnd N ≤ 9218868437227405312 := by
  unfold Go.Proofs.YtfoejbiifolnnaaDoorF.rnd
  split <;> omega
theorem addW_rg (s t : Bool) (a b : Nat) : rg (addW s t a b) ≤ 9218868437227405312 := by
  unfold addW
  have h : ∀ (s : Bool) (N : Nat), rg (wordN s (rnd N)) ≤ 9218868437227405312 := fun s N => by
    have := rnd_le N
    rw [(rg_word s (rnd N) (by omega)).1]; exact this
  split
  · exact h _ _
  · split
    · exact h _ _
    · split
      · decide
      · exact h _ _
theorem add_word (x y : Nat) (hx : fin x) (hy : fin y) : D.add x y = some (addW (sg x) (sg y) (mag (rg x)) (mag (rg y))) := by
  rw [add_fin x y hx hy]
  congr 1
  unfold val addW
  generalize mag (rg x) = a
  generalize mag (rg y) = b
  cases sg x <;> cases sg y
  · rw [if_neg (show ¬ (false = true) by simp), if_neg (show ¬ (false = true) by simp), if_pos rfl, show ((a : Int) + (b : Int)).natAbs = a + b by omega]
    congr 1
    by_cases h : (a : Int) + (b : Int) = 0
    · rw [if_pos h]; rfl
    · rw [if_neg h, decide_eq_false (by omega)]
  · rw [if_neg (show ¬ (false = true) by simp), if_pos rfl, if_neg (show ¬ (false = true) by simp)]
    rcases Nat.lt_trichotomy a b with g | g | g
    · rw [if_neg (by omega), if_pos g, decide_eq_true (by omega), show ((a : Int) + -(b : Int)).natAbs = b - a by omega]
    · rw [if_pos (by omega), if_neg (by omega), if_pos g, show ((a : Int) + -(b : Int)).natAbs = 0 by omega]; rfl
    · rw [if_neg (by omega), if_neg (by omega), if_neg (by omega), decide_eq_false (by omega), show ((a : Int) + -(b : Int)).natAbs = a - b by omega]
  · rw [if_pos rfl, if_neg (show ¬ (false = true) by simp), if_neg (show ¬ (true = false) by simp)]
    rcases Nat.lt_trichotomy a b with g | g | g
    · rw [if_neg (by omega), if_pos g, decide_eq_false (by omega), show (-(a : Int) + (b : Int)).natAbs = b - a by omega]
    · rw [if_pos (by omega), if_neg (by omega), if_pos g, show (-(a : Int) + (b : Int)).natAbs = 0 by omega]; rfl
    · rw [if_neg (by omega), if_neg (by omega), if_neg (by omega), decide_eq_true (by omega), show (-(a : Int) + (b : Int)).natAbs = a - b by omega]
  · rw [if_pos rfl, if_pos rfl, if_pos rfl, show (-(a : Int) + -(b : Int)).natAbs = a + b by omega]
    congr 1
    by_cases h : -(a : Int) + -(b : Int) = 0
    · rw [if_pos h]; rfl
    · rw [if_neg h, decide_eq_true (by omega)]
theorem om_pos (x : Nat) (h : om x ≠ 0) : 0 < mag (rg x) := by
  rw [← om_mag x]; exact Nat.mul_pos (by omega) (Nat.two_pow_pos _)
theorem om_nil (x : Nat) (h : om x = 0) : mag (rg x) = 0 := by rw [← om_mag x, h, Nat.zero_mul]
theorem word_rnd (x : Nat) (hx : fin x) (h : x < 18446744073709551616) : wordN (sg x) (rnd (mag (rg x))) = x := by rw [rnd_mag _ hx, word_self x h]
theorem ref_add_fin (x y : Nat) (fx : fin x) (fy : fin y) (hx : x < 18446744073709551616) (hy : y < 18446744073709551616) : halterref02_Add.f (x : Int) (y : Int) = some ((addW (sg x) (sg y) (mag (rg x)) (mag (rg y)) : Nat) : Int) := by
  have fx' : rg x < 9218868437227405312 := fx
  have fy' : rg y < 9218868437227405312 := fy
  obtain ⟨c, e, h4, _, h3⟩ := rclass4 x hx
  obtain ⟨d, f, g4, _, g3⟩ := rclass4 y hy
  unfold halterref02_Add.f
  rw [rnone_eq x y hx hy, bind_go, decide_eq_false (show ¬ 9218868437227405312 < rg x by omega), decide_eq_false (show ¬ 9218868437227405312 < rg y by omega), if_neg (show ¬ ((false || false) = true) by simp), e, bind_go, if_neg (fun k => by have := h3.1 k; omega), f, bind_go, if_neg (fun k => by have := g3.1 k; omega), open_eq x hx fx, bind_go, open_eq y hy fy, bind_go]
  dsimp only
  have ox := om_lt x
  have oy := om_lt y
  have jx := oj_le x fx
  have jy := oj_le y fy
  by_cases zx : om x = 0
  · rw [if_pos (show (om x : Int) = 0 by omega), om_nil x zx]
    by_cases zy : om y = 0
    · rw [if_pos (show (om y : Int) = 0 by omega), om_nil y zy, show (0 : Int) = ((0 : Nat) : Int) from rfl, rsigned_eq _ 0 (by omega), rsigned_eq _ 0 (by omega), bind_go, bind_go]
      unfold addW
      cases sg x <;> cases sg y <;> rfl
    · have := om_pos y zy
      rw [if_neg (show ¬ (om y : Int) = 0 by omega)]
      unfold addW
      by_cases hs : sg x = sg y
      · rw [if_pos hs, Nat.zero_add, hs, word_rnd y fy hy]
      · rw [if_neg hs, if_pos this, Nat.sub_zero, word_rnd y fy hy]
  · rw [if_neg (show ¬ (om x : Int) = 0 by omega)]
    have px := om_pos x zx
    by_cases zy : om y = 0
    · rw [if_pos (show (om y : Int) = 0 by omega), om_nil y zy]
      unfold addW
      by_cases hs : sg x = sg y
      · rw [if_pos hs, Nat.add_zero, word_rnd x fx hx]
      · rw [if_neg hs, if_neg (by omega), if_neg (by omega), Nat.sub_zero, word_rnd x fx hx]
    · rw [if_neg (show ¬ (om y : Int) = 0 by omega), ← om_mag x, ← om_mag y]
      by_cases c1 : (oj x : Int) - 1074 < (oj y : Int) - 1074
      · rw [if_pos c1, addW_comm]
        exact add_core _ _ (sg y) (sg x) (om y) (om x) (oj y) (oj x) oy ox zy zx (by omega) jy
      · rw [if_neg c1]
        by_cases c2 : (oj x : Int) - 1074 = (oj y : Int) - 1074
        · rw [if_pos c2]
          by_cases c3 : (om x : Int) < (om y : Int)
          · rw [if_pos c3, addW_comm, l1_l0]
            exact add_core _ _ (sg y) (sg x) (om y) (om x) (oj y) (oj x) oy ox zy zx (by omega) jy
          · rw [if_neg c3, l2_l0]
            exact add_core _ _ (sg x) (sg y) (om x) (om y) (oj x) (oj y) ox oy zx zy (by omega) jx
        · rw [if_neg c2, l3_l0]
          exact add_core _ _ (sg x) (sg y) (om x) (om y) (oj x) (oj y) ox oy zx zy (by omega) jx
theorem Add_both (x y : Nat) (hx : x < 18446744073709551616) (hy : y < 18446744073709551616) : ∃ v : Int, soft_Add.f (x : Int) (y : Int) = some v ∧ halterref02_Add.f (x : Int) (y : Int) = some v := by
  by_cases fin2 : fin x ∧ fin y
  · obtain ⟨fx, fy⟩ := fin2
    refine ⟨_, f_add x y, ?_⟩
    rw [add_word x y fx fy, ofB_some _ (addW_rg _ _ _ _), ref_add_fin x y fx fy hx hy]
  · refine ⟨_, f_add x y, ?_⟩
    obtain ⟨c, e, h4, _, h3⟩ := rclass4 x hx
    obtain ⟨d, f, g4, _, g3⟩ := rclass4 y hy
    unfold halterref02_Add.f
    rw [rnone_eq x y hx hy, bind_go]
    by_cases nx : 9218868437227405312 < rg x
    · rw [decide_eq_true nx, Bool.true_or, if_pos rfl, nan_add x y nx, ofB_none]
    · by_cases ny : 9218868437227405312 < rg y
      · rw [decide_eq_true ny, Bool.or_true, if_pos rfl, add_comm', nan_add y x ny, ofB_none]
      · rw [decide_eq_false nx, decide_eq_false ny, if_neg (show ¬ ((false || false) = true) by simp), e, bind_go]
        by_cases ix : rg x = 9218868437227405312
        · rw [if_pos (h3.2 ix), f, bind_go]
          unfold Ieee.Format.add
          rw [read_inf x ix]
          by_cases iy : rg y = 9218868437227405312
          · rw [if_pos (g3.2 iy), neg_eq x hx, bind_go, neg_eq y hy, bind_go, read_inf y iy]
            show _ = some (ofB ((if sg x = sg y then some (Ieee.Datum.infinity (sg x)) else none).map D.write))
            by_cases hs : sg x = sg y
            · rw [if_neg (fun k => k hs), if_pos hs]
              show _ = some (ofB (some (D.write (.infinity (sg x)))))
              rw [inf_word x hx ix]
            · rw [if_pos hs, if_neg hs]; rfl
          · have fy : fin y := by show rg y < _; omega
            rw [if_neg (fun k => iy (g3.1 k)), om_read y fy]
            show _ = some (ofB (some (D.write (.infinity (sg x)))))
            rw [inf_word x hx ix]
        · have fx : fin x := by show rg x < _; omega
          have iy : rg y = 9218868437227405312 := by
            apply Classical.byContradiction
            intro k
            exact fin2 ⟨fx, by show rg y < _; omega⟩
          rw [if_neg (fun k => ix (h3.1 k)), f, bind_go, if_pos (g3.2 iy)]
          unfold Ieee.Format.add
          rw [om_read x fx, read_inf y iy]
          show _ = some (ofB (some (D.write (.infinity (sg y)))))
          rw [inf_word y hy iy]
def flip (y : Nat) : Nat := if 9223372036854775808 ≤ y then y - 9223372036854775808 else y + 9223372036854775808
theorem flip_is (y : Nat) (hy : y < 18446744073709551616) : rg (flip y) = rg y ∧ sg (flip y) = !sg y ∧ flip y < 18446744073709551616 := by
  unfold flip rg sg
  by_cases h : 9223372036854775808 ≤ y
  · rw [if_pos h]
    refine ⟨by omega, ?_, by omega⟩
    rw [show (y - 9223372036854775808) / 9223372036854775808 % 2 = 0 by omega, show y / 9223372036854775808 % 2 = 1 by omega]; rfl
  · rw [if_neg h]
    refine ⟨by omega, ?_, by omega⟩
    rw [show (y + 9223372036854775808) / 9223372036854775808 % 2 = 1 by omega, show y / 9223372036854775808 % 2 = 0 by omega]; rfl
theorem sub_flip (x y : Nat) (hy : y < 18446744073709551616) (ny : ¬ 9218868437227405312 < rg y) : D.sub x y = D.add x (flip y) := by
  obtain ⟨f1, f2, f3⟩ := flip_is y hy
  unfold Ieee.Format.sub Ieee.Format.add
  congr 2
  by_cases fy : fin y
  · have fy2 : fin (flip y) := by show rg (flip y) < _; rw [f1]; exact fy
    rw [om_read y fy, om_read (flip y) fy2, f2]
    unfold om oj
    rw [f1]; rfl
  · have fy' : ¬ rg y < 9218868437227405312 := fy
    rw [read_inf y (by omega), read_inf (flip y) (by omega), f2]; rfl
theorem nan_sub2 (x y : Nat) (h : 9218868437227405312 < rg y) : D.sub x y = none := by
  unfold Ieee.Format.sub
  rw [read_nan y h]
  cases D.read x <;> rfl
theorem norm_gen (L : Nat → Int → Int → Option (Int × Int)) (hL : ∀ n a b, L (n + 1) a b = if a < (4503599627370496 : Int) then L n (IntKind.wrap .u64 ((2 : Int) * a)) (IntKind.wrap .i64 (b - (1 : Int))) else some (a, b)) : ∀ (d n M : Nat) (E : Int), d < n → M < 9007199254740992 → 4503599627370496 ≤ M * 2 ^ d → d < 1000 → -100000 + (d : Int) < E → E < 100000 → ∃ i : Nat, i ≤ d ∧ L n (M : Int) E = some (((M * 2 ^ i : Nat) : Int), E - i) ∧ 4503599627370496 ≤ M * 2 ^ i ∧ M * 2 ^ i < 9007199254740992 := by
  intro d
  induction d with
  | zero =>
    intro n M E hn hM hb hd h1 h2
    obtain ⟨q, rfl⟩ := fuel_step hn
    rw [Nat.pow_zero, Nat.mul_one] at hb
    refine ⟨0, by omega, ?_, by rw [Nat.pow_zero]; omega, by rw [Nat.pow_zero]; omega⟩
    rw [hL, if_neg (by omega), Nat.pow_zero, Nat.mul_one, show E - ((0 : Nat) : Int) = E by omega]
  | succ d ih =>
    intro n M E hn hM hb hd h1 h2
    obtain ⟨q, rfl⟩ := fuel_step hn
    by_cases c : 4503599627370496 ≤ M
    · refine ⟨0, by omega, ?_, by rw [Nat.pow_zero]; omega, by rw [Nat.pow_zero]; omega⟩
      rw [hL, if_neg (by omega), Nat.pow_zero, Nat.mul_one, show E - ((0 : Nat) : Int) = E by omega]
    · have e1 : IntKind.wrap .u64 ((2 : Int) * (M : Int)) = ((M * 2 : Nat) : Int) := by rw [wu64_id (by omega)]; omega
      have e2 : IntKind.wrap .i64 (E - 1) = E - 1 := wi64 (by omega) (by omega)
      rw [Nat.pow_succ, Nat.mul_comm (2 ^ d), ← Nat.mul_assoc] at hb
      obtain ⟨i, hi, e, b1, b2⟩ := ih q (M * 2) (E - 1) (by omega) (by omega) hb (by omega) (by omega) (by omega)
      have e3 : M * 2 ^ (i + 1) = M * 2 * 2 ^ i := by rw [Nat.pow_succ, Nat.mul_assoc, Nat.mul_comm 2]
      refine ⟨i + 1, by omega, ?_, by rw [e3]; exact b1, by rw [e3]; exact b2⟩
      rw [hL, if_pos (by omega), e1, e2, e, e3, show E - 1 - (i : Int) = E - ((i + 1 : Nat) : Int) by omega]
theorem norm_one {M : Nat} (h : M ≠ 0) : 4503599627370496 ≤ M * 2 ^ 52 := by
  have : 1 * 2 ^ 52 ≤ M * 2 ^ 52 := Nat.mul_le_mul_right _ (by omega)
  omega
theorem nearest_rg' (s : Bool) (m : Nat) (p : Int) : rg (D.nearest s m p) ≤ 9218868437227405312 := by
  rw [nearest_eq]
  split
  · rw [(rg_word s 0 (by omega)).1]; omega
  · rw [(rg_word s _ (by omega)).1]; omega
theorem sign_xor (s t : Bool) : (!(s == t)) = (s ^^ t) := by cases s <;> cases t <;> rfl
theorem prod_lt {a b c d : Nat} (h1 : a < c) (h2 : b < d) : a * b < c * d := Nat.mul_lt_mul'' h1 h2
theorem Product_eq (a b : Nat) (ha : a < 9007199254740992) (hb : b < 9007199254740992) : halterref02_Product.f (a : Int) (b : Int) = some (((a * b / 18014398509481984 : Nat) : Int), ((a * b % 18014398509481984 : Nat) : Int)) := by
  have d1 : IntKind.wrap .u64 (Int.tdiv (a : Int) 134217728) = ((a / 134217728 : Nat) : Int) := by rw [Int.tdiv_eq_ediv_of_nonneg (by omega), wu64_id (by omega)]; omega
  have d2 : IntKind.wrap .u64 (Int.tdiv (b : Int) 134217728) = ((b / 134217728 : Nat) : Int) := by rw [Int.tdiv_eq_ediv_of_nonneg (by omega), wu64_id (by omega)]; omega
  have m1 : Int.tmod (a : Int) 134217728 = ((a % 134217728 : Nat) : Int) := by rw [Int.tmod_eq_emod_of_nonneg (by omega)]; omega
  have m2 : Int.tmod (b : Int) 134217728 = ((b % 134217728 : Nat) : Int) := by rw [Int.tmod_eq_emod_of_nonneg (by omega)]; omega
  unfold halterref02_Product.f
  rw [d1, d2, m1, m2]
  have ea : a = 134217728 * (a / 134217728) + a % 134217728 := by omega
  have eb : b = 134217728 * (b / 134217728) + b % 134217728 := by omega
  have ba : a / 134217728 < 67108864 := by omega
  have bb : b / 134217728 < 67108864 := by omega
  have ca : a % 134217728 < 134217728 := by omega
  have cb : b % 134217728 < 134217728 := by omega
  have eab : a * b = (134217728 * (a / 134217728) + a % 134217728) * (134217728 * (b / 134217728) + b % 134217728) := by rw [← ea, ← eb]
  generalize a / 134217728 = a1 at *
  generalize b / 134217728 = b1 at *
  generalize a % 134217728 = a0 at *
  generalize b % 134217728 = b0 at *
  have p11 := prod_lt ba bb
  have p10 := prod_lt ba cb
  have p01 := prod_lt ca bb
  have p00 := prod_lt ca cb
  have ex : a * b = 18014398509481984 * (a1 * b1) + 134217728 * (a1 * b0 + a0 * b1) + a0 * b0 := by
    rw [eab, Nat.add_mul, Nat.mul_add, Nat.mul_add]
    have t1 : 134217728 * a1 * (134217728 * b1) = 18014398509481984 * (a1 * b1) := by rw [Nat.mul_mul_mul_comm]
    have t2 : 134217728 * a1 * b0 = 134217728 * (a1 * b0) := Nat.mul_assoc _ _ _
    have t3 : a0 * (134217728 * b1) = 134217728 * (a0 * b1) := Nat.mul_left_comm _ _ _
    rw [t1, t2, t3]; omega
  have c11 : (a1 : Int) * (b1 : Int) = ((a1 * b1 : Nat) : Int) := (Int.natCast_mul _ _).symm
  have c10 : (a1 : Int) * (b0 : Int) = ((a1 * b0 : Nat) : Int) := (Int.natCast_mul _ _).symm
  have c01 : (a0 : Int) * (b1 : Int) = ((a0 * b1 : Nat) : Int) := (Int.natCast_mul _ _).symm
  have c00 : (a0 : Int) * (b0 : Int) = ((a0 * b0 : Nat) : Int) := (Int.natCast_mul _ _).symm
  rw [c11, c10, c01, c00, ex]
  clear ea eb eab ex c11 c10 c01 c00 d1 d2 m1 m2
  generalize a1 * b1 = x11 at *
  generalize a1 * b0 = x10 at *
  generalize a0 * b1 = x01 at *
  generalize a0 * b0 = x00 at *
  have w0 : IntKind.wrap .u64 (x00 : Int) = (x00 : Int) := wu64_id (by omega)
  have w1 : IntKind.wrap .u64 (x10 : Int) = (x10 : Int) := wu64_id (by omega)
  have w2 : IntKind.wrap .u64 (x01 : Int) = (x01 : Int) := wu64_id (by omega)
  have w3 : IntKind.wrap .u64 (x11 : Int) = (x11 : Int) := wu64_id (by omega)
  have w4 : IntKind.wrap .u64 ((x10 : Int) + (x01 : Int)) = ((x10 + x01 : Nat) : Int) := by rw [wu64_id (by omega)]; omega
  have w5 : IntKind.wrap .u64 (Int.tdiv (x00 : Int) 134217728) = ((x00 / 134217728 : Nat) : Int) := by rw [Int.tdiv_eq_ediv_of_nonneg (by omega), wu64_id (by omega)]; omega
  have w6 : IntKind.wrap .u64 (((x10 + x01 : Nat) : Int) + ((x00 / 134217728 : Nat) : Int)) = ((x10 + x01 + x00 / 134217728 : Nat) : Int) := by rw [wu64_id (by omega)]; omega
  rw [w0, w1, w2, w3, w4, w5, w6]
  have w7 : IntKind.wrap .u64 (Int.tdiv ((x10 + x01 + x00 / 134217728 : Nat) : Int) 134217728) = (((x10 + x01 + x00 / 134217728) / 134217728 : Nat) : Int) := by rw [Int.tdiv_eq_ediv_of_nonneg (by omega), wu64_id (by omega)]; omega
  have w8 : IntKind.wrap .u64 ((x11 : Int) + (((x10 + x01 + x00 / 134217728) / 134217728 : Nat) : Int)) = ((x11 + (x10 + x01 + x00 / 134217728) / 134217728 : Nat) : Int) := by rw [wu64_id (by omega)]; omega
  have w9 : IntKind.wrap .u64 (Int.tmod ((x10 + x01 + x00 / 134217728 : Nat) : Int) 134217728 * 134217728) = (((x10 + x01 + x00 / 134217728) % 134217728 * 134217728 : Nat) : Int) := by rw [Int.tmod_eq_emod_of_nonneg (by omega), wu64_id (by omega)]; omega
  have w10 : IntKind.wrap .u64 ((((x10 + x01 + x00 / 134217728) % 134217728 * 134217728 : Nat) : Int) + Int.tmod (x00 : Int) 134217728) = (((x10 + x01 + x00 / 134217728) % 134217728 * 134217728 + x00 % 134217728 : Nat) : Int) := by rw [Int.tmod_eq_emod_of_nonneg (by omega), wu64_id (by omega)]; omega
  rw [w7, w8, w9, w10]
  have g1 : x11 + (x10 + x01 + x00 / 134217728) / 134217728 = (18014398509481984 * x11 + 134217728 * (x10 + x01) + x00) / 18014398509481984 := by omega
  have g2 : (x10 + x01 + x00 / 134217728) % 134217728 * 134217728 + x00 % 134217728 = (18014398509481984 * x11 + 134217728 * (x10 + x01) + x00) % 18014398509481984 := by omega
  rw [g1, g2]
theorem mul_core (M1 : Nat → Int → Int → Option (Int × Int)) (s : Bool) (m n i j : Nat) (hm : m < 9007199254740992) (hn : n < 9007199254740992) (m0 : m ≠ 0) (n0 : n ≠ 0) (hi : i ≤ 2045) (hj : j ≤ 2045)
    (h1 : ∀ n a b, M1 (n + 1) a b = if a < (4503599627370496 : Int) then M1 n (IntKind.wrap .u64 ((2 : Int) * a)) (IntKind.wrap .i64 (b - (1 : Int))) else some (a, b))
    (K : Int × Int → Nat → Int → Int → Option (Int × Int)) (h2 : ∀ t n a b, K t (n + 1) a b = if a < (4503599627370496 : Int) then K t n (IntKind.wrap .u64 ((2 : Int) * a)) (IntKind.wrap .i64 (b - (1 : Int))) else some (a, b)) :
    ((M1 FUEL (m : Int) ((i : Int) - 1074)).bind fun t149 =>
      (K t149 FUEL (n : Int) ((j : Int) - 1074)).bind fun t161 =>
      (halterref02_Product.f t149.1 t161.1).bind fun t167 =>
      (halterref02_Round.f s (IntKind.wrap .u64 ((IntKind.wrap .u64 ((256 : Int) * t167.1)) + (IntKind.wrap .u64 (Int.tdiv t167.2 (70368744177664 : Int))))) (IntKind.wrap .i64 ((IntKind.wrap .i64 (t149.2 + t161.2)) + (46 : Int))) (decide ((Int.tmod t167.2 (70368744177664 : Int)) > (0 : Int)))).bind fun t168 =>
      some t168) = some ((D.nearest s (m * n) ((i : Int) - 1074 + ((j : Int) - 1074)) : Nat) : Int) := by
  obtain ⟨k, hk, e1, b1, b2⟩ := norm_gen M1 h1 52 FUEL m ((i : Int) - 1074) (fuel_gt (by omega)) hm (norm_one m0) (by omega) (by omega) (by omega)
  obtain ⟨l, hl, e2, c1, c2⟩ := norm_gen (K (((m * 2 ^ k : Nat) : Int), (i : Int) - 1074 - k)) (h2 _) 52 FUEL n ((j : Int) - 1074) (fuel_gt (by omega)) hn (norm_one n0) (by omega) (by omega) (by omega)
  rw [e1, bind_go, e2, bind_go]
  dsimp only
  rw [Product_eq _ _ b2 c2, bind_go]
  dsimp only
  have ep : m * 2 ^ k * (n * 2 ^ l) = m * n * 2 ^ (k + l) := by rw [Nat.pow_add, Nat.mul_mul_mul_comm]
  have sc := nearest_scale s (m * n) (k + l) ((i : Int) - 1074 + ((j : Int) - 1074))
  rw [← ep] at sc
  have lo : 4503599627370496 * 4503599627370496 ≤ m * 2 ^ k * (n * 2 ^ l) := Nat.mul_le_mul b1 c1
  have hi' := prod_lt b2 c2
  generalize m * 2 ^ k * (n * 2 ^ l) = N at *
  have e3 : IntKind.wrap .u64 (IntKind.wrap .u64 (256 * ((N / 18014398509481984 : Nat) : Int)) + IntKind.wrap .u64 (Int.tdiv ((N % 18014398509481984 : Nat) : Int) 70368744177664)) = ((N / 70368744177664 : Nat) : Int) := by
    rw [Int.tdiv_eq_ediv_of_nonneg (by omega), wu64_id (x := 256 * _) (by omega), wu64_id (x := _ / _) (by omega), wu64_id (by omega)]; omega
  have e4 : IntKind.wrap .i64 (IntKind.wrap .i64 ((i : Int) - 1074 - (k : Int) + ((j : Int) - 1074 - (l : Int))) + 46) = (i : Int) - 1074 + ((j : Int) - 1074) - ((k + l : Nat) : Int) + ((46 : Nat) : Int) := by
    rw [wi64 (x := _ + (_ - (l : Int))) (by omega) (by omega), wi64 (by omega) (by omega)]; omega
  have e5 : decide (Int.tmod ((N % 18014398509481984 : Nat) : Int) 70368744177664 > 0) = decide (N % 2 ^ 46 ≠ 0) := by
    rw [Int.tmod_eq_emod_of_nonneg (by omega), decide_eq_decide, show (2 : Nat) ^ 46 = 70368744177664 from rfl]; omega
  have cut := nearest_cut s N 46 ((i : Int) - 1074 + ((j : Int) - 1074) - ((k + l : Nat) : Int)) (Or.inr (by rw [show (2 : Nat) ^ 46 = 70368744177664 from rfl]; omega))
  rw [e3, e4, e5, Round_eq s (N / 70368744177664) _ _ (by omega) (by omega) (by omega) (fun _ => by omega), bind_go]
  rw [show (2 : Nat) ^ 46 = 70368744177664 from rfl] at cut ⊢
  rw [cut, sc]
theorem zero_word (s : Bool) : ofB (some (D.nearest s 0 0)) = ((wordN s 0 : Nat) : Int) := by
  rw [ofB_some _ (nearest_rg' s 0 0), nearest_eq, if_pos rfl]
theorem nearest_nil (s : Bool) (p : Int) : D.nearest s 0 p = wordN s 0 := by rw [nearest_eq, if_pos rfl]
theorem inf_write (s : Bool) : ofB (some (D.write (.infinity s))) = ((wordN s 9218868437227405312 : Nat) : Int) := by
  have e : D.write (.infinity s) = wordN s 9218868437227405312 := by show D.word s D.infRung = _; rw [word_eq, D_inf]
  rw [e, ofB_some _ (by rw [(rg_word s _ (by omega)).1]; omega)]
theorem rsig_inf (s : Bool) : halterref02_signed.f s (9218868437227405312 : Int) = some ((wordN s 9218868437227405312 : Nat) : Int) := rsigned_eq s 9218868437227405312 (by omega)
theorem rsig_zero (s : Bool) : halterref02_signed.f s (0 : Int) = some ((wordN s 0 : Nat) : Int) := rsigned_eq s 0 (by omega)
theorem kinds (x : Nat) (hx : x < 18446744073709551616) (nx : ¬ 9218868437227405312 < rg x) : ∃ c : Int, halterref02_Class.f (x : Int) = some c ∧ ((c = 3 ∧ D.read x = .infinity (sg x) ∧ rg x = 9218868437227405312) ∨ (c = 0 ∧ fin x ∧ om x = 0 ∧ rg x = 0) ∨ (¬ c = 3 ∧ ¬ c = 0 ∧ ¬ c = 4 ∧ fin x ∧ om x ≠ 0)) := by
  obtain ⟨c, e, h4, h0, h3⟩ := rclass4 x hx
  refine ⟨c, e, ?_⟩
  by_cases i : rg x = 9218868437227405312
  · exact Or.inl ⟨h3.2 i, read_inf x i, i⟩
  · by_cases z : rg x = 0
    · exact Or.inr (Or.inl ⟨h0.2 z, by show rg x < _; omega, (om_zero x).2 z, z⟩)
    · exact Or.inr (Or.inr ⟨fun k => i (h3.1 k), fun k => z (h0.1 k), fun k => nx (h4.1 k), by show rg x < _; omega, fun k => z ((om_zero x).1 k)⟩)
theorem c30 {c : Int} (h : c = 0) : ¬ c = 3 := by omega
theorem c03 {c : Int} (h : c = 3) : ¬ c = 0 := by omega
theorem Mul_both (x y : Nat) (hx : x < 18446744073709551616) (hy : y < 18446744073709551616) : halterref02_Mul.f (x : Int) (y : Int) = some (ofB (D.mul x y)) := by
  unfold halterref02_Mul.f
  rw [neg_eq x hx, bind_go, neg_eq y hy, bind_go, rnone_eq x y hx hy, bind_go]
  by_cases nx : 9218868437227405312 < rg x
  · rw [decide_eq_true nx, Bool.true_or, if_pos rfl, nan_mul x y nx, ofB_none]
  by_cases ny : 9218868437227405312 < rg y
  · rw [decide_eq_true ny, Bool.or_true, if_pos rfl, mul_comm', nan_mul y x ny, ofB_none]
  rw [decide_eq_false nx, decide_eq_false ny, if_neg (show ¬ ((false || false) = true) by simp), sign_xor]
  obtain ⟨c, e, hc⟩ := kinds x hx nx
  obtain ⟨d, f, hd⟩ := kinds y hy ny
  rw [e, f]
  simp only [bind_go]
  unfold Ieee.Format.mul
  rcases hc with ⟨c3, rx, _⟩ | ⟨c0, fx, ox, _⟩ | ⟨c3, c0, _, fx, ox⟩
  · rw [if_pos c3, rx]
    rcases hd with ⟨d3, ry, _⟩ | ⟨d0, fy, oy, _⟩ | ⟨d3, d0, _, fy, oy⟩
    · rw [if_neg (c03 d3), if_neg (c03 c3), if_pos c3, rsig_inf, bind_go, ry]
      show _ = some (ofB (some (D.write (.infinity (sg x ^^ sg y)))))
      rw [inf_write]
    · rw [if_pos d0, om_read y fy, oy]; rfl
    · rw [if_neg d0, if_neg (c03 c3), if_pos c3, rsig_inf, bind_go, om_read y fy]
      show _ = some (ofB ((if om y = 0 then none else some (Ieee.Datum.infinity (sg x ^^ sg y))).map D.write))
      rw [if_neg oy]
      show _ = some (ofB (some (D.write (.infinity (sg x ^^ sg y)))))
      rw [inf_write]
  · rw [if_neg (c30 c0), if_pos c0, om_read x fx, ox]
    rcases hd with ⟨d3, ry, _⟩ | ⟨d0, fy, oy, _⟩ | ⟨d3, d0, _, fy, oy⟩
    · rw [if_pos d3, ry]; rfl
    · rw [if_neg (c30 d0), if_neg (c30 c0), if_neg (c30 d0), open_eq x hx fx, open_eq y hy fy, bind_go, bind_go, ox]
      dsimp only
      rw [if_pos (show ((0 : Nat) : Int) = 0 from rfl), rsig_zero, bind_go, om_read y fy]
      show _ = some (ofB (some (D.nearest (sg x ^^ sg y) (0 * om y) _)))
      rw [Nat.zero_mul, ofB_some _ (nearest_rg' _ _ _), nearest_nil]
    · rw [if_neg d3, if_neg (c30 c0), if_neg d3, open_eq x hx fx, open_eq y hy fy, bind_go, bind_go, ox]
      dsimp only
      rw [if_pos (show ((0 : Nat) : Int) = 0 from rfl), rsig_zero, bind_go, om_read y fy]
      show _ = some (ofB (some (D.nearest (sg x ^^ sg y) (0 * om y) _)))
      rw [Nat.zero_mul, ofB_some _ (nearest_rg' _ _ _), nearest_nil]
  · rw [if_neg c3, if_neg c0, if_neg c3, om_read x fx]
    rcases hd with ⟨d3, ry, _⟩ | ⟨d0, fy, oy, _⟩ | ⟨d3, d0, _, fy, oy⟩
    · rw [if_pos d3, rsig_inf, bind_go, ry]
      show _ = some (ofB ((if om x = 0 then none else some (Ieee.Datum.infinity (sg y ^^ sg x))).map D.write))
      rw [if_neg ox]
      show _ = some (ofB (some (D.write (.infinity (sg y ^^ sg x)))))
      rw [inf_write, Bool.xor_comm]
    · rw [if_neg (c30 d0), open_eq x hx fx, open_eq y hy fy, bind_go, bind_go, oy]
      dsimp only
      rw [if_neg (show ¬ (om x : Int) = 0 by omega), if_pos (show ((0 : Nat) : Int) = 0 from rfl), rsig_zero, bind_go, om_read y fy, oy]
      show _ = some (ofB (some (D.nearest (sg x ^^ sg y) (om x * 0) _)))
      rw [Nat.mul_zero, ofB_some _ (nearest_rg' _ _ _), nearest_nil]
    · rw [if_neg d3, open_eq x hx fx, open_eq y hy fy, bind_go, bind_go]
      dsimp only
      rw [if_neg (show ¬ (om x : Int) = 0 by omega), if_neg (show ¬ (om y : Int) = 0 by omega), om_read y fy]
      show _ = some (ofB (some (D.nearest (sg x ^^ sg y) (om x * om y) _)))
      rw [ofB_some _ (nearest_rg' _ _ _)]
      exact mul_core (halterref02_Mul.l6 (sg x) (sg y) _ _) (sg x ^^ sg y) (om x) (om y) (oj x) (oj y) (om_lt x) (om_lt y) ox oy (oj_le x fx) (oj_le y fy) (fun n a b => by rw [halterref02_Mul.l6]) (halterref02_Mul.l7 (sg x) (sg y) _ _) (fun t n a b => by rw [halterref02_Mul.l7])
theorem nearest_bit (s : Bool) (Q : Nat) (b : Bool) (p : Int) (hQ : 9007199254740992 ≤ Q) : D.nearest s (2 * Q + b.toNat) (p - 1) = D.nearest s (4 * Q + b.toNat) (p - 2) := by
  have hb : b.toNat ≤ 1 := by cases b <;> decide
  have e1 : (2 * Q + b.toNat) / 2 ^ 1 = Q := by omega
  have h := nearest_sticky s (2 * Q + b.toNat) 1 false (p - 1) (by rw [e1]; exact hQ)
  have e2 : (decide ((2 * Q + b.toNat) % 2 ^ 1 ≠ 0) || false) = b := by
    cases b
    · rw [Bool.or_false, decide_eq_false (by simp)]
    · rw [Bool.or_false, decide_eq_true (by simp only [Bool.toNat_true]; omega)]
  have sc := nearest_scale s (2 * Q + b.toNat) 2 (p - 1)
  rw [e1, e2, show p - 1 + ((1 : Nat) : Int) - 2 = p - 2 by omega, show false.toNat = 0 from rfl, Nat.add_zero] at h
  rw [← h, ← sc, show (2 * Q + b.toNat) * 2 ^ 2 = 4 * (2 * Q + b.toNat) by omega]; rfl
theorem quo_step (A n j : Nat) (hn : 0 < n) : A * 2 ^ j / n / 2 ^ j = A / n ∧ (decide (A * 2 ^ j / n % 2 ^ j ≠ 0) || decide (A * 2 ^ j % n ≠ 0)) = decide (A % n ≠ 0) := by
  have hp := Nat.two_pow_pos j
  have g1 : A * 2 ^ j / n / 2 ^ j = A / n := by rw [Nat.div_div_eq_div_mul, Nat.mul_div_mul_right _ _ hp]
  refine ⟨g1, ?_⟩
  have a1 : n * (A / n) + A % n = A := Nat.div_add_mod _ _
  have a2 : n * (A * 2 ^ j / n) + A * 2 ^ j % n = A * 2 ^ j := Nat.div_add_mod _ _
  have a3 : 2 ^ j * (A * 2 ^ j / n / 2 ^ j) + A * 2 ^ j / n % 2 ^ j = A * 2 ^ j / n := Nat.div_add_mod _ _
  rw [g1] at a3
  generalize A * 2 ^ j / n % 2 ^ j = r at *
  generalize A * 2 ^ j / n = Q at *
  generalize A * 2 ^ j % n = t at *
  generalize A / n = q at *
  generalize hP : 2 ^ j = P at *
  have b1 : n * Q = n * (P * q) + n * r := by rw [← a3, Nat.mul_add]
  have b2 : A * P = n * (P * q) + A % n * P := by
    conv => lhs; rw [← a1]
    rw [Nat.add_mul, Nat.mul_assoc, Nat.mul_comm q P]
  have b3 : n * r + t = A % n * P := by omega
  generalize A % n = u at *
  rw [Bool.eq_iff_iff, Bool.or_eq_true, decide_eq_true_eq, decide_eq_true_eq, decide_eq_true_eq]
  constructor
  · intro h hu
    subst hu
    rw [Nat.zero_mul] at b3
    have t0 : t = 0 := by omega
    have r0 : n * r = 0 := by omega
    rcases Nat.mul_eq_zero.1 r0 with k | k
    · omega
    · rcases h with h | h
      · exact h k
      · exact h t0
  · intro hu
    apply Classical.byContradiction
    intro h
    have r0 : r = 0 := by omega
    have t0 : t = 0 := by omega
    rw [r0, t0, Nat.mul_zero] at b3
    rcases Nat.mul_eq_zero.1 (show u * P = 0 by omega) with k | k
    · exact hu k
    · omega
theorem nearest_quo (s : Bool) (m n c j : Nat) (p : Int) (hn : 0 < n) (h : 9007199254740992 ≤ m * 2 ^ c / n) : D.nearest s (4 * (m * 2 ^ (c + j) / n) + (decide (m * 2 ^ (c + j) % n ≠ 0)).toNat) (p - ((c + j : Nat) : Int) - 2) = D.nearest s (4 * (m * 2 ^ c / n) + (decide (m * 2 ^ c % n ≠ 0)).toNat) (p - (c : Int) - 2) := by
  obtain ⟨g1, g2⟩ := quo_step (m * 2 ^ c) n j hn
  have e : m * 2 ^ (c + j) = m * 2 ^ c * 2 ^ j := by rw [Nat.pow_add, Nat.mul_assoc]
  rw [e, nearest_sticky s _ j _ (p - ((c + j : Nat) : Int)) (by rw [g1]; exact h), g1, g2]
  congr 1; omega
theorem nearest_quo2 (s : Bool) (m n c d : Nat) (p : Int) (hn : 0 < n) (h : 9007199254740992 ≤ m * 2 ^ c / n) (h' : 9007199254740992 ≤ m * 2 ^ d / n) : D.nearest s (4 * (m * 2 ^ c / n) + (decide (m * 2 ^ c % n ≠ 0)).toNat) (p - (c : Int) - 2) = D.nearest s (4 * (m * 2 ^ d / n) + (decide (m * 2 ^ d % n ≠ 0)).toNat) (p - (d : Int) - 2) := by
  rcases Nat.le_total c d with g | g
  · obtain ⟨j, rfl⟩ := Nat.exists_eq_add_of_le g
    rw [nearest_quo s m n c j p hn h]
  · obtain ⟨j, rfl⟩ := Nat.exists_eq_add_of_le g
    rw [nearest_quo s m n d j p hn h']
theorem div_word (x y : Nat) (fx : fin x) (fy : fin y) (ox : om x ≠ 0) (oy : om y ≠ 0) (c : Nat) (hc : 9007199254740992 ≤ om x * 2 ^ c / om y) : D.div x y = some (D.nearest (sg x ^^ sg y) (4 * (om x * 2 ^ c / om y) + (decide (om x * 2 ^ c % om y ≠ 0)).toNat) ((oj x : Int) - 1074 - ((oj y : Int) - 1074) - (c : Int) - 2)) := by
  have lx := om_lt x
  have hl : (om x).log2 < 53 := (Nat.log2_lt ox).2 lx
  unfold Ieee.Format.div
  rw [om_read x fx, om_read y fy]
  unfold Ieee.Datum.quotient
  dsimp only
  rw [if_neg oy, D_frac, Nat.shiftLeft_eq]
  obtain ⟨d, hd⟩ : ∃ d, 52 + 2 + (om y).log2 - (om x).log2 = d := ⟨_, rfl⟩
  rw [hd]
  have hd1 : (om x).log2 + d = 54 + (om y).log2 := by omega
  have h1 := Nat.log2_self_le ox
  have h2 : om y < 2 ^ ((om y).log2 + 1) := Nat.lt_log2_self
  have h3 : 2 ^ (om x).log2 * 2 ^ d ≤ om x * 2 ^ d := Nat.mul_le_mul_right _ h1
  rw [← Nat.pow_add, hd1] at h3
  have h4 : 2 ^ (54 + (om y).log2) = 9007199254740992 * 2 ^ ((om y).log2 + 1) := by rw [show 54 + (om y).log2 = 53 + ((om y).log2 + 1) by omega, Nat.pow_add]
  have h5 : 9007199254740992 * om y ≤ 9007199254740992 * 2 ^ ((om y).log2 + 1) := Nat.mul_le_mul_left _ (by omega)
  have hbig : 9007199254740992 ≤ om x * 2 ^ d / om y := (Nat.le_div_iff_mul_le (by omega)).2 (by omega)
  show some (D.nearest (sg x ^^ sg y) (2 * (om x * 2 ^ d / om y) + (om x * 2 ^ d % om y != 0).toNat) ((oj x : Int) - 1074 - ((oj y : Int) - 1074) - (d : Int) - 1)) = _
  have e0 : (om x * 2 ^ d % om y != 0) = decide (om x * 2 ^ d % om y ≠ 0) := by
    rw [Bool.eq_iff_iff, bne_iff_ne, decide_eq_true_eq]
  rw [e0, nearest_bit _ _ _ _ hbig, nearest_quo2 (sg x ^^ sg y) (om x) (om y) d c _ (by omega) hbig hc]
theorem quo_gen (L : Nat → Int → Int → Int → Option (Int × Int)) (X Y : Nat) (hY : 4503599627370496 ≤ Y) (hY2 : Y < 9007199254740992) (hX : X < 9007199254740992)
    (hL : ∀ n a b c, L (n + 1) a b c = if c < (60 : Int) then if (Y : Int) ≠ 0 then if (Y : Int) ≠ 0 then L n (IntKind.wrap .u64 ((IntKind.wrap .u64 ((2 : Int) * a)) + (IntKind.wrap .u64 (Int.tdiv (IntKind.wrap .u64 ((2 : Int) * b)) (Y : Int))))) (Int.tmod (IntKind.wrap .u64 ((2 : Int) * b)) (Y : Int)) (IntKind.wrap .i64 (c + (1 : Int))) else none else none else some (a, b)) :
    ∀ (d n i : Nat), i + d = 60 → d < n → L n ((X * 2 ^ i / Y : Nat) : Int) ((X * 2 ^ i % Y : Nat) : Int) (i : Int) = some (((X * 2 ^ 60 / Y : Nat) : Int), ((X * 2 ^ 60 % Y : Nat) : Int)) := by
  intro d
  induction d with
  | zero =>
    intro n i hi hn
    obtain ⟨q, rfl⟩ := fuel_step hn
    have : i = 60 := by omega
    subst this
    rw [hL, if_neg (by omega)]
  | succ d ih =>
    intro n i hi hn
    obtain ⟨q, rfl⟩ := fuel_step hn
    have hdm : Y * (X * 2 ^ i / Y) + X * 2 ^ i % Y = X * 2 ^ i := Nat.div_add_mod _ _
    have hm := Nat.mod_lt (X * 2 ^ i) (show 0 < Y by omega)
    have hq : X * 2 ^ i / Y < 2 ^ (i + 1) := by
      rw [Nat.div_lt_iff_lt_mul (by omega), Nat.pow_succ]
      have hp := Nat.two_pow_pos i
      have t1 : X * 2 ^ i < 9007199254740992 * 2 ^ i := (Nat.mul_lt_mul_right hp).2 hX
      have t2 : 2 ^ i * 2 * 4503599627370496 ≤ 2 ^ i * 2 * Y := Nat.mul_le_mul_left _ hY
      omega
    have hq2 : (2 : Nat) ^ (i + 1) ≤ 2 ^ 60 := Nat.pow_le_pow_right (by omega) (by omega)
    have nx : X * 2 ^ (i + 1) = 2 * (X * 2 ^ i) := by rw [Nat.pow_succ, ← Nat.mul_assoc, Nat.mul_comm]
    have hr2 : 2 * (X * 2 ^ i % Y) / Y ≤ 1 := by
      have : 2 * (X * 2 ^ i % Y) / Y < 2 := by rw [Nat.div_lt_iff_lt_mul (by omega)]; omega
      omega
    have hdm2 : Y * (2 * (X * 2 ^ i % Y) / Y) + 2 * (X * 2 ^ i % Y) % Y = 2 * (X * 2 ^ i % Y) := Nat.div_add_mod _ _
    have hm2 := Nat.mod_lt (2 * (X * 2 ^ i % Y)) (show 0 < Y by omega)
    have nd : X * 2 ^ (i + 1) / Y = 2 * (X * 2 ^ i / Y) + 2 * (X * 2 ^ i % Y) / Y ∧ X * 2 ^ (i + 1) % Y = 2 * (X * 2 ^ i % Y) % Y := by
      refine divmod_is ?_ hm2
      rw [nx, Nat.mul_add, Nat.mul_left_comm]; omega
    have key := ih q (i + 1) (by omega) (by omega)
    rw [nd.1, nd.2] at key
    generalize X * 2 ^ i / Y = Q at *
    generalize X * 2 ^ i % Y = R at *
    have e1 : IntKind.wrap .u64 ((2 : Int) * (R : Int)) = ((2 * R : Nat) : Int) := by rw [wu64_id (by omega)]; omega
    have e2 : IntKind.wrap .u64 ((2 : Int) * (Q : Int)) = ((2 * Q : Nat) : Int) := by rw [wu64_id (by omega)]; omega
    have e3 : Int.tmod ((2 * R : Nat) : Int) (Y : Int) = ((2 * R % Y : Nat) : Int) := by rw [Int.tmod_eq_emod_of_nonneg (by omega)]; exact (Int.natCast_emod _ _).symm
    have e4 : Int.tdiv ((2 * R : Nat) : Int) (Y : Int) = ((2 * R / Y : Nat) : Int) := by rw [Int.tdiv_eq_ediv_of_nonneg (by omega)]; exact (Int.natCast_ediv _ _).symm
    have e5 : IntKind.wrap .i64 ((i : Int) + 1) = ((i + 1 : Nat) : Int) := wsucc (by omega)
    rw [hL, if_pos (by omega), if_pos (by omega), if_pos (by omega), e1, e2, e3, e4, e5]
    generalize 2 * R / Y = u at *
    have e6 : IntKind.wrap .u64 (u : Int) = (u : Int) := wu64_id (by omega)
    have e7 : IntKind.wrap .u64 (((2 * Q : Nat) : Int) + (u : Int)) = ((2 * Q + u : Nat) : Int) := by rw [wu64_id (by omega)]; omega
    rw [e6, e7, key]
theorem div_core (M1 : Nat → Int → Int → Option (Int × Int)) (s : Bool) (m n i j : Nat) (hm : m < 9007199254740992) (hn : n < 9007199254740992) (m0 : m ≠ 0) (n0 : n ≠ 0) (hi : i ≤ 2045) (hj : j ≤ 2045)
    (h1 : ∀ n a b, M1 (n + 1) a b = if a < (4503599627370496 : Int) then M1 n (IntKind.wrap .u64 ((2 : Int) * a)) (IntKind.wrap .i64 (b - (1 : Int))) else some (a, b))
    (K : Int × Int → Nat → Int → Int → Option (Int × Int)) (h2 : ∀ t n a b, K t (n + 1) a b = if a < (4503599627370496 : Int) then K t n (IntKind.wrap .u64 ((2 : Int) * a)) (IntKind.wrap .i64 (b - (1 : Int))) else some (a, b))
    (L : Int × Int → Int × Int → Nat → Int → Int → Int → Option (Int × Int))
    (hL : ∀ t u n a b c, L t u (n + 1) a b c = if c < (60 : Int) then if u.1 ≠ 0 then if u.1 ≠ 0 then L t u n (IntKind.wrap .u64 ((IntKind.wrap .u64 ((2 : Int) * a)) + (IntKind.wrap .u64 (Int.tdiv (IntKind.wrap .u64 ((2 : Int) * b)) u.1)))) (Int.tmod (IntKind.wrap .u64 ((2 : Int) * b)) u.1) (IntKind.wrap .i64 (c + (1 : Int))) else none else none else some (a, b)) :
    ∃ c : Nat, 9007199254740992 ≤ m * 2 ^ c / n ∧ ((M1 FUEL (m : Int) ((i : Int) - 1074)).bind fun t208 =>
      (K t208 FUEL (n : Int) ((j : Int) - 1074)).bind fun t220 =>
      if t220.1 ≠ 0 then
        if t220.1 ≠ 0 then
          (L t208 t220 FUEL (IntKind.wrap .u64 (Int.tdiv t208.1 t220.1)) (Int.tmod t208.1 t220.1) (0 : Int)).bind fun t236 =>
          (halterref02_Round.f s t236.1 (IntKind.wrap .i64 ((IntKind.wrap .i64 (t208.2 - t220.2)) - (60 : Int))) (decide (t236.2 > (0 : Int)))).bind fun t244 =>
          some t244
        else none
      else none) = some ((D.nearest s (4 * (m * 2 ^ c / n) + (decide (m * 2 ^ c % n ≠ 0)).toNat) ((i : Int) - 1074 - ((j : Int) - 1074) - (c : Int) - 2) : Nat) : Int) := by
  obtain ⟨k, hk, e1, b1, b2⟩ := norm_gen M1 h1 52 FUEL m ((i : Int) - 1074) (fuel_gt (by omega)) hm (norm_one m0) (by omega) (by omega) (by omega)
  obtain ⟨l, hl, e2, c1, c2⟩ := norm_gen (K (((m * 2 ^ k : Nat) : Int), (i : Int) - 1074 - k)) (h2 _) 52 FUEL n ((j : Int) - 1074) (fuel_gt (by omega)) hn (norm_one n0) (by omega) (by omega) (by omega)
  have hp := Nat.two_pow_pos l
  have ee : m * 2 ^ k * 2 ^ 60 = m * 2 ^ (60 + k - l) * 2 ^ l := by rw [Nat.mul_assoc, Nat.mul_assoc, ← Nat.pow_add, ← Nat.pow_add]; congr 2; omega
  have q1 : m * 2 ^ k * 2 ^ 60 / (n * 2 ^ l) = m * 2 ^ (60 + k - l) / n := by rw [ee, Nat.mul_div_mul_right _ _ hp]
  have q2 : decide (m * 2 ^ k * 2 ^ 60 % (n * 2 ^ l) ≠ 0) = decide (m * 2 ^ (60 + k - l) % n ≠ 0) := by
    rw [ee, Nat.mul_mod_mul_right, decide_eq_decide]
    constructor
    · intro h z; rw [z, Nat.zero_mul] at h; exact h rfl
    · intro h z
      rcases Nat.mul_eq_zero.1 z with z | z
      · exact h z
      · omega
  have big : 9007199254740992 ≤ m * 2 ^ k * 2 ^ 60 / (n * 2 ^ l) := (Nat.le_div_iff_mul_le (by omega)).2 (by omega)
  have less : m * 2 ^ k * 2 ^ 60 / (n * 2 ^ l) < 18446744073709551616 := by rw [Nat.div_lt_iff_lt_mul (by omega)]; omega
  refine ⟨60 + k - l, by rw [← q1]; exact big, ?_⟩
  rw [e1, bind_go, e2, bind_go, ← q1, ← q2]
  dsimp only
  generalize hX : m * 2 ^ k = X at *
  generalize hY : n * 2 ^ l = Y at *
  have f1 : IntKind.wrap .u64 (Int.tdiv (X : Int) (Y : Int)) = ((X * 2 ^ 0 / Y : Nat) : Int) := by
    have : Int.tdiv (X : Int) (Y : Int) = ((X / Y : Nat) : Int) := by rw [Int.tdiv_eq_ediv_of_nonneg (by omega)]; exact (Int.natCast_ediv _ _).symm
    have hle : X / Y ≤ X := Nat.div_le_self _ _
    rw [this, Nat.pow_zero, Nat.mul_one]
    generalize X / Y = z at *
    exact wu64_id (by omega)
  have f2 : Int.tmod (X : Int) (Y : Int) = ((X * 2 ^ 0 % Y : Nat) : Int) := by
    rw [Int.tmod_eq_emod_of_nonneg (by omega), Nat.pow_zero, Nat.mul_one]; exact (Int.natCast_emod _ _).symm
  have QG := quo_gen (L ((X : Int), (i : Int) - 1074 - k) ((Y : Int), (j : Int) - 1074 - l)) X Y c1 c2 b2 (fun n a b c => hL _ _ n a b c) 60 FUEL 0 (by omega) (fuel_gt (by omega))
  rw [if_pos (by omega), if_pos (by omega), f1, f2, show (0 : Int) = ((0 : Nat) : Int) from rfl, QG, bind_go]
  dsimp only
  have f3 : IntKind.wrap .i64 (IntKind.wrap .i64 ((i : Int) - 1074 - (k : Int) - ((j : Int) - 1074 - (l : Int))) - 60) = (i : Int) - 1074 - ((j : Int) - 1074) - ((60 + k - l : Nat) : Int) := by
    rw [wi64 (x := _ - (_ - (l : Int))) (by omega) (by omega), wi64 (by omega) (by omega)]; omega
  have f4 : decide (((X * 2 ^ 60 % Y : Nat) : Int) > ((0 : Nat) : Int)) = decide (X * 2 ^ 60 % Y ≠ 0) := by
    generalize X * 2 ^ 60 % Y = z
    rw [decide_eq_decide]; omega
  rw [f3, f4, Round_eq s _ _ _ less (by omega) (by omega) (fun _ => by omega), bind_go]
theorem Div_both (x y : Nat) (hx : x < 18446744073709551616) (hy : y < 18446744073709551616) : halterref02_Div.f (x : Int) (y : Int) = some (ofB (D.div x y)) := by
  unfold halterref02_Div.f
  rw [neg_eq x hx, bind_go, neg_eq y hy, bind_go, rnone_eq x y hx hy, bind_go]
  by_cases nx : 9218868437227405312 < rg x
  · rw [decide_eq_true nx, Bool.true_or, if_pos rfl, nan_div x y nx, ofB_none]
  by_cases ny : 9218868437227405312 < rg y
  · rw [decide_eq_true ny, Bool.or_true, if_pos rfl]
    unfold Ieee.Format.div
    rw [read_nan y ny]
    cases D.read x <;> rfl
  rw [decide_eq_false nx, decide_eq_false ny, if_neg (show ¬ ((false || false) = true) by simp), sign_xor]
  obtain ⟨c, e, hc⟩ := kinds x hx nx
  obtain ⟨d, f, hd⟩ := kinds y hy ny
  rw [e, f]
  simp only [bind_go]
  rcases hc with ⟨c3, rx, _⟩ | ⟨c0, fx, ox, zx⟩ | ⟨c3, c0, _, fx, ox⟩
  · rw [if_pos c3]
    unfold Ieee.Format.div
    rw [rx]
    rcases hd with ⟨d3, ry, _⟩ | ⟨d0, fy, oy, _⟩ | ⟨d3, d0, _, fy, oy⟩
    · rw [if_pos d3, ry]; rfl
    · rw [if_neg (c30 d0), if_neg (c03 c3), if_pos c3, rsig_inf, bind_go, om_read y fy]
      show _ = some (ofB (some (D.write (.infinity (sg x ^^ sg y)))))
      rw [inf_write]
    · rw [if_neg d3, if_neg (c03 c3), if_pos c3, rsig_inf, bind_go, om_read y fy]
      show _ = some (ofB (some (D.write (.infinity (sg x ^^ sg y)))))
      rw [inf_write]
  · rw [if_neg (c30 c0), if_pos c0]
    rcases hd with ⟨d3, ry, iy⟩ | ⟨d0, fy, oy, _⟩ | ⟨d3, d0, _, fy, oy⟩
    · rw [if_neg (c03 d3), if_neg (c30 c0), if_neg (c03 d3), if_pos c0, rsig_zero, bind_go]
      unfold Ieee.Format.div
      rw [om_read x fx, ry]
      show _ = some (ofB (some (D.nearest (sg x ^^ sg y) 0 0)))
      rw [zero_word]
    · rw [if_pos d0]
      unfold Ieee.Format.div
      rw [om_read x fx, om_read y fy, ox, oy]; rfl
    · rw [if_neg d0, if_neg (c30 c0), if_neg d0, if_pos c0, rsig_zero, bind_go]
      unfold Ieee.Format.div
      rw [om_read x fx, om_read y fy, ox]
      unfold Ieee.Datum.quotient
      dsimp only
      rw [if_neg oy, Nat.zero_shiftLeft, Nat.zero_div, Nat.zero_mod]
      show _ = some (ofB (some (D.nearest (sg x ^^ sg y) 0 _)))
      rw [ofB_some _ (nearest_rg' _ _ _), nearest_nil]
  · rw [if_neg c3, if_neg c0, if_neg c3]
    rcases hd with ⟨d3, ry, iy⟩ | ⟨d0, fy, oy, _⟩ | ⟨d3, d0, _, fy, oy⟩
    · rw [if_neg (c03 d3), if_neg c0, if_pos d3, rsig_zero, bind_go]
      unfold Ieee.Format.div
      rw [om_read x fx, ry]
      show _ = some (ofB (some (D.nearest (sg x ^^ sg y) 0 0)))
      rw [zero_word]
    · rw [if_pos d0, rsig_inf, bind_go]
      unfold Ieee.Format.div
      rw [om_read x fx, om_read y fy, oy]
      unfold Ieee.Datum.quotient
      dsimp only
      rw [if_pos rfl, if_neg ox]
      show _ = some (ofB (some (D.write (.infinity (sg x ^^ sg y)))))
      rw [inf_write]
    · rw [if_neg d0, if_neg c0, if_neg d3, open_eq x hx fx, open_eq y hy fy, bind_go, bind_go]
      dsimp only
      obtain ⟨k, hk, ek⟩ := div_core (halterref02_Div.l9 (sg x) (sg y) _ _) (sg x ^^ sg y) (om x) (om y) (oj x) (oj y) (om_lt x) (om_lt y) ox oy (oj_le x fx) (oj_le y fy) (fun n a b => by rw [halterref02_Div.l9]) (halterref02_Div.l10 (sg x) (sg y) _ _) (fun t n a b => by rw [halterref02_Div.l10]) (halterref02_Div.l11 (sg x) (sg y) _ _) (fun t u n a b c => by rw [halterref02_Div.l11])
      rw [div_word x y fx fy ox oy k hk, ofB_some _ (nearest_rg' _ _ _), ← ek]
def IsR (P w : Nat) : Prop := w * w ≤ P ∧ P < (w + 1) * (w + 1)
theorem sq_lt {a b : Nat} (h : a < b) : a * a < b * b := Nat.mul_lt_mul'' h h
theorem sq_le {a b : Nat} (h : a ≤ b) : a * a ≤ b * b := Nat.mul_le_mul h h
theorem IsR_uniq {P w v : Nat} (h : IsR P w) (g : IsR P v) : w = v := by
  obtain ⟨h1, h2⟩ := h
  obtain ⟨g1, g2⟩ := g
  rcases Nat.lt_trichotomy w v with k | k | k
  · have := sq_le (show w + 1 ≤ v by omega); omega
  · exact k
  · have := sq_le (show v + 1 ≤ w by omega); omega
theorem rootFrom_is (n : Nat) : ∀ (todo root : Nat), root * root ≤ n → n < (root + 2 ^ todo) * (root + 2 ^ todo) → IsR n (Ieee.Datum.rootFrom n todo root)
  | 0, root, h1, h2 => ⟨h1, by rw [Nat.pow_zero] at h2; exact h2⟩
  | todo + 1, root, h1, h2 => by
    unfold Ieee.Datum.rootFrom
    dsimp only
    have e : root + 1 <<< todo = root + 2 ^ todo := by rw [Nat.shiftLeft_eq, Nat.one_mul]
    rw [e]
    by_cases c : (root + 2 ^ todo) * (root + 2 ^ todo) ≤ n
    · rw [if_pos c]
      refine rootFrom_is n todo _ c ?_
      rw [show root + 2 ^ todo + 2 ^ todo = root + 2 ^ (todo + 1) by rw [Nat.pow_succ]; omega]
      exact h2
    · rw [if_neg c]
      exact rootFrom_is n todo _ h1 (by omega)
theorem whole_is (n : Nat) : IsR n (Ieee.Datum.rootFrom n (n.log2 / 2 + 1) 0) := by
  refine rootFrom_is n _ 0 (by omega) ?_
  rw [Nat.zero_add, ← Nat.pow_add]
  have h : n < 2 ^ (n.log2 + 1) := Nat.lt_log2_self
  have : 2 ^ (n.log2 + 1) ≤ 2 ^ (n.log2 / 2 + 1 + (n.log2 / 2 + 1)) := Nat.pow_le_pow_right (by omega) (by omega)
  omega
theorem sq_scale (w j : Nat) : w * 2 ^ j * (w * 2 ^ j) = w * w * 2 ^ (2 * j) := by
  rw [Nat.mul_mul_mul_comm, ← Nat.pow_add, show j + j = 2 * j by omega]
theorem root_step {n w w' j : Nat} (h : IsR n w) (h' : IsR (n * 2 ^ (2 * j)) w') : w' / 2 ^ j = w ∧ (decide (w' % 2 ^ j ≠ 0) || decide (w' * w' ≠ n * 2 ^ (2 * j))) = decide (w * w ≠ n) := by
  have hp := Nat.two_pow_pos j
  have hp2 := Nat.two_pow_pos (2 * j)
  have hd : 2 ^ j * (w' / 2 ^ j) + w' % 2 ^ j = w' := Nat.div_add_mod _ _
  have hm := Nat.mod_lt w' hp
  have q : w' / 2 ^ j = w := by
    refine IsR_uniq ⟨?_, ?_⟩ h
    · have a1 : w' / 2 ^ j * 2 ^ j ≤ w' := by rw [Nat.mul_comm]; omega
      have a2 := sq_le a1
      rw [sq_scale] at a2
      have a3 : w' / 2 ^ j * (w' / 2 ^ j) * 2 ^ (2 * j) ≤ n * 2 ^ (2 * j) := Nat.le_trans a2 h'.1
      exact Nat.le_of_mul_le_mul_right a3 hp2
    · have a1 : w' + 1 ≤ (w' / 2 ^ j + 1) * 2 ^ j := by rw [Nat.add_mul, Nat.one_mul, Nat.mul_comm]; omega
      have a2 := sq_le a1
      rw [sq_scale] at a2
      exact Nat.lt_of_mul_lt_mul_right (Nat.lt_of_lt_of_le h'.2 a2)
  refine ⟨q, ?_⟩
  rw [q] at hd
  rw [Bool.eq_iff_iff, Bool.or_eq_true, decide_eq_true_eq, decide_eq_true_eq, decide_eq_true_eq]
  constructor
  · intro g hw
    have v : IsR (n * 2 ^ (2 * j)) (w * 2 ^ j) := by
      refine ⟨by rw [sq_scale, hw]; exact Nat.le_refl _, ?_⟩
      have := sq_lt (show w * 2 ^ j < w * 2 ^ j + 1 by omega)
      rw [sq_scale, hw] at this; exact this
    have e := IsR_uniq h' v
    rcases g with g | g
    · rw [e, Nat.mul_mod_left] at g; exact g rfl
    · rw [e, sq_scale, hw] at g; exact g rfl
  · intro hw
    apply Classical.byContradiction
    intro g
    have r0 : w' % 2 ^ j = 0 := by omega
    have s0 : w' * w' = n * 2 ^ (2 * j) := by omega
    have e : w' = w * 2 ^ j := by rw [Nat.mul_comm]; omega
    rw [e, sq_scale] at s0
    exact hw (Nat.eq_of_mul_eq_mul_right hp2 s0)
theorem nearest_root (n w w' j : Nat) (p : Int) (h : IsR n w) (h' : IsR (n * 2 ^ (2 * j)) w') (hb : 9007199254740992 ≤ w) : D.nearest false (4 * w' + (decide (w' * w' ≠ n * 2 ^ (2 * j))).toNat) (p - (j : Int) - 2) = D.nearest false (4 * w + (decide (w * w ≠ n)).toNat) (p - 2) := by
  obtain ⟨q, e⟩ := root_step h h'
  rw [nearest_sticky false w' j _ (p - (j : Int)) (by rw [q]; exact hb), q, e]
  congr 1; omega
theorem root_big {n w k : Nat} (h : IsR n w) (hk : 2 ^ (2 * k) ≤ n) : 2 ^ k ≤ w := by
  apply Classical.byContradiction
  intro g
  have a := sq_le (show w + 1 ≤ 2 ^ k by omega)
  rw [← Nat.pow_add, show k + k = 2 * k by omega] at a
  have := h.2
  omega
theorem root_less {n w k : Nat} (h : IsR n w) (hk : n < 2 ^ (2 * k)) : w < 2 ^ k := by
  apply Classical.byContradiction
  intro g
  have a := sq_le (show 2 ^ k ≤ w by omega)
  rw [← Nat.pow_add, show k + k = 2 * k by omega] at a
  have := h.1
  omega
theorem sqrt_word (x : Nat) (fx : fin x) (ox : om x ≠ 0) (hs : sg x = false) (c w : Nat) (e : Int) (hc : 112 ≤ (om x).log2 + c) (he : (oj x : Int) - 1074 - (c : Int) = 2 * e) (hw : IsR (om x * 2 ^ c) w) : D.sqrt x = some (D.nearest false (4 * w + (decide (w * w ≠ om x * 2 ^ c)).toNat) (e - 2)) := by
  have lx := om_lt x
  have hl : (om x).log2 < 53 := (Nat.log2_lt ox).2 lx
  unfold Ieee.Format.sqrt
  rw [om_read x fx]
  unfold Ieee.Datum.root
  dsimp only
  rw [if_neg ox, hs, if_neg (show ¬ (false = true) by simp), D_frac]
  obtain ⟨d, hd, d1, d2⟩ : ∃ d : Nat, 2 * (52 + 2) - (om x).log2 + (((oj x : Int) - 1074 - ((2 * (52 + 2) - (om x).log2 : Nat) : Int)) % 2).toNat = d ∧ 108 ≤ (om x).log2 + d ∧ (om x).log2 + d ≤ 109 := ⟨_, rfl, by omega, by omega⟩
  have hpar : ((oj x : Int) - 1074 - (d : Int)) % 2 = 0 := by omega
  rw [hd, Nat.shiftLeft_eq]
  obtain ⟨j, hj⟩ : ∃ j : Nat, c = d + 2 * j := ⟨(c - d) / 2, by omega⟩
  have h1 := Nat.log2_self_le ox
  have h3 : 2 ^ (om x).log2 * 2 ^ d ≤ om x * 2 ^ d := Nat.mul_le_mul_right _ h1
  rw [← Nat.pow_add] at h3
  have h4 : (2 : Nat) ^ 108 ≤ 2 ^ ((om x).log2 + d) := Nat.pow_le_pow_right (by omega) d1
  have hv := whole_is (om x * 2 ^ d)
  generalize hvv : Ieee.Datum.rootFrom (om x * 2 ^ d) ((om x * 2 ^ d).log2 / 2 + 1) 0 = v at *
  have hb : 2 ^ 54 ≤ v := root_big hv (by omega)
  have en : om x * 2 ^ c = om x * 2 ^ d * 2 ^ (2 * j) := by rw [hj, Nat.pow_add, Nat.mul_assoc]
  rw [en] at hw ⊢
  show some (D.nearest false (2 * v + (v * v != om x * 2 ^ d).toNat) (((oj x : Int) - 1074 - (d : Int)) / 2 - 1)) = _
  have e0 : (v * v != om x * 2 ^ d) = decide (v * v ≠ om x * 2 ^ d) := by rw [Bool.eq_iff_iff, bne_iff_ne, decide_eq_true_eq]
  have ep : ((oj x : Int) - 1074 - (d : Int)) / 2 = e + (j : Int) := by omega
  have := nearest_root (om x * 2 ^ d) v w j (e + (j : Int)) hv hw (by omega)
  rw [e0, ep, nearest_bit _ _ _ _ (by omega), ← this]
  congr 2; omega
theorem even_gen (L : Nat → Int → Int → Option (Int × Int)) (hL : ∀ n a b, L (n + 1) a b = if a < (4503599627370496 : Int) then L n (IntKind.wrap .u64 ((2 : Int) * a)) (IntKind.wrap .i64 (b - (1 : Int))) else if ¬ (Int.tmod b (2 : Int)) = (0 : Int) then L n (IntKind.wrap .u64 ((2 : Int) * a)) (IntKind.wrap .i64 (b - (1 : Int))) else some (a, b)) : ∀ (d n M : Nat) (E : Int), d + 1 < n → M < 9007199254740992 → 4503599627370496 ≤ M * 2 ^ d → d < 1000 → -100000 + (d : Int) < E → E < 100000 → ∃ i : Nat, i ≤ d + 1 ∧ L n (M : Int) E = some (((M * 2 ^ i : Nat) : Int), E - i) ∧ 4503599627370496 ≤ M * 2 ^ i ∧ M * 2 ^ i < 18014398509481984 ∧ (E - (i : Int)) % 2 = 0 := by
  have hmod : ∀ E : Int, (Int.tmod E 2 = 0) = (E % 2 = 0) := fun E => by
    rw [eq_iff_iff]
    exact ⟨fun h => by have := Int.dvd_of_tmod_eq_zero h; omega, fun h => Int.tmod_eq_zero_of_dvd (by omega)⟩
  intro d
  induction d with
  | zero =>
    intro n M E hn hM hb hd h1 h2
    obtain ⟨q, rfl⟩ := fuel_step hn
    rw [Nat.pow_zero, Nat.mul_one] at hb
    by_cases c : E % 2 = 0
    · refine ⟨0, by omega, ?_, by rw [Nat.pow_zero]; omega, by rw [Nat.pow_zero]; omega, by omega⟩
      rw [hL, if_neg (by omega), if_neg (by rw [hmod]; omega), Nat.pow_zero, Nat.mul_one, show E - ((0 : Nat) : Int) = E by omega]
    · have e1 : IntKind.wrap .u64 ((2 : Int) * (M : Int)) = ((M * 2 : Nat) : Int) := by rw [wu64_id (by omega)]; omega
      have e2 : IntKind.wrap .i64 (E - 1) = E - 1 := wi64 (by omega) (by omega)
      obtain ⟨r, rfl⟩ := fuel_step (show 0 < q by omega)
      refine ⟨1, by omega, ?_, by rw [Nat.pow_one]; omega, by rw [Nat.pow_one]; omega, by omega⟩
      rw [hL, if_neg (by omega), if_pos (by rw [hmod]; omega), e1, e2, hL, if_neg (by omega), if_neg (by rw [hmod]; omega), Nat.pow_one]; rfl
  | succ d ih =>
    intro n M E hn hM hb hd h1 h2
    by_cases c : 4503599627370496 ≤ M
    · have hp := Nat.two_pow_pos d
      obtain ⟨i, hi, r⟩ : ∃ i : Nat, i ≤ 1 ∧ L n (M : Int) E = some (((M * 2 ^ i : Nat) : Int), E - i) ∧ 4503599627370496 ≤ M * 2 ^ i ∧ M * 2 ^ i < 18014398509481984 ∧ (E - (i : Int)) % 2 = 0 := by
        obtain ⟨q, rfl⟩ := fuel_step hn
        by_cases c : E % 2 = 0
        · refine ⟨0, by omega, ?_, by rw [Nat.pow_zero]; omega, by rw [Nat.pow_zero]; omega, by omega⟩
          rw [hL, if_neg (by omega), if_neg (by rw [hmod]; omega), Nat.pow_zero, Nat.mul_one, show E - ((0 : Nat) : Int) = E by omega]
        · have e1 : IntKind.wrap .u64 ((2 : Int) * (M : Int)) = ((M * 2 : Nat) : Int) := by rw [wu64_id (by omega)]; omega
          have e2 : IntKind.wrap .i64 (E - 1) = E - 1 := wi64 (by omega) (by omega)
          obtain ⟨r, rfl⟩ := fuel_step (show 0 < q by omega)
          refine ⟨1, by omega, ?_, by rw [Nat.pow_one]; omega, by rw [Nat.pow_one]; omega, by omega⟩
          rw [hL, if_neg (by omega), if_pos (by rw [hmod]; omega), e1, e2, hL, if_neg (by omega), if_neg (by rw [hmod]; omega), Nat.pow_one]; rfl
      exact ⟨i, by omega, r⟩
    · obtain ⟨q, rfl⟩ := fuel_step hn
      have e1 : IntKind.wrap .u64 ((2 : Int) * (M : Int)) = ((M * 2 : Nat) : Int) := by rw [wu64_id (by omega)]; omega
      have e2 : IntKind.wrap .i64 (E - 1) = E - 1 := wi64 (by omega) (by omega)
      rw [Nat.pow_succ, Nat.mul_comm (2 ^ d), ← Nat.mul_assoc] at hb
      obtain ⟨i, hi, e, b1, b2, b3⟩ := ih q (M * 2) (E - 1) (by omega) (by omega) hb (by omega) (by omega) (by omega)
      have e3 : M * 2 ^ (i + 1) = M * 2 * 2 ^ i := by rw [Nat.pow_succ, Nat.mul_assoc, Nat.mul_comm 2]
      refine ⟨i + 1, by omega, ?_, by rw [e3]; exact b1, by rw [e3]; exact b2, by omega⟩
      rw [hL, if_pos (by omega), e1, e2, e, e3, show E - 1 - (i : Int) = E - ((i + 1 : Nat) : Int) by omega]
theorem dig (P w two : Nat) (h : IsR P w) (ht : two < 4) : (4 * w + 1 ≤ 4 * (P - w * w) + two → IsR (4 * P + two) (2 * w + 1) ∧ 4 * P + two - (2 * w + 1) * (2 * w + 1) = 4 * (P - w * w) + two - 4 * w - 1) ∧ (¬ 4 * w + 1 ≤ 4 * (P - w * w) + two → IsR (4 * P + two) (2 * w) ∧ 4 * P + two - 2 * w * (2 * w) = 4 * (P - w * w) + two) := by
  obtain ⟨h1, h2⟩ := h
  have s1 : (w + 1) * (w + 1) = w * w + 2 * w + 1 := by rw [Nat.add_mul, Nat.mul_add]; omega
  have s2 : 2 * w * (2 * w) = 4 * (w * w) := by rw [Nat.mul_mul_mul_comm]
  have s3 : (2 * w + 1) * (2 * w + 1) = 4 * (w * w) + 4 * w + 1 := by rw [Nat.add_mul, Nat.mul_add, s2]; omega
  have s4 : (2 * w + 1 + 1) * (2 * w + 1 + 1) = 4 * (w * w) + 8 * w + 4 := by
    rw [show 2 * w + 1 + 1 = 2 * (w + 1) by omega, Nat.mul_mul_mul_comm, s1]; omega
  unfold IsR
  rw [s3, s2, s4]
  rw [s1] at h2
  generalize w * w = W at *
  exact ⟨fun c => ⟨⟨by omega, by omega⟩, by omega⟩, fun c => ⟨⟨by omega, by omega⟩, by omega⟩⟩
theorem rest_le {P w : Nat} (h : IsR P w) : P - w * w ≤ 2 * w := by
  have s1 : (w + 1) * (w + 1) = w * w + 2 * w + 1 := by rw [Nat.add_mul, Nat.mul_add]; omega
  have := h.2
  rw [s1] at this
  omega
theorem four_pow (k : Nat) : 4 ^ k = 2 ^ (2 * k) := by rw [Nat.pow_mul]
theorem root_bd {P w i : Nat} (h : IsR P w) (hP : P < 4 ^ i) (hi : i ≤ 57) : w < 144115188075855872 := by
  rw [four_pow] at hP
  have := root_less h hP
  have : 2 ^ i ≤ 2 ^ 57 := Nat.pow_le_pow_right (by omega) hi
  omega
theorem S_step (P w two : Nat) (h : IsR P w) (ht : two < 4) (hw : w < 144115188075855872) : ∃ w' : Nat, IsR (4 * P + two) w' ∧ ∀ (β : Type) (K : Int → Int → β) (X : Int), X = ((4 * (P - w * w) + two : Nat) : Int) →
    (if X ≥ (IntKind.wrap .u64 ((IntKind.wrap .u64 ((2 : Int) * (IntKind.wrap .u64 ((2 : Int) * (w : Int))))) + (1 : Int))) then K (IntKind.wrap .u64 ((IntKind.wrap .u64 ((2 : Int) * (w : Int))) + (1 : Int))) (IntKind.wrap .u64 ((IntKind.wrap .u64 (X - (IntKind.wrap .u64 ((2 : Int) * (IntKind.wrap .u64 ((2 : Int) * (w : Int))))))) - (1 : Int))) else K (IntKind.wrap .u64 ((2 : Int) * (w : Int))) X) = K (w' : Int) ((4 * P + two - w' * w' : Nat) : Int) := by
  have hr := rest_le h
  obtain ⟨a, b⟩ := dig P w two h ht
  have e1 : IntKind.wrap .u64 ((2 : Int) * (w : Int)) = ((2 * w : Nat) : Int) := by rw [wu64_id (by omega)]; omega
  have e2 : IntKind.wrap .u64 ((2 : Int) * ((2 * w : Nat) : Int)) = ((4 * w : Nat) : Int) := by rw [wu64_id (by omega)]; omega
  have e3 : IntKind.wrap .u64 (((4 * w : Nat) : Int) + 1) = ((4 * w + 1 : Nat) : Int) := by rw [wu64_id (by omega)]; omega
  have e4 : IntKind.wrap .u64 (((2 * w : Nat) : Int) + 1) = ((2 * w + 1 : Nat) : Int) := by rw [wu64_id (by omega)]; omega
  by_cases c : 4 * w + 1 ≤ 4 * (P - w * w) + two
  · obtain ⟨a1, a2⟩ := a c
    refine ⟨2 * w + 1, a1, fun β K X hX => ?_⟩
    rw [e1, e2, e3, e4, hX, a2, if_pos (show ((4 * (P - w * w) + two : Nat) : Int) ≥ ((4 * w + 1 : Nat) : Int) from Int.ofNat_le.2 c)]
    have hR : 4 * (P - w * w) + two ≤ 8 * w + 3 := by omega
    generalize 4 * (P - w * w) + two = R at *
    have e5 : IntKind.wrap .u64 (IntKind.wrap .u64 ((R : Int) - ((4 * w : Nat) : Int)) - 1) = ((R - 4 * w - 1 : Nat) : Int) := by rw [wu64_id (x := (R : Int) - _) (by omega), wu64_id (by omega)]; omega
    rw [e5]
  · obtain ⟨a1, a2⟩ := b c
    refine ⟨2 * w, a1, fun β K X hX => ?_⟩
    rw [e1, e2, e3, hX, a2, if_neg (fun k => c (Int.ofNat_le.1 k))]
theorem S_l1b (t : Bool × Int × Int × Bool) (u : Int × Int) (m : Int) : ∀ (d n i P w : Nat), i + d = 57 → 27 ≤ i → d < n → P < 4 ^ i → IsR P w → ∃ w' : Nat, IsR (P * 4 ^ d) w' ∧ halterref02_Sqrt.l1 t u n m (w : Int) ((P - w * w : Nat) : Int) (i : Int) = some (m, (w' : Int), ((P * 4 ^ d - w' * w' : Nat) : Int)) := by
  intro d
  induction d with
  | zero =>
    intro n i P w hi h27 hn hP hw
    obtain ⟨q, rfl⟩ := fuel_step hn
    refine ⟨w, by rw [Nat.pow_zero, Nat.mul_one]; exact hw, ?_⟩
    rw [halterref02_Sqrt.l1, if_neg (by omega), Nat.pow_zero, Nat.mul_one]
  | succ d ih =>
    intro n i P w hi h27 hn hP hw
    obtain ⟨q, rfl⟩ := fuel_step hn
    have hwb := root_bd hw hP (by omega)
    have hr := rest_le hw
    obtain ⟨w1, g1, g2⟩ := S_step P w 0 hw (by omega) hwb
    obtain ⟨w', f1, f2⟩ := ih q (i + 1) (4 * P + 0) w1 (by omega) (by omega) (by omega) (by rw [Nat.pow_succ]; omega) g1
    have e6 : (4 * P + 0) * 4 ^ d = P * 4 ^ (d + 1) := by rw [Nat.add_zero, Nat.pow_succ, Nat.mul_comm (4 ^ d), ← Nat.mul_assoc, Nat.mul_comm 4]
    rw [e6] at f1 f2
    refine ⟨w', f1, ?_⟩
    have e5 : IntKind.wrap .i64 ((i : Int) + 1) = ((i + 1 : Nat) : Int) := wsucc (by omega)
    have eX : IntKind.wrap .u64 (IntKind.wrap .u64 (4 * ((P - w * w : Nat) : Int)) + 0) = ((4 * (P - w * w) + 0 : Nat) : Int) := by
      generalize P - w * w = R at *
      rw [wu64_id (x := 4 * _) (by omega), wu64_id (by omega)]; omega
    rw [halterref02_Sqrt.l1, if_pos (by omega), if_neg (by omega), e5, g2 _ (fun a b => halterref02_Sqrt.l1 t u q m a b ((i + 1 : Nat) : Int)) _ eX, f2]
theorem S_l1a (t : Bool × Int × Int × Bool) (u : Int × Int) (M0 : Nat) (hM : M0 < 18014398509481984) : ∀ (d n i P w r : Nat), i + d = 27 → 60 < n → M0 = P * 4 ^ d + r → r < 4 ^ d → IsR P w → ∃ (w' : Nat) (m' : Int), IsR (M0 * 4 ^ 30) w' ∧ halterref02_Sqrt.l1 t u (n + d) ((r * 4 ^ i : Nat) : Int) (w : Int) ((P - w * w : Nat) : Int) (i : Int) = some (m', (w' : Int), ((M0 * 4 ^ 30 - w' * w' : Nat) : Int)) := by
  have h27 : (18014398509481984 : Nat) = 4 ^ 27 := by decide
  intro d
  induction d with
  | zero =>
    intro n i P w r hi hn hP hr hw
    rw [Nat.pow_zero] at hr hP
    have hPM : P = M0 := by omega
    have hi27 : i = 27 := by omega
    subst hPM hi27
    obtain ⟨w', f1, f2⟩ := S_l1b t u ((r * 4 ^ 27 : Nat) : Int) 30 n 27 P w (by omega) (by omega) (by omega) (by omega) hw
    exact ⟨w', _, f1, f2⟩
  | succ d ih =>
    intro n i P w r hi hn hP hr hw
    have hp := Nat.pow_pos (n := d) (show 0 < 4 by omega)
    have hpi := Nat.pow_pos (n := i) (show 0 < 4 by omega)
    have hsp : 4 ^ i * 4 ^ d = 4503599627370496 := by rw [← Nat.pow_add, show i + d = 26 by omega]
    have hPb : P < 4 ^ i := by
      have h1 : P * 4 ^ (d + 1) < 4 ^ i * 4 ^ (d + 1) := by rw [← Nat.pow_add, hi, ← h27]; omega
      exact Nat.lt_of_mul_lt_mul_right h1
    have hwb := root_bd hw hPb (by omega)
    have hrl := rest_le hw
    have hdm : 4 ^ d * (r / 4 ^ d) + r % 4 ^ d = r := Nat.div_add_mod _ _
    have hml := Nat.mod_lt r hp
    have ht : r / 4 ^ d < 4 := by rw [Nat.div_lt_iff_lt_mul hp, Nat.mul_comm, ← Nat.pow_succ]; exact hr
    obtain ⟨w1, g1, g2⟩ := S_step P w (r / 4 ^ d) hw ht hwb
    have eM : M0 = (4 * P + r / 4 ^ d) * 4 ^ d + r % 4 ^ d := by
      rw [hP, Nat.add_mul, Nat.pow_succ, Nat.mul_comm 4 P, Nat.mul_assoc, Nat.mul_comm 4 (4 ^ d), Nat.mul_comm (r / 4 ^ d)]; omega
    obtain ⟨w', m', f1, f2⟩ := ih (n + 0) (i + 1) (4 * P + r / 4 ^ d) w1 (r % 4 ^ d) (by omega) hn eM hml g1
    refine ⟨w', m', f1, ?_⟩
    have e5 : IntKind.wrap .i64 ((i : Int) + 1) = ((i + 1 : Nat) : Int) := wsucc (by omega)
    have em : (r * 4 ^ i) / 4503599627370496 = r / 4 ^ d ∧ (r * 4 ^ i) % 4503599627370496 = r % 4 ^ d * 4 ^ i := by
      refine divmod_is ?_ ?_
      · conv => rhs; rw [← hdm]
        rw [← hsp, Nat.add_mul, Nat.mul_comm (4 ^ i) (4 ^ d), Nat.mul_right_comm]; omega
      · rw [← hsp, Nat.mul_comm (4 ^ i)]; exact (Nat.mul_lt_mul_right hpi).2 hml
    have hrb : r * 4 ^ i < 18014398509481984 := by
      rw [h27, ← hi, Nat.add_comm i, Nat.pow_add]; exact (Nat.mul_lt_mul_right hpi).2 hr
    have e7 : r % 4 ^ d * 4 ^ (i + 1) = 4 * (r % 4 ^ d * 4 ^ i) := by rw [Nat.pow_succ, ← Nat.mul_assoc, Nat.mul_comm]
    have e6 : Int.tmod (IntKind.wrap .u64 (Int.tdiv ((r * 4 ^ i : Nat) : Int) 4503599627370496)) 4 = ((r / 4 ^ d : Nat) : Int) := by
      rw [← em.1]
      rw [← em.1] at ht
      generalize r * 4 ^ i = z at *
      rw [Int.tdiv_eq_ediv_of_nonneg (by omega), wu64_id (by omega), Int.tmod_eq_emod_of_nonneg (by omega)]; omega
    have e8 : IntKind.wrap .u64 (4 * Int.tmod ((r * 4 ^ i : Nat) : Int) 4503599627370496) = ((r % 4 ^ d * 4 ^ (i + 1) : Nat) : Int) := by
      rw [e7, ← em.2]
      generalize r * 4 ^ i = z at *
      rw [Int.tmod_eq_emod_of_nonneg (by omega), wu64_id (by omega)]; omega
    have eX : IntKind.wrap .u64 (IntKind.wrap .u64 (4 * ((P - w * w : Nat) : Int)) + ((r / 4 ^ d : Nat) : Int)) = ((4 * (P - w * w) + r / 4 ^ d : Nat) : Int) := by
      generalize P - w * w = R at *
      generalize r / 4 ^ d = z at *
      rw [wu64_id (x := 4 * _) (by omega), wu64_id (by omega)]; omega
    rw [show n + (d + 1) = n + 0 + d + 1 by omega, halterref02_Sqrt.l1, if_pos (by omega), if_pos (by omega), e6, e8, e5, g2 _ (fun a b => halterref02_Sqrt.l1 t u (n + 0 + d) ((r % 4 ^ d * 4 ^ (i + 1) : Nat) : Int) a b ((i + 1 : Nat) : Int)) _ eX, f2]
theorem Sqrt_both (x : Nat) (hx : x < 18446744073709551616) : halterref02_Sqrt.f (x : Int) = some (ofB (D.sqrt x)) := by
  obtain ⟨c, e, h4, h0, h3⟩ := rclass4 x hx
  unfold halterref02_Sqrt.f
  rw [e, neg_eq x hx]
  simp only [bind_go]
  by_cases z : rg x = 0
  · have fx : fin x := by show rg x < _; omega
    rw [if_pos (h0.2 z)]
    unfold Ieee.Format.sqrt
    rw [om_read x fx, (om_zero x).2 z]
    show _ = some (ofB (some (D.nearest (sg x) 0 _)))
    rw [ofB_some _ (nearest_rg' _ _ _), nearest_nil]
    have := word_self x hx
    rw [z] at this
    rw [this]
  · rw [if_neg (fun k => z (h0.1 k))]
    by_cases nx : 9218868437227405312 < rg x
    · rw [if_pos (h4.2 nx), nan_sqrt x nx, ofB_none]
    · rw [if_neg (fun k => nx (h4.1 k))]
      cases hs : sg x with
      | true =>
        rw [if_pos rfl]
        by_cases i : rg x = 9218868437227405312
        · unfold Ieee.Format.sqrt
          rw [read_inf x i, hs]; rfl
        · have fx : fin x := by show rg x < _; omega
          rw [sqrt_neg x fx z hs, ofB_none]
      | false =>
        rw [if_neg (show ¬ (false = true) by simp)]
        by_cases i : rg x = 9218868437227405312
        · rw [if_pos (h3.2 i)]
          unfold Ieee.Format.sqrt
          rw [read_inf x i, hs]
          show _ = some (ofB (some (D.write (.infinity false))))
          have := inf_word x hx i
          rw [hs] at this
          rw [this]
        · have fx : fin x := by show rg x < _; omega
          have ox : om x ≠ 0 := fun k => z ((om_zero x).1 k)
          have lx := om_lt x
          have jx := oj_le x fx
          rw [if_neg (fun k => i (h3.1 k)), open_eq x hx fx, bind_go]
          dsimp only
          obtain ⟨k, hk, e1, b1, b2, b3⟩ := even_gen (halterref02_Sqrt.l0 (sg x, (om x : Int), (oj x : Int) - 1074, false)) (fun n a b => by rw [halterref02_Sqrt.l0]) 52 FUEL (om x) ((oj x : Int) - 1074) (fuel_gt (by omega)) lx (norm_one ox) (by omega) (by omega) (by omega)
          rw [e1, bind_go]
          dsimp only
          have e27 : (4 : Nat) ^ 27 = 18014398509481984 := by decide
          obtain ⟨f, hf⟩ : ∃ f : Nat, FUEL = f + 27 := ⟨FUEL - 27, by have := fuel_gt (n := 1000) (by omega); omega⟩
          have hf2 : 60 < f := by have := fuel_gt (n := 1000) (by omega); omega
          obtain ⟨w, m', w1, w2⟩ := S_l1a (sg x, (om x : Int), (oj x : Int) - 1074, false) (((om x * 2 ^ k : Nat) : Int), (oj x : Int) - 1074 - k) (om x * 2 ^ k) b2 27 f 0 0 0 (om x * 2 ^ k) (by omega) hf2 (by omega) (by rw [e27]; exact b2) ⟨by omega, by omega⟩
          rw [Nat.pow_zero, Nat.mul_one, ← hf] at w2
          have w2' : halterref02_Sqrt.l1 (sg x, (om x : Int), (oj x : Int) - 1074, false) (((om x * 2 ^ k : Nat) : Int), (oj x : Int) - 1074 - k) FUEL ((om x * 2 ^ k : Nat) : Int) 0 0 0 = some (m', (w : Int), ((om x * 2 ^ k * 4 ^ 30 - w * w : Nat) : Int)) := w2
          rw [w2', bind_go]
          dsimp only
          have en : om x * 2 ^ k * 4 ^ 30 = om x * 2 ^ (k + 60) := by rw [four_pow, Nat.mul_assoc, ← Nat.pow_add]
          have big : 2 ^ (2 * 56) ≤ om x * 2 ^ k * 4 ^ 30 := by
            have : 4503599627370496 * 4 ^ 30 ≤ om x * 2 ^ k * 4 ^ 30 := Nat.mul_le_mul_right _ b1
            have e : (4503599627370496 : Nat) * 4 ^ 30 = 2 ^ (2 * 56) := by decide
            omega
          have less : om x * 2 ^ k * 4 ^ 30 < 2 ^ (2 * 57) := by
            have : om x * 2 ^ k * 4 ^ 30 < 18014398509481984 * 4 ^ 30 := (Nat.mul_lt_mul_right (by decide)).2 b2
            have e : (18014398509481984 : Nat) * 4 ^ 30 = 2 ^ (2 * 57) := by decide
            omega
          have wb := root_big w1 big
          have wl := root_less w1 less
          have hlog : 112 ≤ (om x).log2 + (k + 60) := by
            have := (log2_ge (om x * 2 ^ k) 52 (by omega)).2 b1
            rw [log2_shift _ _ ox] at this; omega
          obtain ⟨ee, he⟩ : ∃ ee : Int, (oj x : Int) - 1074 - ((k + 60 : Nat) : Int) = 2 * ee := ⟨((oj x : Int) - 1074 - ((k + 60 : Nat) : Int)) / 2, by omega⟩
          have e4 : IntKind.wrap .i64 (IntKind.wrap .i64 (Int.tdiv ((oj x : Int) - 1074 - (k : Int)) 2) - 30) = ee := by
            have t : Int.tdiv ((oj x : Int) - 1074 - (k : Int)) 2 = ee + 30 := by
              rw [show (oj x : Int) - 1074 - (k : Int) = (ee + 30) * 2 by omega, Int.mul_tdiv_cancel _ (by omega)]
            rw [t, wi64 (x := ee + 30) (by omega) (by omega), wi64 (by omega) (by omega)]; omega
          have e5 : decide (((om x * 2 ^ k * 4 ^ 30 - w * w : Nat) : Int) > 0) = decide (w * w ≠ om x * 2 ^ k * 4 ^ 30) := by
            have := w1.1
            rw [decide_eq_decide]; omega
          have sw := sqrt_word x fx ox hs (k + 60) w ee hlog he (by rw [← en]; exact w1)
          rw [e4, e5, Round_eq false w ee _ (by omega) (by omega) (by omega) (fun _ => by omega), bind_go, sw, ofB_some _ (nearest_rg' _ _ _), en]
theorem wraps_u32 (n : Int) (h0 : 0 ≤ n) (h1 : n < 2 ^ 32) : IntKind.u32.wrap n = n := by rw [IntKind.wrap_u32]; omega
theorem and32 (x y : Nat) (hx : x < 4294967296) (hy : y < 4294967296) : Go.bits .and .u32 x y = ((x &&& y : Nat) : Int) := (bits_nat .u32 32 (by decide) wraps_u32 x y hx hy).1
theorem and_two (x k : Nat) : x &&& 2 ^ k = x / 2 ^ k % 2 * 2 ^ k := by
  have hm : x / 2 ^ k % 2 < 2 := Nat.mod_lt _ (by omega)
  apply Nat.eq_of_testBit_eq
  intro j
  rw [Nat.testBit_and, Nat.testBit_two_pow]
  by_cases h : x / 2 ^ k % 2 = 1
  · rw [h, Nat.one_mul, Nat.testBit_two_pow]
    by_cases e : k = j
    · subst e; rw [Nat.testBit_eq_decide_div_mod_eq, decide_eq_true h]; rfl
    · rw [decide_eq_false e, Bool.and_false]
  · have h0 : x / 2 ^ k % 2 = 0 := by omega
    rw [h0, Nat.zero_mul, Nat.zero_testBit]
    by_cases e : k = j
    · subst e; rw [Nat.testBit_eq_decide_div_mod_eq, decide_eq_false h]; rfl
    · rw [decide_eq_false e, Bool.and_false]
theorem and_bit (f k : Nat) (hf : f < 4294967296) (hk : k < 32) : bits .and .u32 (f : Int) ((2 ^ k : Nat) : Int) = (((f / 2 ^ k % 2) * 2 ^ k : Nat) : Int) := by
  have hp : (2 : Nat) ^ k < 2 ^ 32 := Nat.pow_lt_pow_right (by omega) hk
  rw [and32 f (2 ^ k) hf (by omega), and_two]
def stN (f : Nat) : Nat := f / 16 % 2
theorem step_and (f : Nat) (hf : f < 4294967296) : bits .and .u32 (f : Int) 16 = ((stN f * 16 : Nat) : Int) := and_bit f 4 hf (by omega)
theorem step_or (s w : Nat) (hs : s < 2) (hw : w < 16) : bits .or .u32 ((s * 16 : Nat) : Int) (w : Int) = ((s * 16 + w : Nat) : Int) := by
  have : ∀ q : Fin 16, ∀ r : Fin 2, bits .or .u32 ((r.val * 16 : Nat) : Int) (q.val : Int) = ((r.val * 16 + q.val : Nat) : Int) := by decide +kernel
  exact this ⟨w, hw⟩ ⟨s, hs⟩

theorem Sub_ref (x y : Nat) (hx : x < 18446744073709551616) (hy : y < 18446744073709551616) : ∃ (c v : Int), soft_Sub.f (x : Int) (y : Int) = some v ∧ halterref02_Class.f (y : Int) = some c ∧ ((c = 4 ∧ v = 9221120237041090560) ∨ (¬ c = 4 ∧ ∃ u : Int, halterref02_Minus.f (y : Int) = some u ∧ halterref02_Add.f (x : Int) u = some v)) := by
  obtain ⟨d, f, g4, _, g3⟩ := rclass4 y hy
  by_cases ny : 9218868437227405312 < rg y
  · refine ⟨d, _, f_sub x y, f, Or.inl ⟨g4.2 ny, ?_⟩⟩
    rw [nan_sub2 x y ny, ofB_none]
  · obtain ⟨f1, f2, f3⟩ := flip_is y hy
    obtain ⟨v, v1, v2⟩ := Add_both x (flip y) hx f3
    refine ⟨d, v, by rw [f_sub, sub_flip x y hy ny, ← f_add, v1], f, Or.inr ⟨fun k => ny (g4.1 k), ((flip y : Nat) : Int), ?_, v2⟩⟩
    unfold halterref02_Minus.f
    rw [neg_eq y hy, bind_go]
    unfold flip sg
    by_cases h : 9223372036854775808 ≤ y
    · rw [if_pos (show (y / 9223372036854775808 % 2 == 1) = true by rw [beq_iff_eq]; omega), if_pos h, wu64_id (by omega)]
      congr 1; omega
    · rw [if_neg (show ¬ (y / 9223372036854775808 % 2 == 1) = true by rw [beq_iff_eq]; omega), if_neg h, wu64_id (by omega)]
      congr 1
theorem Float_both (op : Int) (x y : Nat) (hx : x < 18446744073709551616) (hy : y < 18446744073709551616) : ∃ (v : Int) (e : Option Int), alu_Float.f op (x : Int) (y : Int) = some (v, e) ∧ halterref11_Float.f op (x : Int) (y : Int) = some (v, e.getD 0) := by
  unfold alu_Float.f halterref11_Float.f
  by_cases h1 : op = 33
  · obtain ⟨v, v1, v2⟩ := Add_both x y hx hy
    exact ⟨v, none, by rw [if_pos h1, v1, bind_go], by rw [if_pos h1, v2, bind_go]; rfl⟩
  rw [if_neg h1, if_neg h1]
  by_cases h2 : op = 34
  · obtain ⟨c, v, v1, v2, h | ⟨h, u, u1, u2⟩⟩ := Sub_ref x y hx hy
    · exact ⟨v, none, by rw [if_pos h2, v1, bind_go], by rw [if_pos h2, v2, bind_go, if_pos h.1, h.2]; rfl⟩
    · exact ⟨v, none, by rw [if_pos h2, v1, bind_go], by rw [if_pos h2, v2, bind_go, if_neg h, u1, bind_go, u2, bind_go]; rfl⟩
  rw [if_neg h2, if_neg h2]
  by_cases h3 : op = 35
  · exact ⟨_, none, by rw [if_pos h3, f_mul, bind_go], by rw [if_pos h3, Mul_both x y hx hy, bind_go]; rfl⟩
  rw [if_neg h3, if_neg h3]
  by_cases h4 : op = 36
  · exact ⟨_, none, by rw [if_pos h4, f_div, bind_go], by rw [if_pos h4, Div_both x y hx hy, bind_go]; rfl⟩
  rw [if_neg h4, if_neg h4]
  by_cases h5 : op = 37
  · exact ⟨_, none, by rw [if_pos h5, f_sqrt, bind_go], by rw [if_pos h5, Sqrt_both y hy, bind_go]; rfl⟩
  rw [if_neg h5, if_neg h5]
  exact ⟨_, _, rfl, rfl⟩
theorem Flags_both (x y : Nat) (fl : Nat) (hfl : fl < 4294967296) (hx : x < 18446744073709551616) (hy : y < 18446744073709551616) : ∃ v : Int, alu_Cmp.f (x : Int) (y : Int) (fl : Int) = some v ∧ halterref11_Cmp.f (x : Int) (y : Int) (fl : Int) = some v := by
  obtain ⟨v, v1, v2⟩ := Cmp_both x y hx hy
  have hv : v = -1 ∨ v = 0 ∨ v = 1 ∨ v = 2 := by
    rw [f_cmp0] at v1
    obtain rfl := Option.some.inj v1
    unfold cmpV
    cases D.order x y with
    | none => right; right; right; rfl
    | some o => cases o <;> simp
  have hs : stN fl < 2 := Nat.mod_lt _ (by omega)
  have hst : IntKind.wrap .u32 (Int.tmod (IntKind.wrap .u32 (Int.tdiv (fl : Int) 16)) 2 * 16) = ((stN fl * 16 : Nat) : Int) := by
    rw [Int.tdiv_eq_ediv_of_nonneg (by omega), wu32_id (x := _ / _) (by omega), Int.tmod_eq_emod_of_nonneg (by omega), wu32_id (by omega)]
    unfold stN; omega
  have w : ∀ k : Nat, k < 16 → IntKind.wrap .u32 (((stN fl * 16 : Nat) : Int) + (k : Int)) = ((stN fl * 16 + k : Nat) : Int) := fun k hk => by rw [wu32_id (by omega)]; omega
  unfold alu_Cmp.f halterref11_Cmp.f
  rw [v1, v2, bind_go, bind_go, step_and fl hfl, hst]
  have o1 := step_or (stN fl) 1 hs (by omega)
  have o2 := step_or (stN fl) 2 hs (by omega)
  have o4 := step_or (stN fl) 4 hs (by omega)
  have w1 := w 1 (by omega)
  have w2 := w 2 (by omega)
  have w4 := w 4 (by omega)
  rcases hv with rfl | rfl | rfl | rfl
  · exact ⟨((stN fl * 16 + 2 : Nat) : Int), by rw [if_pos rfl]; exact congrArg some o2, by rw [if_pos rfl]; exact congrArg some w2⟩
  · exact ⟨((stN fl * 16 + 1 : Nat) : Int), by rw [if_neg (by omega), if_pos rfl]; exact congrArg some o1, by rw [if_neg (by omega), if_pos rfl]; exact congrArg some w1⟩
  · exact ⟨_, by rw [if_neg (by omega), if_neg (by omega), if_pos rfl], by rw [if_neg (by omega), if_neg (by omega), if_neg (by omega)]⟩
  · exact ⟨((stN fl * 16 + 4 : Nat) : Int), by rw [if_neg (by omega), if_neg (by omega), if_neg (by omega)]; exact congrArg some o4, by rw [if_neg (by omega), if_neg (by omega), if_pos rfl]; exact congrArg some w4⟩
theorem sure_t : halterlaw11_sure.f = some true := by kernel_rfl
theorem AluFloats (a0 : Int) (a1 : (List Int)) (a2 : Int) (h0 : (Lit.int .i64 a0).wf = true) (h1 : List.length a1 = 2) (h2 : ∀ z ∈ a1, (Lit.int .u64 z).wf = true) (h3 : (Lit.int .u32 a2).wf = true) : halterlaw11_AluFloats.f a0 a1 a2 = some true := by
  obtain ⟨x, y, rfl⟩ : ∃ x y, a1 = [x, y] := by
    match a1, h1 with
    | [x, y], _ => exact ⟨x, y, rfl⟩
  obtain ⟨x0, x1⟩ := u64_bd (h2 x (by simp))
  obtain ⟨y0, y1⟩ := u64_bd (h2 y (by simp))
  obtain ⟨f0, f1⟩ := u32_bd h3
  obtain ⟨x, rfl⟩ := Int.eq_ofNat_of_zero_le x0
  obtain ⟨y, rfl⟩ := Int.eq_ofNat_of_zero_le y0
  obtain ⟨fl, rfl⟩ := Int.eq_ofNat_of_zero_le f0
  obtain ⟨v, e, v1, v2⟩ := Float_both a0 x y (by omega) (by omega)
  obtain ⟨c, c1, c2⟩ := Flags_both x y fl (by omega) (by omega) (by omega)
  unfold halterlaw11_AluFloats.f
  simp only [List.getD_cons_zero, List.getD_cons_succ]
  rw [v1, bind_go, v2, bind_go]
  dsimp only
  rw [if_pos rfl]
  show Option.bind (some (e.getD 0)) _ = _
  rw [bind_go, if_pos rfl, c1, bind_go, c2, bind_go, if_pos rfl, sure_t, bind_go]

end Go.Proofs.YtfoejbiifolnnaaDoor.Pure
