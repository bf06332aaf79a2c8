-- Laid by this session's own printer (pp.py in the repo's wip/pp).
import Derived.Test.YtfoobmiknmpeeaaDoorPCallsNamesx0
namespace Go.Proofs.YtfoobmiknmpeeaaDoor.PCallsNames
open Go.RowKit Go.Proofs.YtfoobmiknmpeeaaDoorW.PrintWords Go.Proofs.YtfoobmiknmpeeaaDoorW.PrintLast Go.Proofs.YtfoobmiknmpeeaaDoorW.PrintMore Go.Proofs.YtfoobmiknmpeeaaDoorX
attribute [local go_sem] max2_int min2_int max_two min_two max_three min_three max_four min_four   -- for this text's walks alone
set_option linter.unusedVariables false
set_option linter.unusedSimpArgs false
set_option linter.unnecessarySimpa false

/-! ### halterref28_Calls: function 5 -/
def halterref28_Calls.f  : Option (List ByteArray × List Int) := some ((([(⟨#[101, 120, 105, 116]⟩ : ByteArray), (⟨#[102, 111, 114, 107]⟩ : ByteArray), (⟨#[101, 120, 101, 99]⟩ : ByteArray), (⟨#[119, 97, 105, 116]⟩ : ByteArray), (⟨#[107, 105, 108, 108]⟩ : ByteArray), (⟨#[103, 101, 116, 112, 105, 100]⟩ : ByteArray), (⟨#[103, 101, 116, 112, 112, 105, 100]⟩ : ByteArray), (⟨#[111, 112, 101, 110]⟩ : ByteArray), (⟨#[99, 108, 111, 115, 101]⟩ : ByteArray), (⟨#[114, 101, 97, 100]⟩ : ByteArray), (⟨#[119, 114, 105, 116, 101]⟩ : ByteArray), (⟨#[115, 101, 101, 107]⟩ : ByteArray), (⟨#[100, 117, 112]⟩ : ByteArray), (⟨#[112, 105, 112, 101]⟩ : ByteArray), (⟨#[109, 107, 100, 105, 114]⟩ : ByteArray), (⟨#[117, 110, 108, 105, 110, 107]⟩ : ByteArray), (⟨#[109, 109, 97, 112]⟩ : ByteArray), (⟨#[109, 117, 110, 109, 97, 112]⟩ : ByteArray), (⟨#[109, 112, 114, 111, 116, 101, 99, 116]⟩ : ByteArray), (⟨#[98, 114, 107]⟩ : ByteArray), (⟨#[115, 105, 103, 97, 99, 116]⟩ : ByteArray), (⟨#[115, 105, 103, 109, 97, 115, 107]⟩ : ByteArray), (⟨#[115, 105, 103, 114, 101, 116, 117, 114, 110]⟩ : ByteArray), (⟨#[112, 116, 114, 97, 99, 101]⟩ : ByteArray), (⟨#[115, 101, 116, 117, 105, 100]⟩ : ByteArray), (⟨#[103, 101, 116, 117, 105, 100]⟩ : ByteArray), (⟨#[116, 105, 109, 101]⟩ : ByteArray), (⟨#[97, 108, 97, 114, 109]⟩ : ByteArray), (⟨#[112, 97, 117, 115, 101]⟩ : ByteArray)] : List ByteArray)), (([1, 0, 1, 3, 2, 0, 0, 2, 1, 3, 3, 3, 1, 1, 1, 1, 3, 2, 3, 1, 2, 2, 0, 4, 1, 0, 0, 1, 0] : List Int)))
set_option maxHeartbeats 8000000 in
set_option maxRecDepth 100000 in
theorem halterref28_Calls.calls  (r1 : List ByteArray) (r2 : List Int) (w : World) (h : halterref28_Calls.f  = some (r1, r2)) :
    Calls Tryd.prog 5 #[] w fun e w' => ∃ v0_ v1_ : Value, e = .returned (.tuple #[v0_, v1_]) ∧ Kd.R Kd.string 9 w' w.heap.size (fun _ => True) v0_ r1 ∧ Kd.R (Kd.int .i64) 3 w' w.heap.size (fun _ => True) v1_ r2 ∧ Below w.heap.size w w' := by
  have HB := Aside0.mk (Below.refl w.heap.size w)
  have H : (some ((([(⟨#[101, 120, 105, 116]⟩ : ByteArray), (⟨#[102, 111, 114, 107]⟩ : ByteArray), (⟨#[101, 120, 101, 99]⟩ : ByteArray), (⟨#[119, 97, 105, 116]⟩ : ByteArray), (⟨#[107, 105, 108, 108]⟩ : ByteArray), (⟨#[103, 101, 116, 112, 105, 100]⟩ : ByteArray), (⟨#[103, 101, 116, 112, 112, 105, 100]⟩ : ByteArray), (⟨#[111, 112, 101, 110]⟩ : ByteArray), (⟨#[99, 108, 111, 115, 101]⟩ : ByteArray), (⟨#[114, 101, 97, 100]⟩ : ByteArray), (⟨#[119, 114, 105, 116, 101]⟩ : ByteArray), (⟨#[115, 101, 101, 107]⟩ : ByteArray), (⟨#[100, 117, 112]⟩ : ByteArray), (⟨#[112, 105, 112, 101]⟩ : ByteArray), (⟨#[109, 107, 100, 105, 114]⟩ : ByteArray), (⟨#[117, 110, 108, 105, 110, 107]⟩ : ByteArray), (⟨#[109, 109, 97, 112]⟩ : ByteArray), (⟨#[109, 117, 110, 109, 97, 112]⟩ : ByteArray), (⟨#[109, 112, 114, 111, 116, 101, 99, 116]⟩ : ByteArray), (⟨#[98, 114, 107]⟩ : ByteArray), (⟨#[115, 105, 103, 97, 99, 116]⟩ : ByteArray), (⟨#[115, 105, 103, 109, 97, 115, 107]⟩ : ByteArray), (⟨#[115, 105, 103, 114, 101, 116, 117, 114, 110]⟩ : ByteArray), (⟨#[112, 116, 114, 97, 99, 101]⟩ : ByteArray), (⟨#[115, 101, 116, 117, 105, 100]⟩ : ByteArray), (⟨#[103, 101, 116, 117, 105, 100]⟩ : ByteArray), (⟨#[116, 105, 109, 101]⟩ : ByteArray), (⟨#[97, 108, 97, 114, 109]⟩ : ByteArray), (⟨#[112, 97, 117, 115, 101]⟩ : ByteArray)] : List ByteArray)), (([1, 0, 1, 3, 2, 0, 0, 2, 1, 3, 3, 3, 1, 1, 1, 1, 3, 2, 3, 1, 2, 2, 0, 4, 1, 0, 0, 1, 0] : List Int)))) = some (r1, r2) := h
  clear h
  obtain ⟨y101, hy101⟩ : ∃ y_ : List ByteArray, y_ = (([(⟨#[101, 120, 105, 116]⟩ : ByteArray), (⟨#[102, 111, 114, 107]⟩ : ByteArray), (⟨#[101, 120, 101, 99]⟩ : ByteArray), (⟨#[119, 97, 105, 116]⟩ : ByteArray), (⟨#[107, 105, 108, 108]⟩ : ByteArray), (⟨#[103, 101, 116, 112, 105, 100]⟩ : ByteArray), (⟨#[103, 101, 116, 112, 112, 105, 100]⟩ : ByteArray), (⟨#[111, 112, 101, 110]⟩ : ByteArray), (⟨#[99, 108, 111, 115, 101]⟩ : ByteArray), (⟨#[114, 101, 97, 100]⟩ : ByteArray), (⟨#[119, 114, 105, 116, 101]⟩ : ByteArray), (⟨#[115, 101, 101, 107]⟩ : ByteArray), (⟨#[100, 117, 112]⟩ : ByteArray), (⟨#[112, 105, 112, 101]⟩ : ByteArray), (⟨#[109, 107, 100, 105, 114]⟩ : ByteArray), (⟨#[117, 110, 108, 105, 110, 107]⟩ : ByteArray), (⟨#[109, 109, 97, 112]⟩ : ByteArray), (⟨#[109, 117, 110, 109, 97, 112]⟩ : ByteArray), (⟨#[109, 112, 114, 111, 116, 101, 99, 116]⟩ : ByteArray), (⟨#[98, 114, 107]⟩ : ByteArray), (⟨#[115, 105, 103, 97, 99, 116]⟩ : ByteArray), (⟨#[115, 105, 103, 109, 97, 115, 107]⟩ : ByteArray), (⟨#[115, 105, 103, 114, 101, 116, 117, 114, 110]⟩ : ByteArray), (⟨#[112, 116, 114, 97, 99, 101]⟩ : ByteArray), (⟨#[115, 101, 116, 117, 105, 100]⟩ : ByteArray), (⟨#[103, 101, 116, 117, 105, 100]⟩ : ByteArray), (⟨#[116, 105, 109, 101]⟩ : ByteArray), (⟨#[97, 108, 97, 114, 109]⟩ : ByteArray), (⟨#[112, 97, 117, 115, 101]⟩ : ByteArray)] : List ByteArray)) := ⟨_, rfl⟩
  replace H : (some (y101, (([1, 0, 1, 3, 2, 0, 0, 2, 1, 3, 3, 3, 1, 1, 1, 1, 3, 2, 3, 1, 2, 2, 0, 4, 1, 0, 0, 1, 0] : List Int)))) = some (r1, r2) := by first | (rw [hy101]; with_reducible exact H) | (have H2_ := (Option.bind_some _ _).symm.trans H; rw [hy101]; with_reducible exact H2_) | (have H2_ := (Option.bind_some _ _).symm.trans H; with_reducible exact H2_) | with_reducible exact H | (rw [hy101]; exact H) | exact H
  have Ny101 := Aside0.mk hy101
  clear hy101
  obtain ⟨y104, hy104⟩ : ∃ y_ : List Int, y_ = (([1, 0, 1, 3, 2, 0, 0, 2, 1, 3, 3, 3, 1, 1, 1, 1, 3, 2, 3, 1, 2, 2, 0, 4, 1, 0, 0, 1, 0] : List Int)) := ⟨_, rfl⟩
  replace H : (some (y101, y104)) = some (r1, r2) := by first | (rw [hy104]; with_reducible exact H) | (have H2_ := (Option.bind_some _ _).symm.trans H; rw [hy104]; with_reducible exact H2_) | (have H2_ := (Option.bind_some _ _).symm.trans H; with_reducible exact H2_) | with_reducible exact H | (rw [hy104]; exact H) | exact H
  have Ny104 := Aside0.mk hy104
  clear hy104
  simp only [Option.some.injEq, Prod.mk.injEq] at H
  obtain ⟨rfl, rfl⟩ := H
  go_enter Tryd.func5, Tryd.ntmps5
  go_wp2_with (first | ((with_reducible refine gate_dst (N := 2) rfl ?_); refine Kd.R_lit Kd.string _ 9 ?hg (N := 2) ?hd (xs := ([(⟨#[101, 120, 105, 116]⟩ : ByteArray), (⟨#[102, 111, 114, 107]⟩ : ByteArray), (⟨#[101, 120, 101, 99]⟩ : ByteArray), (⟨#[119, 97, 105, 116]⟩ : ByteArray), (⟨#[107, 105, 108, 108]⟩ : ByteArray), (⟨#[103, 101, 116, 112, 105, 100]⟩ : ByteArray), (⟨#[103, 101, 116, 112, 112, 105, 100]⟩ : ByteArray), (⟨#[111, 112, 101, 110]⟩ : ByteArray), (⟨#[99, 108, 111, 115, 101]⟩ : ByteArray), (⟨#[114, 101, 97, 100]⟩ : ByteArray), (⟨#[119, 114, 105, 116, 101]⟩ : ByteArray), (⟨#[115, 101, 101, 107]⟩ : ByteArray), (⟨#[100, 117, 112]⟩ : ByteArray), (⟨#[112, 105, 112, 101]⟩ : ByteArray), (⟨#[109, 107, 100, 105, 114]⟩ : ByteArray), (⟨#[117, 110, 108, 105, 110, 107]⟩ : ByteArray), (⟨#[109, 109, 97, 112]⟩ : ByteArray), (⟨#[109, 117, 110, 109, 97, 112]⟩ : ByteArray), (⟨#[109, 112, 114, 111, 116, 101, 99, 116]⟩ : ByteArray), (⟨#[98, 114, 107]⟩ : ByteArray), (⟨#[115, 105, 103, 97, 99, 116]⟩ : ByteArray), (⟨#[115, 105, 103, 109, 97, 115, 107]⟩ : ByteArray), (⟨#[115, 105, 103, 114, 101, 116, 117, 114, 110]⟩ : ByteArray), (⟨#[112, 116, 114, 97, 99, 101]⟩ : ByteArray), (⟨#[115, 101, 116, 117, 105, 100]⟩ : ByteArray), (⟨#[103, 101, 116, 117, 105, 100]⟩ : ByteArray), (⟨#[116, 105, 109, 101]⟩ : ByteArray), (⟨#[97, 108, 97, 114, 109]⟩ : ByteArray), (⟨#[112, 97, 117, 115, 101]⟩ : ByteArray)] : List ByteArray)) (inner := [.string (⟨#[101, 120, 105, 116]⟩ : ByteArray), .string (⟨#[102, 111, 114, 107]⟩ : ByteArray), .string (⟨#[101, 120, 101, 99]⟩ : ByteArray), .string (⟨#[119, 97, 105, 116]⟩ : ByteArray), .string (⟨#[107, 105, 108, 108]⟩ : ByteArray), .string (⟨#[103, 101, 116, 112, 105, 100]⟩ : ByteArray), .string (⟨#[103, 101, 116, 112, 112, 105, 100]⟩ : ByteArray), .string (⟨#[111, 112, 101, 110]⟩ : ByteArray), .string (⟨#[99, 108, 111, 115, 101]⟩ : ByteArray), .string (⟨#[114, 101, 97, 100]⟩ : ByteArray), .string (⟨#[119, 114, 105, 116, 101]⟩ : ByteArray), .string (⟨#[115, 101, 101, 107]⟩ : ByteArray), .string (⟨#[100, 117, 112]⟩ : ByteArray), .string (⟨#[112, 105, 112, 101]⟩ : ByteArray), .string (⟨#[109, 107, 100, 105, 114]⟩ : ByteArray), .string (⟨#[117, 110, 108, 105, 110, 107]⟩ : ByteArray), .string (⟨#[109, 109, 97, 112]⟩ : ByteArray), .string (⟨#[109, 117, 110, 109, 97, 112]⟩ : ByteArray), .string (⟨#[109, 112, 114, 111, 116, 101, 99, 116]⟩ : ByteArray), .string (⟨#[98, 114, 107]⟩ : ByteArray), .string (⟨#[115, 105, 103, 97, 99, 116]⟩ : ByteArray), .string (⟨#[115, 105, 103, 109, 97, 115, 107]⟩ : ByteArray), .string (⟨#[115, 105, 103, 114, 101, 116, 117, 114, 110]⟩ : ByteArray), .string (⟨#[112, 116, 114, 97, 99, 101]⟩ : ByteArray), .string (⟨#[115, 101, 116, 117, 105, 100]⟩ : ByteArray), .string (⟨#[103, 101, 116, 117, 105, 100]⟩ : ByteArray), .string (⟨#[116, 105, 109, 101]⟩ : ByteArray), .string (⟨#[97, 108, 97, 114, 109]⟩ : ByteArray), .string (⟨#[112, 97, 117, 115, 101]⟩ : ByteArray)]) (ok := fun _ => True) (okp := fun _ => True) ?hr ?hp (fun _ hk => hk) trivial (Below.refl _ _) (Nat.le_refl _) (by simp) ?_; (case hd => rfl); (case hg => rfl); (case hr => first | (go_simp; done) | (go_simp; rfl)); (case hp => exact (Reps.one (show Kd.M Kd.string _ _ _ (⟨#[101, 120, 105, 116]⟩ : ByteArray) [.string (⟨#[101, 120, 105, 116]⟩ : ByteArray)] from rfl) (Reps.one (show Kd.M Kd.string _ _ _ (⟨#[102, 111, 114, 107]⟩ : ByteArray) [.string (⟨#[102, 111, 114, 107]⟩ : ByteArray)] from rfl) (Reps.one (show Kd.M Kd.string _ _ _ (⟨#[101, 120, 101, 99]⟩ : ByteArray) [.string (⟨#[101, 120, 101, 99]⟩ : ByteArray)] from rfl) (Reps.one (show Kd.M Kd.string _ _ _ (⟨#[119, 97, 105, 116]⟩ : ByteArray) [.string (⟨#[119, 97, 105, 116]⟩ : ByteArray)] from rfl) (Reps.one (show Kd.M Kd.string _ _ _ (⟨#[107, 105, 108, 108]⟩ : ByteArray) [.string (⟨#[107, 105, 108, 108]⟩ : ByteArray)] from rfl) (Reps.one (show Kd.M Kd.string _ _ _ (⟨#[103, 101, 116, 112, 105, 100]⟩ : ByteArray) [.string (⟨#[103, 101, 116, 112, 105, 100]⟩ : ByteArray)] from rfl) (Reps.one (show Kd.M Kd.string _ _ _ (⟨#[103, 101, 116, 112, 112, 105, 100]⟩ : ByteArray) [.string (⟨#[103, 101, 116, 112, 112, 105, 100]⟩ : ByteArray)] from rfl) (Reps.one (show Kd.M Kd.string _ _ _ (⟨#[111, 112, 101, 110]⟩ : ByteArray) [.string (⟨#[111, 112, 101, 110]⟩ : ByteArray)] from rfl) (Reps.one (show Kd.M Kd.string _ _ _ (⟨#[99, 108, 111, 115, 101]⟩ : ByteArray) [.string (⟨#[99, 108, 111, 115, 101]⟩ : ByteArray)] from rfl) (Reps.one (show Kd.M Kd.string _ _ _ (⟨#[114, 101, 97, 100]⟩ : ByteArray) [.string (⟨#[114, 101, 97, 100]⟩ : ByteArray)] from rfl) (Reps.one (show Kd.M Kd.string _ _ _ (⟨#[119, 114, 105, 116, 101]⟩ : ByteArray) [.string (⟨#[119, 114, 105, 116, 101]⟩ : ByteArray)] from rfl) (Reps.one (show Kd.M Kd.string _ _ _ (⟨#[115, 101, 101, 107]⟩ : ByteArray) [.string (⟨#[115, 101, 101, 107]⟩ : ByteArray)] from rfl) (Reps.one (show Kd.M Kd.string _ _ _ (⟨#[100, 117, 112]⟩ : ByteArray) [.string (⟨#[100, 117, 112]⟩ : ByteArray)] from rfl) (Reps.one (show Kd.M Kd.string _ _ _ (⟨#[112, 105, 112, 101]⟩ : ByteArray) [.string (⟨#[112, 105, 112, 101]⟩ : ByteArray)] from rfl) (Reps.one (show Kd.M Kd.string _ _ _ (⟨#[109, 107, 100, 105, 114]⟩ : ByteArray) [.string (⟨#[109, 107, 100, 105, 114]⟩ : ByteArray)] from rfl) (Reps.one (show Kd.M Kd.string _ _ _ (⟨#[117, 110, 108, 105, 110, 107]⟩ : ByteArray) [.string (⟨#[117, 110, 108, 105, 110, 107]⟩ : ByteArray)] from rfl) (Reps.one (show Kd.M Kd.string _ _ _ (⟨#[109, 109, 97, 112]⟩ : ByteArray) [.string (⟨#[109, 109, 97, 112]⟩ : ByteArray)] from rfl) (Reps.one (show Kd.M Kd.string _ _ _ (⟨#[109, 117, 110, 109, 97, 112]⟩ : ByteArray) [.string (⟨#[109, 117, 110, 109, 97, 112]⟩ : ByteArray)] from rfl) (Reps.one (show Kd.M Kd.string _ _ _ (⟨#[109, 112, 114, 111, 116, 101, 99, 116]⟩ : ByteArray) [.string (⟨#[109, 112, 114, 111, 116, 101, 99, 116]⟩ : ByteArray)] from rfl) (Reps.one (show Kd.M Kd.string _ _ _ (⟨#[98, 114, 107]⟩ : ByteArray) [.string (⟨#[98, 114, 107]⟩ : ByteArray)] from rfl) (Reps.one (show Kd.M Kd.string _ _ _ (⟨#[115, 105, 103, 97, 99, 116]⟩ : ByteArray) [.string (⟨#[115, 105, 103, 97, 99, 116]⟩ : ByteArray)] from rfl) (Reps.one (show Kd.M Kd.string _ _ _ (⟨#[115, 105, 103, 109, 97, 115, 107]⟩ : ByteArray) [.string (⟨#[115, 105, 103, 109, 97, 115, 107]⟩ : ByteArray)] from rfl) (Reps.one (show Kd.M Kd.string _ _ _ (⟨#[115, 105, 103, 114, 101, 116, 117, 114, 110]⟩ : ByteArray) [.string (⟨#[115, 105, 103, 114, 101, 116, 117, 114, 110]⟩ : ByteArray)] from rfl) (Reps.one (show Kd.M Kd.string _ _ _ (⟨#[112, 116, 114, 97, 99, 101]⟩ : ByteArray) [.string (⟨#[112, 116, 114, 97, 99, 101]⟩ : ByteArray)] from rfl) (Reps.one (show Kd.M Kd.string _ _ _ (⟨#[115, 101, 116, 117, 105, 100]⟩ : ByteArray) [.string (⟨#[115, 101, 116, 117, 105, 100]⟩ : ByteArray)] from rfl) (Reps.one (show Kd.M Kd.string _ _ _ (⟨#[103, 101, 116, 117, 105, 100]⟩ : ByteArray) [.string (⟨#[103, 101, 116, 117, 105, 100]⟩ : ByteArray)] from rfl) (Reps.one (show Kd.M Kd.string _ _ _ (⟨#[116, 105, 109, 101]⟩ : ByteArray) [.string (⟨#[116, 105, 109, 101]⟩ : ByteArray)] from rfl) (Reps.one (show Kd.M Kd.string _ _ _ (⟨#[97, 108, 97, 114, 109]⟩ : ByteArray) [.string (⟨#[97, 108, 97, 114, 109]⟩ : ByteArray)] from rfl) (Reps.one (show Kd.M Kd.string _ _ _ (⟨#[112, 97, 117, 115, 101]⟩ : ByteArray) [.string (⟨#[112, 97, 117, 115, 101]⟩ : ByteArray)] from rfl) (Reps.none _ _))))))))))))))))))))))))))))))); intro v102 w1 ho2 hb hg_ hnew_; clear hg_ hnew_; (first | rw [← Ny101.out] at ho2 | (simp only [Int.reduceToNat] at ho2; rw [← Ny101.out] at ho2)); have n0_ := Aside0.mk (Kd.R_lower ho2 (below_size (by repeat (first | (with_reducible first | exact HB.out | apply below_alloc | apply pw_below_drewN | apply below_drew1) | exact HB.out | (with_reducible exact Below.refl _ _))))); have n1_ := Aside0.mk (below_step (by repeat (first | (with_reducible first | exact HB.out | apply below_alloc | apply pw_below_drewN | apply below_drew1) | exact HB.out | (with_reducible exact Below.refl _ _))) hb); clear HB; have HO103 := n0_; have HB := n1_; clear n0_ n1_; clear hb ho2) | ((with_reducible refine gate_dst (N := 3) rfl ?_); refine Kd.R_lit (Kd.int .i64) _ 3 ?hg (N := 3) ?hd (xs := ([1, 0, 1, 3, 2, 0, 0, 2, 1, 3, 3, 3, 1, 1, 1, 1, 3, 2, 3, 1, 2, 2, 0, 4, 1, 0, 0, 1, 0] : List Int)) (inner := [.int .i64 1, .int .i64 0, .int .i64 1, .int .i64 3, .int .i64 2, .int .i64 0, .int .i64 0, .int .i64 2, .int .i64 1, .int .i64 3, .int .i64 3, .int .i64 3, .int .i64 1, .int .i64 1, .int .i64 1, .int .i64 1, .int .i64 3, .int .i64 2, .int .i64 3, .int .i64 1, .int .i64 2, .int .i64 2, .int .i64 0, .int .i64 4, .int .i64 1, .int .i64 0, .int .i64 0, .int .i64 1, .int .i64 0]) (ok := fun _ => True) (okp := fun _ => True) ?hr ?hp (fun _ hk => hk) trivial (Below.refl _ _) (Nat.le_refl _) (by simp) ?_; (case hd => rfl); (case hg => rfl); (case hr => first | (go_simp; done) | (go_simp; rfl)); (case hp => exact (Reps.one (show Kd.M (Kd.int .i64) _ _ _ 1 [.int .i64 1] from rfl) (Reps.one (show Kd.M (Kd.int .i64) _ _ _ 0 [.int .i64 0] from rfl) (Reps.one (show Kd.M (Kd.int .i64) _ _ _ 1 [.int .i64 1] from rfl) (Reps.one (show Kd.M (Kd.int .i64) _ _ _ 3 [.int .i64 3] from rfl) (Reps.one (show Kd.M (Kd.int .i64) _ _ _ 2 [.int .i64 2] from rfl) (Reps.one (show Kd.M (Kd.int .i64) _ _ _ 0 [.int .i64 0] from rfl) (Reps.one (show Kd.M (Kd.int .i64) _ _ _ 0 [.int .i64 0] from rfl) (Reps.one (show Kd.M (Kd.int .i64) _ _ _ 2 [.int .i64 2] from rfl) (Reps.one (show Kd.M (Kd.int .i64) _ _ _ 1 [.int .i64 1] from rfl) (Reps.one (show Kd.M (Kd.int .i64) _ _ _ 3 [.int .i64 3] from rfl) (Reps.one (show Kd.M (Kd.int .i64) _ _ _ 3 [.int .i64 3] from rfl) (Reps.one (show Kd.M (Kd.int .i64) _ _ _ 3 [.int .i64 3] from rfl) (Reps.one (show Kd.M (Kd.int .i64) _ _ _ 1 [.int .i64 1] from rfl) (Reps.one (show Kd.M (Kd.int .i64) _ _ _ 1 [.int .i64 1] from rfl) (Reps.one (show Kd.M (Kd.int .i64) _ _ _ 1 [.int .i64 1] from rfl) (Reps.one (show Kd.M (Kd.int .i64) _ _ _ 1 [.int .i64 1] from rfl) (Reps.one (show Kd.M (Kd.int .i64) _ _ _ 3 [.int .i64 3] from rfl) (Reps.one (show Kd.M (Kd.int .i64) _ _ _ 2 [.int .i64 2] from rfl) (Reps.one (show Kd.M (Kd.int .i64) _ _ _ 3 [.int .i64 3] from rfl) (Reps.one (show Kd.M (Kd.int .i64) _ _ _ 1 [.int .i64 1] from rfl) (Reps.one (show Kd.M (Kd.int .i64) _ _ _ 2 [.int .i64 2] from rfl) (Reps.one (show Kd.M (Kd.int .i64) _ _ _ 2 [.int .i64 2] from rfl) (Reps.one (show Kd.M (Kd.int .i64) _ _ _ 0 [.int .i64 0] from rfl) (Reps.one (show Kd.M (Kd.int .i64) _ _ _ 4 [.int .i64 4] from rfl) (Reps.one (show Kd.M (Kd.int .i64) _ _ _ 1 [.int .i64 1] from rfl) (Reps.one (show Kd.M (Kd.int .i64) _ _ _ 0 [.int .i64 0] from rfl) (Reps.one (show Kd.M (Kd.int .i64) _ _ _ 0 [.int .i64 0] from rfl) (Reps.one (show Kd.M (Kd.int .i64) _ _ _ 1 [.int .i64 1] from rfl) (Reps.one (show Kd.M (Kd.int .i64) _ _ _ 0 [.int .i64 0] from rfl) (Reps.none _ _))))))))))))))))))))))))))))))); intro v105 w3 ho4 hb hg_ hnew_; clear hg_ hnew_; (first | rw [← Ny104.out] at ho4 | (simp only [Int.reduceToNat] at ho4; rw [← Ny104.out] at ho4)); have n0_ := Aside0.mk (Kd.R_below (by (with_reducible repeat (first | apply Kd.R_alloc | apply Kd.R_drewN | apply Kd.R_drew)); exact HO103.out) hb); have n1_ := Aside0.mk (Kd.R_lower ho4 (below_size (by repeat (first | (with_reducible first | exact HB.out | apply below_alloc | apply pw_below_drewN | apply below_drew1) | exact HB.out | (with_reducible exact Below.refl _ _))))); have n2_ := Aside0.mk (below_step (by repeat (first | (with_reducible first | exact HB.out | apply below_alloc | apply pw_below_drewN | apply below_drew1) | exact HB.out | (with_reducible exact Below.refl _ _))) hb); clear HO103; clear HB; have HO103 := n0_; have HO106 := n1_; have HB := n2_; clear n0_ n1_ n2_; clear hb ho4))
  go_ret2
  exact ⟨_, _, by first | rfl | (simp [errW_none, errW_some] <;> rfl) | (simp [*, errW_none, errW_some] <;> rfl), by (with_reducible repeat (first | apply Kd.R_alloc | apply Kd.R_drewN | apply Kd.R_drew)); exact HO103.out, by (with_reducible repeat (first | apply Kd.R_alloc | apply Kd.R_drewN | apply Kd.R_drew)); exact HO106.out, by repeat (first | (with_reducible first | exact HB.out | apply below_alloc | apply pw_below_drewN | apply below_drew1) | exact HB.out | (with_reducible exact Below.refl _ _))⟩

/-! ### halterref28_Asks: function 6 -/
def halterref28_Asks.f  : Option (List ByteArray) := some (([(⟨#[116, 114, 97, 99, 101, 109, 101]⟩ : ByteArray), (⟨#[112, 101, 101, 107]⟩ : ByteArray), (⟨#[112, 101, 101, 107, 117, 115, 101, 114]⟩ : ByteArray), (⟨#[112, 111, 107, 101]⟩ : ByteArray), (⟨#[112, 111, 107, 101, 117, 115, 101, 114]⟩ : ByteArray), (⟨#[99, 111, 110, 116]⟩ : ByteArray), (⟨#[115, 116, 101, 112]⟩ : ByteArray), (⟨#[115, 121, 115, 99, 97, 108, 108]⟩ : ByteArray), (⟨#[103, 101, 116, 114, 101, 103, 115]⟩ : ByteArray), (⟨#[115, 101, 116, 114, 101, 103, 115]⟩ : ByteArray), (⟨#[97, 116, 116, 97, 99, 104]⟩ : ByteArray), (⟨#[100, 101, 116, 97, 99, 104]⟩ : ByteArray), (⟨#[113, 117, 105, 116]⟩ : ByteArray)] : List ByteArray))
set_option maxHeartbeats 8000000 in
set_option maxRecDepth 100000 in
theorem halterref28_Asks.calls  (r : List ByteArray) (w : World) (h : halterref28_Asks.f  = some r) :
    Calls Tryd.prog 6 #[] w fun e w' => ∃ v0_ : Value, e = .returned (v0_) ∧ Kd.R Kd.string 9 w' w.heap.size (fun _ => True) v0_ r ∧ Below w.heap.size w w' := by
  have HB := Aside0.mk (Below.refl w.heap.size w)
  have H : (some (([(⟨#[116, 114, 97, 99, 101, 109, 101]⟩ : ByteArray), (⟨#[112, 101, 101, 107]⟩ : ByteArray), (⟨#[112, 101, 101, 107, 117, 115, 101, 114]⟩ : ByteArray), (⟨#[112, 111, 107, 101]⟩ : ByteArray), (⟨#[112, 111, 107, 101, 117, 115, 101, 114]⟩ : ByteArray), (⟨#[99, 111, 110, 116]⟩ : ByteArray), (⟨#[115, 116, 101, 112]⟩ : ByteArray), (⟨#[115, 121, 115, 99, 97, 108, 108]⟩ : ByteArray), (⟨#[103, 101, 116, 114, 101, 103, 115]⟩ : ByteArray), (⟨#[115, 101, 116, 114, 101, 103, 115]⟩ : ByteArray), (⟨#[97, 116, 116, 97, 99, 104]⟩ : ByteArray), (⟨#[100, 101, 116, 97, 99, 104]⟩ : ByteArray), (⟨#[113, 117, 105, 116]⟩ : ByteArray)] : List ByteArray))) = some r := h
  clear h
  obtain ⟨y107, hy107⟩ : ∃ y_ : List ByteArray, y_ = (([(⟨#[116, 114, 97, 99, 101, 109, 101]⟩ : ByteArray), (⟨#[112, 101, 101, 107]⟩ : ByteArray), (⟨#[112, 101, 101, 107, 117, 115, 101, 114]⟩ : ByteArray), (⟨#[112, 111, 107, 101]⟩ : ByteArray), (⟨#[112, 111, 107, 101, 117, 115, 101, 114]⟩ : ByteArray), (⟨#[99, 111, 110, 116]⟩ : ByteArray), (⟨#[115, 116, 101, 112]⟩ : ByteArray), (⟨#[115, 121, 115, 99, 97, 108, 108]⟩ : ByteArray), (⟨#[103, 101, 116, 114, 101, 103, 115]⟩ : ByteArray), (⟨#[115, 101, 116, 114, 101, 103, 115]⟩ : ByteArray), (⟨#[97, 116, 116, 97, 99, 104]⟩ : ByteArray), (⟨#[100, 101, 116, 97, 99, 104]⟩ : ByteArray), (⟨#[113, 117, 105, 116]⟩ : ByteArray)] : List ByteArray)) := ⟨_, rfl⟩
  replace H : (some y107) = some r := by first | (rw [hy107]; with_reducible exact H) | (have H2_ := (Option.bind_some _ _).symm.trans H; rw [hy107]; with_reducible exact H2_) | (have H2_ := (Option.bind_some _ _).symm.trans H; with_reducible exact H2_) | with_reducible exact H | (rw [hy107]; exact H) | exact H
  have Ny107 := Aside0.mk hy107
  clear hy107
  obtain rfl := Option.some.inj H
  go_enter Tryd.func6, Tryd.ntmps6
  go_wp2_with (first | ((with_reducible refine gate_dst (N := 1) rfl ?_); refine Kd.R_lit Kd.string _ 9 ?hg (N := 1) ?hd (xs := ([(⟨#[116, 114, 97, 99, 101, 109, 101]⟩ : ByteArray), (⟨#[112, 101, 101, 107]⟩ : ByteArray), (⟨#[112, 101, 101, 107, 117, 115, 101, 114]⟩ : ByteArray), (⟨#[112, 111, 107, 101]⟩ : ByteArray), (⟨#[112, 111, 107, 101, 117, 115, 101, 114]⟩ : ByteArray), (⟨#[99, 111, 110, 116]⟩ : ByteArray), (⟨#[115, 116, 101, 112]⟩ : ByteArray), (⟨#[115, 121, 115, 99, 97, 108, 108]⟩ : ByteArray), (⟨#[103, 101, 116, 114, 101, 103, 115]⟩ : ByteArray), (⟨#[115, 101, 116, 114, 101, 103, 115]⟩ : ByteArray), (⟨#[97, 116, 116, 97, 99, 104]⟩ : ByteArray), (⟨#[100, 101, 116, 97, 99, 104]⟩ : ByteArray), (⟨#[113, 117, 105, 116]⟩ : ByteArray)] : List ByteArray)) (inner := [.string (⟨#[116, 114, 97, 99, 101, 109, 101]⟩ : ByteArray), .string (⟨#[112, 101, 101, 107]⟩ : ByteArray), .string (⟨#[112, 101, 101, 107, 117, 115, 101, 114]⟩ : ByteArray), .string (⟨#[112, 111, 107, 101]⟩ : ByteArray), .string (⟨#[112, 111, 107, 101, 117, 115, 101, 114]⟩ : ByteArray), .string (⟨#[99, 111, 110, 116]⟩ : ByteArray), .string (⟨#[115, 116, 101, 112]⟩ : ByteArray), .string (⟨#[115, 121, 115, 99, 97, 108, 108]⟩ : ByteArray), .string (⟨#[103, 101, 116, 114, 101, 103, 115]⟩ : ByteArray), .string (⟨#[115, 101, 116, 114, 101, 103, 115]⟩ : ByteArray), .string (⟨#[97, 116, 116, 97, 99, 104]⟩ : ByteArray), .string (⟨#[100, 101, 116, 97, 99, 104]⟩ : ByteArray), .string (⟨#[113, 117, 105, 116]⟩ : ByteArray)]) (ok := fun _ => True) (okp := fun _ => True) ?hr ?hp (fun _ hk => hk) trivial (Below.refl _ _) (Nat.le_refl _) (by simp) ?_; (case hd => rfl); (case hg => rfl); (case hr => first | (go_simp; done) | (go_simp; rfl)); (case hp => exact (Reps.one (show Kd.M Kd.string _ _ _ (⟨#[116, 114, 97, 99, 101, 109, 101]⟩ : ByteArray) [.string (⟨#[116, 114, 97, 99, 101, 109, 101]⟩ : ByteArray)] from rfl) (Reps.one (show Kd.M Kd.string _ _ _ (⟨#[112, 101, 101, 107]⟩ : ByteArray) [.string (⟨#[112, 101, 101, 107]⟩ : ByteArray)] from rfl) (Reps.one (show Kd.M Kd.string _ _ _ (⟨#[112, 101, 101, 107, 117, 115, 101, 114]⟩ : ByteArray) [.string (⟨#[112, 101, 101, 107, 117, 115, 101, 114]⟩ : ByteArray)] from rfl) (Reps.one (show Kd.M Kd.string _ _ _ (⟨#[112, 111, 107, 101]⟩ : ByteArray) [.string (⟨#[112, 111, 107, 101]⟩ : ByteArray)] from rfl) (Reps.one (show Kd.M Kd.string _ _ _ (⟨#[112, 111, 107, 101, 117, 115, 101, 114]⟩ : ByteArray) [.string (⟨#[112, 111, 107, 101, 117, 115, 101, 114]⟩ : ByteArray)] from rfl) (Reps.one (show Kd.M Kd.string _ _ _ (⟨#[99, 111, 110, 116]⟩ : ByteArray) [.string (⟨#[99, 111, 110, 116]⟩ : ByteArray)] from rfl) (Reps.one (show Kd.M Kd.string _ _ _ (⟨#[115, 116, 101, 112]⟩ : ByteArray) [.string (⟨#[115, 116, 101, 112]⟩ : ByteArray)] from rfl) (Reps.one (show Kd.M Kd.string _ _ _ (⟨#[115, 121, 115, 99, 97, 108, 108]⟩ : ByteArray) [.string (⟨#[115, 121, 115, 99, 97, 108, 108]⟩ : ByteArray)] from rfl) (Reps.one (show Kd.M Kd.string _ _ _ (⟨#[103, 101, 116, 114, 101, 103, 115]⟩ : ByteArray) [.string (⟨#[103, 101, 116, 114, 101, 103, 115]⟩ : ByteArray)] from rfl) (Reps.one (show Kd.M Kd.string _ _ _ (⟨#[115, 101, 116, 114, 101, 103, 115]⟩ : ByteArray) [.string (⟨#[115, 101, 116, 114, 101, 103, 115]⟩ : ByteArray)] from rfl) (Reps.one (show Kd.M Kd.string _ _ _ (⟨#[97, 116, 116, 97, 99, 104]⟩ : ByteArray) [.string (⟨#[97, 116, 116, 97, 99, 104]⟩ : ByteArray)] from rfl) (Reps.one (show Kd.M Kd.string _ _ _ (⟨#[100, 101, 116, 97, 99, 104]⟩ : ByteArray) [.string (⟨#[100, 101, 116, 97, 99, 104]⟩ : ByteArray)] from rfl) (Reps.one (show Kd.M Kd.string _ _ _ (⟨#[113, 117, 105, 116]⟩ : ByteArray) [.string (⟨#[113, 117, 105, 116]⟩ : ByteArray)] from rfl) (Reps.none _ _))))))))))))))); intro v108 w1 ho2 hb hg_ hnew_; clear hg_ hnew_; (first | rw [← Ny107.out] at ho2 | (simp only [Int.reduceToNat] at ho2; rw [← Ny107.out] at ho2)); have n0_ := Aside0.mk (Kd.R_lower ho2 (below_size (by repeat (first | (with_reducible first | exact HB.out | apply below_alloc | apply pw_below_drewN | apply below_drew1) | exact HB.out | (with_reducible exact Below.refl _ _))))); have n1_ := Aside0.mk (below_step (by repeat (first | (with_reducible first | exact HB.out | apply below_alloc | apply pw_below_drewN | apply below_drew1) | exact HB.out | (with_reducible exact Below.refl _ _))) hb); clear HB; have HO109 := n0_; have HB := n1_; clear n0_ n1_; clear hb ho2))
  go_ret
  exact ⟨_, by first | rfl | (simp [errW_none, errW_some] <;> rfl) | (simp [*, errW_none, errW_some] <;> rfl), by (with_reducible repeat (first | apply Kd.R_alloc | apply Kd.R_drewN | apply Kd.R_drew)); exact HO109.out, by repeat (first | (with_reducible first | exact HB.out | apply below_alloc | apply pw_below_drewN | apply below_drew1) | exact HB.out | (with_reducible exact Below.refl _ _))⟩

def nameL : List ByteArray := [(⟨#[]⟩ : ByteArray), (⟨#[101, 120, 105, 116]⟩ : ByteArray), (⟨#[102, 111, 114, 107]⟩ : ByteArray), (⟨#[101, 120, 101, 99]⟩ : ByteArray), (⟨#[119, 97, 105, 116]⟩ : ByteArray), (⟨#[107, 105, 108, 108]⟩ : ByteArray), (⟨#[103, 101, 116, 112, 105, 100]⟩ : ByteArray), (⟨#[103, 101, 116, 112, 112, 105, 100]⟩ : ByteArray), (⟨#[111, 112, 101, 110]⟩ : ByteArray), (⟨#[99, 108, 111, 115, 101]⟩ : ByteArray), (⟨#[114, 101, 97, 100]⟩ : ByteArray), (⟨#[119, 114, 105, 116, 101]⟩ : ByteArray), (⟨#[115, 101, 101, 107]⟩ : ByteArray), (⟨#[100, 117, 112]⟩ : ByteArray), (⟨#[112, 105, 112, 101]⟩ : ByteArray), (⟨#[109, 107, 100, 105, 114]⟩ : ByteArray), (⟨#[117, 110, 108, 105, 110, 107]⟩ : ByteArray), (⟨#[109, 109, 97, 112]⟩ : ByteArray), (⟨#[109, 117, 110, 109, 97, 112]⟩ : ByteArray), (⟨#[109, 112, 114, 111, 116, 101, 99, 116]⟩ : ByteArray), (⟨#[98, 114, 107]⟩ : ByteArray), (⟨#[115, 105, 103, 97, 99, 116]⟩ : ByteArray), (⟨#[115, 105, 103, 109, 97, 115, 107]⟩ : ByteArray), (⟨#[115, 105, 103, 114, 101, 116, 117, 114, 110]⟩ : ByteArray), (⟨#[112, 116, 114, 97, 99, 101]⟩ : ByteArray), (⟨#[115, 101, 116, 117, 105, 100]⟩ : ByteArray), (⟨#[103, 101, 116, 117, 105, 100]⟩ : ByteArray), (⟨#[116, 105, 109, 101]⟩ : ByteArray), (⟨#[97, 108, 97, 114, 109]⟩ : ByteArray), (⟨#[112, 97, 117, 115, 101]⟩ : ByteArray)]
def nameA : Array Value := #[.string ⟨#[]⟩, .string ⟨#[101, 120, 105, 116]⟩, .string ⟨#[102, 111, 114, 107]⟩, .string ⟨#[101, 120, 101, 99]⟩, .string ⟨#[119, 97, 105, 116]⟩, .string ⟨#[107, 105, 108, 108]⟩, .string ⟨#[103, 101, 116, 112, 105, 100]⟩, .string ⟨#[103, 101, 116, 112, 112, 105, 100]⟩, .string ⟨#[111, 112, 101, 110]⟩, .string ⟨#[99, 108, 111, 115, 101]⟩, .string ⟨#[114, 101, 97, 100]⟩, .string ⟨#[119, 114, 105, 116, 101]⟩, .string ⟨#[115, 101, 101, 107]⟩, .string ⟨#[100, 117, 112]⟩, .string ⟨#[112, 105, 112, 101]⟩, .string ⟨#[109, 107, 100, 105, 114]⟩, .string ⟨#[117, 110, 108, 105, 110, 107]⟩, .string ⟨#[109, 109, 97, 112]⟩, .string ⟨#[109, 117, 110, 109, 97, 112]⟩, .string ⟨#[109, 112, 114, 111, 116, 101, 99, 116]⟩, .string ⟨#[98, 114, 107]⟩, .string ⟨#[115, 105, 103, 97, 99, 116]⟩, .string ⟨#[115, 105, 103, 109, 97, 115, 107]⟩, .string ⟨#[115, 105, 103, 114, 101, 116, 117, 114, 110]⟩, .string ⟨#[112, 116, 114, 97, 99, 101]⟩, .string ⟨#[115, 101, 116, 117, 105, 100]⟩, .string ⟨#[103, 101, 116, 117, 105, 100]⟩, .string ⟨#[116, 105, 109, 101]⟩, .string ⟨#[97, 108, 97, 114, 109]⟩, .string ⟨#[112, 97, 117, 115, 101]⟩]
theorem info43 : (Tryd.prog.info? 43).map (·.size) = some 30 := by kernel_rfl
section
variable {P : Program}
theorem wpList_built {ops : Array Oper} {rest : List Oper} {o : Oper} {a : Act} {w : World} {Q : Exit → Act → World → Prop} (hg : o.guard = none) (t : TypeId) (parts : Array (Nat × Operand)) (ho : o.op = .build t parts)
    (cells : Array Value) (hc : P.built t (parts.map fun (i, x) => (i, a.eval x)).toList = some cells) (h : wpList P ops Q rest (a.put o.dst (.agg cells)) w) : wpList P ops Q (o :: rest) a w := by
  refine wpList_build hg t parts ho (by rw [hc]; rfl) ?_
  rw [hc]
  exact h
end
set_option maxHeartbeats 4000000 in
set_option maxRecDepth 100000 in
theorem names_calls (w : World) : Calls Tryd.prog 17 #[] w fun e w' => e = .returned (.agg nameA) ∧ Below w.heap.size w w' := by
  go_enter Tryd.func17, Tryd.ntmps17
  go_wp2_with (first
    | ((with_reducible refine gate_dst (N := 1) rfl ?_); refine wpList_built rfl 43 _ rfl nameA (by kernel_rfl) ?_)
    | ((with_reducible refine gate_store (t := 43) (p := 0) (v := .tmp 1) rfl ?_); refine wpList_store_row rfl 43 _ _ rfl w.heap.size nameA rfl rfl 43 _ (heap_alloc_last w _) info43 (by kernel_rfl) (by kernel_rfl) ?_; rw [World.setRow_alloc_new]))
  try simp only [Exit.inBlock, Exit.then]
  refine bodyPost_ret (results_cell_row rfl _ _ w.heap.size 43 nameA (0, 0) _ rfl (heap_alloc_last w _) Tryd.underlying43 rfl info43) rfl ?_
  exact ⟨rfl, (Below.refl _ _).alloc (Nat.le_refl _) _⟩
theorem str_get (L : List ByteArray) (A : Array Value) (h : A = (L.map Value.string).toArray) (i : Nat) (hi : i < L.length) : A[i]? = some (.string (L.getD i ByteArray.empty)) := by
  subst h
  simp [hi]
theorem int_get (L : List Int) (A : Array Value) (h : A = (L.map (Value.int .i64)).toArray) (i : Nat) (hi : i < L.length) : A[i]? = some (.int .i64 (L.getD i 0)) := by
  subst h
  simp [hi]
theorem bd_bool {a lo hi : Int} (h : lo ≤ a ∧ a < hi) : decide (a < lo) = false ∧ decide (hi ≤ a) = false := ⟨decide_eq_false (by omega), decide_eq_false (by omega)⟩
theorem run_index_names (w : World) (i : Int) (h0 : 0 ≤ i) (h1 : i < 30) : (Instr.index 43 (.agg nameA) (.int .i64 i)).run Tryd.prog w = .ok (.string (nameL.getD i.toNat ByteArray.empty)) w := by
  have hk := str_get nameL nameA rfl i.toNat (show i.toNat < 30 by omega)
  simp [Instr.index, asIntOf, run_underlying Tryd.underlying43, go_sem, h0, h1, part, hk]

/-! ### slices_Index_string_string: function 18 -/
def slices_Index_string_string.l0 : Nat → List ByteArray → ByteArray → Int → Int → Option (Int)
  | 0, _, _, _, _ => none
  | k + 1, x0, x1, x7, x8 => if x8 < x7 then (if 0 ≤ x8 then (if x8 < (x0.length : Int) then (if x1.toList = (rdOf ByteArray.empty x0 x8).toList then (some x8) else (slices_Index_string_string.l0 k x0 x1 x7 (wrap64 (x8 + 1)))) else (none)) else (none)) else (some (-1))
def slices_Index_string_string.f (k : Nat) (l0 : List ByteArray) (a1 : ByteArray) : Option (Int) := slices_Index_string_string.l0 k l0 a1 (l0.length : Int) 0
theorem slices_Index_string_string.mono_l : ∀ k, (∀ y0 y1 y2 y3, LeO (slices_Index_string_string.l0 k y0 y1 y2 y3) (slices_Index_string_string.l0 (k + 1) y0 y1 y2 y3))
  | 0 => fun _ _ _ _ r h => by simp [slices_Index_string_string.l0] at h
  | k + 1 => by
    have ih0 := slices_Index_string_string.mono_l k
    · intro y0 y1 y2 y3
      unfold slices_Index_string_string.l0
      repeat' first
      | (with_reducible exact ih0 _ _ _ _)
      | (with_reducible exact LeO.refl _)
      | (with_reducible exact LeO.none _)
      | (with_reducible refine LeO.ite ?_ ?_)
      | (with_reducible refine LeO.bind ?_ (fun _ => ?_))
      | exact ih0 _ _ _ _
      | exact LeO.none _
      | refine LeO.ite ?_ ?_
      | refine LeO.bind ?_ (fun _ => ?_)
theorem slices_Index_string_string.mono : ∀ a0 a1 k, LeO (slices_Index_string_string.f k a0 a1) (slices_Index_string_string.f (k + 1) a0 a1) := by
  intro a0 a1 k
  have ih0 := slices_Index_string_string.mono_l k
  unfold slices_Index_string_string.f
  repeat' first
      | (with_reducible exact ih0 _ _ _ _)
      | (with_reducible exact LeO.refl _)
      | (with_reducible exact LeO.none _)
      | (with_reducible refine LeO.ite ?_ ?_)
      | (with_reducible refine LeO.bind ?_ (fun _ => ?_))
      | exact ih0 _ _ _ _
      | exact LeO.none _
      | refine LeO.ite ?_ ?_
      | refine LeO.bind ?_ (fun _ => ?_)
set_option maxHeartbeats 8000000 in
set_option maxRecDepth 100000 in
theorem slices_Index_string_string.calls (k : Nat) (A0 : Option Addr) (c0 : Nat) (l0 : List ByteArray) (a1 : ByteArray) (r : Int) (w : World) (hr0 : Kd.C Kd.string w A0 l0.length l0) (hc0 : l0.length ≤ c0) (h : slices_Index_string_string.f k l0 a1 = some r) :
    Calls Tryd.prog 18 #[.slice A0 l0.length c0, .string a1] w fun e w' => e = .returned (.int .i64 r) ∧ Drawn0 w w' := by
  have HR0 := Aside0.mk hr0
  have HC0 := Aside0.mk hc0
  clear hr0 hc0
  have H : (slices_Index_string_string.l0 k l0 a1 (l0.length : Int) 0) = some r := h
  clear h
  have H' := Aside0.mk H
  clear H
  go_enter Tryd.func18, Tryd.ntmps18
  go_wp2
  go_loopg [8] k (fun kq v8 w' => ∃ (x8_1 : Int), v8 = .int .i64 x8_1 ∧ Aside0 (slices_Index_string_string.l0 kq l0 a1 (l0.length : Int) x8_1 = some r) ∧ Aside0 (kq ≤ k) ∧ Drawn0 w w')
  case atStart => exact ⟨(0), (by first | rfl | (simp; done) | (simp [*]; done)), H', ⟨Nat.le_refl _⟩, by repeat (first | exact Drawn0.refl _ | apply Drawn0.step)⟩
  case round =>
    clear H'
    try clear c1
    try clear p2
    obtain ⟨x8_1, rfl, HA, HK1, ⟨m1, rfl⟩⟩ := hrel
    cases gk with
    | zero => exact absurd HA.out (by simp [slices_Index_string_string.l0])
    | succ k1 =>
      have H := HA.out
      clear HA
      simp only [slices_Index_string_string.l0] at H
      by_cases c3 : x8_1 < (l0.length : Int)
      · rw [if_pos c3] at H
        have c3b0 : decide (x8_1 < (l0.length : Int)) = true := decide_eq_true c3
        clear c3
        by_cases c4 : 0 ≤ x8_1
        · rw [if_pos c4] at H
          have c4b0 : decide (0 ≤ x8_1) = true := decide_eq_true c4
          clear c4
          by_cases c5 : x8_1 < (l0.length : Int)
          · rw [if_pos c5] at H
            have c5b0 : decide (x8_1 < (l0.length : Int)) = true := decide_eq_true c5
            clear c5
            by_cases c6 : a1.toList = (rdOf ByteArray.empty l0 x8_1).toList
            · rw [if_pos c6] at H
              have c6b0 : (a1.toList == (rdOf ByteArray.empty l0 x8_1).toList) = true := beq_iff_eq.mpr c6
              have c6b1 : (a1.toList != (rdOf ByteArray.empty l0 x8_1).toList) = false := bne_eq_false_iff_eq.mpr c6
              clear c6
              obtain rfl := Option.some.inj H
              have p110 : 0 ≤ (x8_1 : Int) := of_decide_eq_true (by first | (with_reducible assumption) | assumption)
              have q110 : x8_1 < (l0.length : Int) := of_decide_eq_true (by first | (with_reducible assumption) | assumption)
              obtain ⟨ad110, e110, hx110_0⟩ := Kd.at_string HR0.out x8_1 p110 q110
              cases e110
              replace p110 := eq_true p110
              replace q110 := eq_true q110
              go_wp2
              go_ret
              exact ⟨by first | rfl | (simp; done) | (simp [*]; done), by repeat (first | exact Drawn0.refl _ | apply Drawn0.step)⟩
            · rw [if_neg c6] at H
              have c6b0 : (a1.toList == (rdOf ByteArray.empty l0 x8_1).toList) = false := beq_eq_false_iff_ne.mpr c6
              have c6b1 : (a1.toList != (rdOf ByteArray.empty l0 x8_1).toList) = true := bne_iff_ne.mpr c6
              have H' := Aside0.mk H
              clear H
              have p110 : 0 ≤ (x8_1 : Int) := of_decide_eq_true (by first | (with_reducible assumption) | assumption)
              have q110 : x8_1 < (l0.length : Int) := of_decide_eq_true (by first | (with_reducible assumption) | assumption)
              obtain ⟨ad110, e110, hx110_0⟩ := Kd.at_string HR0.out x8_1 p110 q110
              cases e110
              replace p110 := eq_true p110
              replace q110 := eq_true q110
              go_wp2
              go_roundg k1
              case measure => have := HK1.out; omega
              case rel => exact ⟨(wrap64 (x8_1 + 1)), (by first | rfl | (simp; done) | (simp [*]; done)), H', ⟨by have := HK1.out; omega⟩, by repeat (first | exact Drawn0.refl _ | apply Drawn0.step)⟩
          · rw [if_neg c5] at H
            exact absurd H (by simp)
        · rw [if_neg c4] at H
          exact absurd H (by simp)
      · rw [if_neg c3] at H
        have c3b0 : decide (x8_1 < (l0.length : Int)) = false := decide_eq_false c3
        clear c3
        obtain rfl := Option.some.inj H
        go_wp2
        go_ret
        exact ⟨by first | rfl | (simp; done) | (simp [*]; done), by repeat (first | exact Drawn0.refl _ | apply Drawn0.step)⟩

theorem C_new_str (w : World) (L : List ByteArray) (A : Array Value) (hA : A = (L.map Value.string).toArray) (t : TypeId) (hl : L.length ≤ 9223372036854775807) :
    Kd.C Kd.string (w.alloc (.cells A t)) (some ⟨w.heap.size, 0, none⟩) L.length L := by
  subst hA
  refine ⟨rfl, hl, fun _ => ⟨_, rfl, fun j p hp => ⟨[.string p], rfl, rfl, fun i u hu => ?_⟩⟩⟩
  have hi : i = 0 := by
    rcases i with _ | i
    · rfl
    · simp at hu
  subst hi
  obtain rfl : Value.string p = u := by simpa using hu
  have hadd : (⟨w.heap.size, 0, none⟩ : Addr).add (j * 1 + 0) = ⟨w.heap.size, j, none⟩ := by unfold Addr.add; split <;> simp_all
  show (w.alloc _).cell? ((⟨w.heap.size, 0, none⟩ : Addr).add (j * 1 + 0)) = _
  rw [hadd, cell_of_row _ _ j _ t (0, 0) (heap_alloc_last w _)]
  simp [hp]
def calls_Find.f (k : Nat) (a0 : ByteArray) : Option (Int × Option Int) := (slices_Index_string_string.f k nameL a0).bind fun n => if n < 1 then some (0, some 38) else some (n, none)
set_option maxHeartbeats 4000000 in
set_option maxRecDepth 100000 in
theorem calls_Find.calls (k : Nat) (a0 : ByteArray) (r1 : Int) (r2 : Option Int) (w : World) (h : calls_Find.f k a0 = some (r1, r2)) : Calls Tryd.prog 7 #[.string a0] w fun e w' => e = .returned (.tuple #[.int .i64 r1, errW r2]) ∧ Below w.heap.size w w' := by
  unfold calls_Find.f at h
  obtain ⟨n, hn, h⟩ := Option.bind_eq_some_iff.1 h
  have hx : ∀ w1 : World, Calls Tryd.prog 18 #[.slice (some ⟨w1.heap.size, 0, none⟩) 30 30, .string a0] (w1.alloc (.cells nameA 43)) fun e w' => e = .returned (.int .i64 n) ∧ Drawn0 (w1.alloc (.cells nameA 43)) w' :=
    fun w1 => slices_Index_string_string.calls k _ 30 nameL a0 n _ (C_new_str w1 nameL nameA rfl 43 (by decide)) (by decide) hn
  have hb : (if n < 1 then (some (0, some 38) : Option (Int × Option Int)) else some (n, none)) = some (r1, r2) := h
  clear h hn
  by_cases hc : n < 1
  · rw [if_pos hc] at hb
    simp only [Option.some.injEq, Prod.mk.injEq] at hb
    obtain ⟨rfl, rfl⟩ := hb
    have d0 : decide (n < 1) = true := decide_eq_true hc
    clear hc
    go_enter Tryd.func7, Tryd.ntmps7
    go_wp2_with (first
      | (go_at_call 17; refine (names_calls _).mono ?_; rintro e w1 ⟨rfl, hb⟩)
      | ((with_reducible refine gate_store (t := 43) (p := 4) (v := .tmp 6) rfl ?_); refine wpList_store_row rfl 43 _ _ rfl _ nameA rfl rfl 43 _ (heap_alloc_last _ _) info43 (by kernel_rfl) (by kernel_rfl) ?_; rw [World.setRow_alloc_new])
      | (go_at_call 18; refine (hx _).mono ?_; rintro e w2 ⟨rfl, hd⟩))
    go_ret2
    exact ⟨rfl, (hb.alloc hb.size _).trans (hd.below.mono (Nat.le_trans hb.size (by simp)))⟩
  · rw [if_neg hc] at hb
    simp only [Option.some.injEq, Prod.mk.injEq] at hb
    obtain ⟨rfl, rfl⟩ := hb
    have d0 : decide (n < 1) = false := decide_eq_false hc
    clear hc
    go_enter Tryd.func7, Tryd.ntmps7
    go_wp2_with (first
      | (go_at_call 17; refine (names_calls _).mono ?_; rintro e w1 ⟨rfl, hb⟩)
      | ((with_reducible refine gate_store (t := 43) (p := 4) (v := .tmp 6) rfl ?_); refine wpList_store_row rfl 43 _ _ rfl _ nameA rfl rfl 43 _ (heap_alloc_last _ _) info43 (by kernel_rfl) (by kernel_rfl) ?_; rw [World.setRow_alloc_new])
      | (go_at_call 18; refine (hx _).mono ?_; rintro e w2 ⟨rfl, hd⟩))
    go_ret2
    exact ⟨rfl, (hb.alloc hb.size _).trans (hd.below.mono (Nat.le_trans hb.size (by simp)))⟩
theorem calls_Find.mono : ∀ a0 k, LeO (calls_Find.f k a0) (calls_Find.f (k + 1) a0) := by
  intro a0 k r h
  unfold calls_Find.f at h ⊢
  obtain ⟨n, hn, h⟩ := Option.bind_eq_some_iff.1 h
  rw [slices_Index_string_string.mono _ _ k n hn]
  exact h

/-! ### errors.As at a target *api.Errno, and NUM (the error's number) -/
section
open Go.Extern.Stop Go.Stop Go.Extern
/-- What the condition on the listed variable gives a walk: its one cell. -/
def GC (w : World) : Prop := w.cell? ⟨0, 0, none⟩ = some (.iface 66 (.agg #[.pointer (some ⟨1, 28, none⟩)]))
theorem GC.lt {w : World} (h : GC w) : 0 < w.heap.size := by
  rcases Nat.lt_or_ge 0 w.heap.size with h0 | h0
  · exact h0
  · unfold GC at h
    simp [World.cell?, Array.getElem?_eq_none h0] at h
theorem GC.below {w w1 : World} (h : GC w) (hb : Below w.heap.size w w1) : GC w1 := by
  have hl := h.lt
  unfold GC at h ⊢
  rw [hb.cell (p := ⟨0, 0, none⟩) hl]; exact h
theorem GC.alloc {w : World} (h : GC w) (o : Obj) : GC (w.alloc o) := h.below ((Below.refl _ _).alloc (Nat.le_refl _) _)

theorem as_valueOfP (t : Addr) (w : World) : (ReflectliteValue.unpack (.iface 47 (.pointer (some t)))).run Tryd.prog w
    = .ok (.agg #[.pointer (some ⟨1, 47, none⟩), .pointer (some ⟨w.heap.size, 0, none⟩), .int .u64 150]) (w.alloc (.cells #[.pointer (some t)] 47)) := by kernel_rfl
theorem as_typeP (a : Addr) (w : World) : (ReflectliteValue.methodAny (ReflectliteValue.valueError "reflectlite.Value.Type" 0) (fun t _ _ _ => ReflectliteType.toType t) #[.agg #[.pointer (some ⟨1, 47, none⟩), .pointer (some a), .int .u64 150]]).run Tryd.prog w
    = .ok (.iface 66 (.agg #[.pointer (some ⟨1, 47, none⟩)])) w := by kernel_rfl
theorem as_kindP (w : World) : ((ReflectliteType.abiMethod fun t => (fun a : Nat => Value.int IntKind.u8 (a : Int)) <$> Rtype.kind t) #[.pointer (some ⟨1, 47, none⟩)]).run Tryd.prog w = .ok (.int .u8 22) w := by kernel_rfl
theorem as_kindE (w : World) : ((ReflectliteType.abiMethod fun t => (fun a : Nat => Value.int IntKind.u8 (a : Int)) <$> Rtype.kind t) #[.pointer (some ⟨1, 40, none⟩)]).run Tryd.prog w = .ok (.int .u8 2) w := by kernel_rfl
theorem as_rlm (z : Sem Value) (f : TypeId → Addr → Nat → Nat → Sem Value) (v : Value) :
    ReflectliteValue.method z f #[v] = (do match ← ReflectliteValue.parts v with | none => z | some (t, a, fl) => f t a fl (fl % 32)) := rfl
theorem as_partsP (a : Addr) (w : World) : (ReflectliteValue.parts (.agg #[.pointer (some ⟨1, 47, none⟩), .pointer (some a), .int .u64 150])).run Tryd.prog w = .ok (some (47, a, 150)) w := by kernel_rfl
theorem as_isNilP (a p : Addr) (W : World) (ha : W.cell? a = some (.pointer (some p))) :
    (ReflectliteValue.method (ReflectliteValue.valueError "reflectlite.Value.IsNil" 0) ReflectliteValue.isNil #[.agg #[.pointer (some ⟨1, 47, none⟩), .pointer (some a), .int .u64 150]]).run Tryd.prog W = .ok (.bool false) W := by
  rw [as_rlm]
  simp only [Sem.run_bind, as_partsP, Result.andThen]
  simp [ReflectliteValue.isNil, loadVar, isAgg, underlying, Tryd.underlying47, ha, Result.andThen]
theorem as_elemTP (w : World) : (ReflectliteType.method ReflectliteType.elem #[.agg #[.pointer (some ⟨1, 47, none⟩)]]).run Tryd.prog w = .ok (.iface 66 (.agg #[.pointer (some ⟨1, 40, none⟩)])) w := by kernel_rfl
theorem as_implementsE (w : World) : (ReflectliteType.relation "Implements" ReflectliteType.implements_ #[.agg #[.pointer (some ⟨1, 40, none⟩)], .iface 66 (.agg #[.pointer (some ⟨1, 28, none⟩)])]).run Tryd.prog w = .ok (.bool true) w := by kernel_rfl
theorem as_typeOfE (v : Value) (w : World) : (ReflectliteType.typeOf #[.iface 40 v]).run Tryd.prog w = .ok (.iface 66 (.agg #[.pointer (some ⟨1, 40, none⟩)])) w := by kernel_rfl
theorem as_assignableE (w : World) : (ReflectliteType.relation "AssignableTo" ReflectliteType.assignableTo #[.agg #[.pointer (some ⟨1, 40, none⟩)], .iface 66 (.agg #[.pointer (some ⟨1, 40, none⟩)])]).run Tryd.prog w = .ok (.bool true) w := by kernel_rfl
theorem as_valueOfE (e : Int) (w : World) : (ReflectliteValue.unpack (.iface 40 (.int .i64 e))).run Tryd.prog w
    = .ok (.agg #[.pointer (some ⟨1, 40, none⟩), .pointer (some ⟨w.heap.size, 0, none⟩), .int .u64 130]) (w.alloc (.cells #[.int .i64 e] 40)) := by kernel_rfl
theorem as_elemOfP (w : World) : (Rtype.elem? 47).run Tryd.prog w = .ok (some 40) w := by kernel_rfl
theorem as_mkE (p : Addr) (w : World) : (ReflectliteValue.mk 40 p ReflectliteValue.flagAddr).run Tryd.prog w = .ok (.agg #[.pointer (some ⟨1, 40, none⟩), .pointer (some p), .int .u64 386]) w := by kernel_rfl
theorem as_elemVP (a p : Addr) (W : World) (ha : W.cell? a = some (.pointer (some p))) :
    (ReflectliteValue.method (ReflectliteValue.valueError "reflectlite.Value.Elem" 0) ReflectliteValue.elem #[.agg #[.pointer (some ⟨1, 47, none⟩), .pointer (some a), .int .u64 150]]).run Tryd.prog W
      = .ok (.agg #[.pointer (some ⟨1, 40, none⟩), .pointer (some p), .int .u64 386]) W := by
  rw [as_rlm]
  simp only [Sem.run_bind, as_partsP, Result.andThen]
  simp [ReflectliteValue.elem, loadVar, isAgg, underlying, Tryd.underlying47, ha, Result.andThen, as_elemOfP, as_mkE]
theorem as_rls (v x : Value) : ReflectliteValue.set #[v, x] = (do
    let (some (dst, a, fl), some (src, b, _)) := (← ReflectliteValue.parts v, ← ReflectliteValue.parts x)
      | unsupported (.noEntry "extern/(internal/reflectlite.Value).Set.zeroValue")
    if fl / ReflectliteValue.flagAddr % 2 == 0 then unsupported (.noEntry "extern/(internal/reflectlite.Value).Set.unaddressable")
    let val ← loadVar src b
    if ← Rtype.directlyAssignable dst src then storeVar dst a val
    else if ← Rtype.implements dst src then
      if (← Rtype.kind src) == 20 then
        match val with
        | .nilIface => unsupported (.noEntry "extern/reflectlite: a nil value of one interface type handed on as a value of another")
        | _ => storeVar dst a val
      else storeVar dst a (.iface src val)
    else panicString ("reflectlite.Set: value of type " ++ (← Rtype.spelt src) ++ " is not assignable to type " ++ (← Rtype.spelt dst))
    pure (.tuple #[])) := rfl
theorem as_partsEa (a : Addr) (w : World) : (ReflectliteValue.parts (.agg #[.pointer (some ⟨1, 40, none⟩), .pointer (some a), .int .u64 386])).run Tryd.prog w = .ok (some (40, a, 386)) w := by kernel_rfl
theorem as_partsE (a : Addr) (w : World) : (ReflectliteValue.parts (.agg #[.pointer (some ⟨1, 40, none⟩), .pointer (some a), .int .u64 130])).run Tryd.prog w = .ok (some (40, a, 130)) w := by kernel_rfl
theorem as_directE (w : World) : (Rtype.directlyAssignable 40 40).run Tryd.prog w = .ok true w := by kernel_rfl
theorem as_setE (ta b : Addr) (e : Int) (old : Value) (W : World) (hb : W.cell? b = some (.int .i64 e)) (ht : W.cell? ta = some old) (hf : W.frozen? ta = false) :
    (ReflectliteValue.set #[.agg #[.pointer (some ⟨1, 40, none⟩), .pointer (some ta), .int .u64 386], .agg #[.pointer (some ⟨1, 40, none⟩), .pointer (some b), .int .u64 130]]).run Tryd.prog W
      = .ok (.tuple #[]) (W.setCell ta (.int .i64 e)) := by
  rw [as_rls]
  simp only [Sem.run_bind, as_partsEa, as_partsE, Result.andThen]
  simp [ReflectliteValue.flagAddr, loadVar, isAgg, underlying, Tryd.underlying40, hb, Result.andThen, as_directE, storeVar, Value.cells, storeCells, Addr.add]
  rw [run_store Tryd.prog W ta _ _ (by rfl)]
  simp [ht, hf]
theorem as_methodKind (h : Value) (w : World) : (Go.method 208 66 (.agg #[h]) "Kind").run Tryd.prog w = .ok (41, h) w := by kernel_rfl
theorem as_methodElem (h : Value) (w : World) : (Go.method 208 66 (.agg #[h]) "Elem").run Tryd.prog w = .ok (52, .agg #[h]) w := by kernel_rfl
theorem as_methodImplements (h : Value) (w : World) : (Go.method 208 66 (.agg #[h]) "Implements").run Tryd.prog w = .ok (53, .agg #[h]) w := by kernel_rfl
theorem as_methodAssignableTo (h : Value) (w : World) : (Go.method 208 66 (.agg #[h]) "AssignableTo").run Tryd.prog w = .ok (50, .agg #[h]) w := by kernel_rfl

set_option maxHeartbeats 4000000 in
theorem as_hit (e : Int) (t : Addr) (old : Value) (w : World) (hG : GC w) (ht0 : w.cell? t = some old) (hf0 : w.frozen? t = false) :
    Calls Tryd.prog 19 #[.iface 40 (.int .i64 e), .iface 47 (.pointer (some t))] w fun ev w' => ev = .returned (.bool true) ∧ w' = ((((w.alloc (.cells #[.pointer (some t)] 47)).alloc (.cells #[.pointer (some ⟨1, 47, none⟩), .pointer (some ⟨w.heap.size, 0, none⟩), .int .u64 150] 56)).alloc (.cells #[.pointer (some ⟨1, 47, none⟩), .pointer (some ⟨w.heap.size, 0, none⟩), .int .u64 150] 56)).alloc (.cells #[.int .i64 e] 40)).setCell t (.int .i64 e) := by
  have h6 := @run_callFunc_extern Tryd.prog 20 _ (fun args => ReflectliteValue.unpack (args.getD 0 (.tuple #[]))) Tryd.func20 (by kernel_rfl) (by kernel_rfl) (by kernel_rfl) (by kernel_rfl)
  have h7 := @run_callFunc_extern Tryd.prog 21 _ (ReflectliteValue.methodAny (ReflectliteValue.valueError "reflectlite.Value.Type" 0) (fun t _ _ _ => ReflectliteType.toType t)) Tryd.func21 (by kernel_rfl) (by kernel_rfl) (by kernel_rfl) (by kernel_rfl)
  have h8 := @run_callFunc_extern Tryd.prog 22 _ (ReflectliteValue.method (ReflectliteValue.valueError "reflectlite.Value.IsNil" 0) ReflectliteValue.isNil) Tryd.func22 (by kernel_rfl) (by kernel_rfl) (by kernel_rfl) (by kernel_rfl)
  have h27 := @run_callFunc_extern Tryd.prog 41 _ (ReflectliteType.abiMethod fun t => do pure (.int .u8 (← Rtype.kind t))) Tryd.func41 (by kernel_rfl) (by kernel_rfl) (by kernel_rfl) (by kernel_rfl)
  have h37 := @run_callFunc_extern Tryd.prog 52 _ (ReflectliteType.method ReflectliteType.elem) Tryd.func52 (by kernel_rfl) (by kernel_rfl) (by kernel_rfl) (by kernel_rfl)
  have h38 := @run_callFunc_extern Tryd.prog 53 _ (ReflectliteType.relation "Implements" ReflectliteType.implements_) Tryd.func53 (by kernel_rfl) (by kernel_rfl) (by kernel_rfl) (by kernel_rfl)
  have h10 := @run_callFunc_extern Tryd.prog 24 _ ReflectliteType.typeOf Tryd.func24 (by kernel_rfl) (by kernel_rfl) (by kernel_rfl) (by kernel_rfl)
  have h35 := @run_callFunc_extern Tryd.prog 50 _ (ReflectliteType.relation "AssignableTo" ReflectliteType.assignableTo) Tryd.func50 (by kernel_rfl) (by kernel_rfl) (by kernel_rfl) (by kernel_rfl)
  have h11 := @run_callFunc_extern Tryd.prog 25 _ (ReflectliteValue.method (ReflectliteValue.valueError "reflectlite.Value.Elem" 0) ReflectliteValue.elem) Tryd.func25 (by kernel_rfl) (by kernel_rfl) (by kernel_rfl) (by kernel_rfl)
  have h12 := @run_callFunc_extern Tryd.prog 26 _ ReflectliteValue.set Tryd.func26 (by kernel_rfl) (by kernel_rfl) (by kernel_rfl) (by kernel_rfl)
  have tO := as_typeOfE
  have mA := as_methodAssignableTo
  have a25 := as_assignableE
  have v25 := as_valueOfE
  have f6 := as_valueOfP
  have f7 := as_typeP
  have mK := as_methodKind
  have mE := as_methodElem
  have mI := as_methodImplements
  have k27 := as_kindP
  have k25 := as_kindE
  have e27 := as_elemTP
  have i25 := as_implementsE
  have n8 := as_isNilP ⟨w.heap.size, 0, none⟩ t ((w.alloc (.cells #[.pointer (some t)] 47)).alloc (.cells #[.pointer (some ⟨1, 47, none⟩), .pointer (some ⟨w.heap.size, 0, none⟩), .int .u64 150] 56)) (by simp)
  have hg2 : ((w.alloc (.cells #[.pointer (some t)] 47)).alloc (.cells #[.pointer (some ⟨1, 47, none⟩), .pointer (some ⟨w.heap.size, 0, none⟩), .int .u64 150] 56)).cell? ⟨0, 0, none⟩ = some (.iface 66 (.agg #[.pointer (some ⟨1, 28, none⟩)])) := (hG.alloc _).alloc _
  have htl : t.block < w.heap.size := by
    rcases Nat.lt_or_ge t.block w.heap.size with h | h
    · exact h
    · simp [World.cell?, Array.getElem?_eq_none h] at ht0
  have el := as_elemVP ⟨w.heap.size, 0, none⟩ t (((w.alloc (.cells #[.pointer (some t)] 47)).alloc (.cells #[.pointer (some ⟨1, 47, none⟩), .pointer (some ⟨w.heap.size, 0, none⟩), .int .u64 150] 56)).alloc (.cells #[.pointer (some ⟨1, 47, none⟩), .pointer (some ⟨w.heap.size, 0, none⟩), .int .u64 150] 56)) (by rw [World.cell?_alloc_lt _ _ ⟨w.heap.size, 0, none⟩ (by simp; omega)]; simp)
  have st := as_setE t ⟨w.heap.size + 1 + 1 + 1, 0, none⟩ e old ((((w.alloc (.cells #[.pointer (some t)] 47)).alloc (.cells #[.pointer (some ⟨1, 47, none⟩), .pointer (some ⟨w.heap.size, 0, none⟩), .int .u64 150] 56)).alloc (.cells #[.pointer (some ⟨1, 47, none⟩), .pointer (some ⟨w.heap.size, 0, none⟩), .int .u64 150] 56)).alloc (.cells #[.int .i64 e] 40))
    (by rw [World.cell?_alloc_at _ _ _ _ (by simp)]; rfl)
    (by rw [World.cell?_alloc_lt _ _ t (by simp; omega), World.cell?_alloc_lt _ _ t (by simp; omega), World.cell?_alloc_lt _ _ t (by simp; omega), World.cell?_alloc_lt _ _ t htl]; exact ht0)
    (by rw [World.frozen?_alloc_old _ _ t (by simp; omega), World.frozen?_alloc_old _ _ t (by simp; omega), World.frozen?_alloc_old _ _ t (by simp; omega), World.frozen?_alloc_old _ _ t (Nat.ne_of_lt htl)]; exact hf0)
  clear hG
  go_enter Tryd.func19, Tryd.ntmps19
  go_wp2
  refine wp_loop_rounds 1 ?_
  rw [rounds_succ]
  go_wp2
  go_ret
  exact ⟨rfl, rfl⟩
end
/-- The error's number: 0 of none. -/
def halterlaw28_num.f (a0 : Option Int) : Option (Int) := some (a0.getD 0)
set_option maxHeartbeats 4000000 in
theorem halterlaw28_num.calls (a0 : Option Int) (r : Int) (w : World) (hGC : GC w) (h : halterlaw28_num.f a0 = some r) :
    Calls Tryd.prog 8 #[errW a0] w fun e w' => e = .returned (.int .i64 r) ∧ Below w.heap.size w w' := by
  obtain rfl := Option.some.inj h
  clear h
  rcases a0 with _ | k
  · simp only [errW_none]
    go_enter Tryd.func8, Tryd.ntmps8
    go_wp2
    go_ret
    exact ⟨rfl, (Below.refl _ _).alloc (Nat.le_refl _) _⟩
  · simp only [errW_some]
    have hA := hGC.alloc (.cells #[.int .i64 0] 40)
    have hx := as_hit k ⟨w.heap.size, 0, none⟩ (.int .i64 0) (w.alloc (.cells #[.int .i64 0] 40)) hA (by simp) (by simp)
    clear hA hGC
    go_enter Tryd.func8, Tryd.ntmps8
    go_wp2_with (go_at_call 19; refine hx.mono ?_; rintro e w' ⟨rfl, rfl⟩)
    go_ret
    refine ⟨rfl, ?_⟩
    repeat (first | exact Below.refl _ _ | refine Below.setCell ?_ (Nat.le_refl _) _ | refine Below.alloc ?_ (by first | exact Nat.le_refl _ | (simp only [World.size_alloc, World.size_setCell]; omega) | (simp; try omega)) _)

def calls_Name.f (a0 : Int) : Option ByteArray := if 1 ≤ a0 ∧ a0 < 30 then some (nameL.getD a0.toNat ByteArray.empty) else some ⟨#[]⟩
set_option maxHeartbeats 4000000 in
set_option maxRecDepth 100000 in
theorem calls_Name.calls (a0 : Int) (r : ByteArray) (w : World) (h : calls_Name.f a0 = some r) : Calls Tryd.prog 9 #[.int .i64 a0] w fun e w' => e = .returned (.string r) ∧ Below w.heap.size w w' := by
  unfold calls_Name.f at h
  by_cases hc : 1 ≤ a0 ∧ a0 < 30
  · rw [if_pos hc] at h
    obtain rfl := Option.some.inj h
    obtain ⟨d0, d1⟩ := bd_bool hc
    have hx : ∀ w, (Instr.index 43 (.agg nameA) (.int .i64 a0)).run Tryd.prog w = .ok (.string (nameL.getD a0.toNat ByteArray.empty)) w := fun w => run_index_names w a0 (by omega) hc.2
    clear hc h
    go_enter Tryd.func9, Tryd.ntmps9
    go_wp2_with (first | (go_at_call 17; refine (names_calls _).mono ?_; rintro e w' ⟨rfl, hb⟩))
    go_ret
    exact ⟨rfl, hb⟩
  · rw [if_neg hc] at h
    obtain rfl := Option.some.inj h
    clear h
    by_cases h0 : a0 < 1
    · have d0 : decide (a0 < 1) = true := decide_eq_true h0
      clear hc h0
      go_enter Tryd.func9, Tryd.ntmps9
      go_wp2
      go_ret
      exact ⟨rfl, Below.refl _ _⟩
    · have d0 : decide (a0 < 1) = false := decide_eq_false h0
      have d1 : decide (30 ≤ a0) = true := decide_eq_true (by omega)
      clear hc h0
      go_enter Tryd.func9, Tryd.ntmps9
      go_wp2
      go_ret
      exact ⟨rfl, Below.refl _ _⟩

def argL : List Int := [0, 1, 0, 1, 3, 2, 0, 0, 2, 1, 3, 3, 3, 1, 1, 1, 1, 3, 2, 3, 1, 2, 2, 0, 4, 1, 0, 0, 1, 0]
def argA : Array Value := #[.int .i64 0, .int .i64 1, .int .i64 0, .int .i64 1, .int .i64 3, .int .i64 2, .int .i64 0, .int .i64 0, .int .i64 2, .int .i64 1, .int .i64 3, .int .i64 3, .int .i64 3, .int .i64 1, .int .i64 1, .int .i64 1, .int .i64 1, .int .i64 3, .int .i64 2, .int .i64 3, .int .i64 1, .int .i64 2, .int .i64 2, .int .i64 0, .int .i64 4, .int .i64 1, .int .i64 0, .int .i64 0, .int .i64 1, .int .i64 0]
theorem run_index_args (w : World) (i : Int) (h0 : 0 ≤ i) (h1 : i < 30) : (Instr.index 48 (.agg argA) (.int .i64 i)).run Tryd.prog w = .ok (.int .i64 (argL.getD i.toNat 0)) w := by
  have hk := int_get argL argA rfl i.toNat (show i.toNat < 30 by omega)
  simp [Instr.index, asIntOf, run_underlying Tryd.underlying48, go_sem, h0, h1, part, hk]
def calls_Args.f (a0 : Int) : Option Int := if 1 ≤ a0 ∧ a0 < 30 then some (argL.getD a0.toNat 0) else some 0
set_option maxHeartbeats 4000000 in
set_option maxRecDepth 100000 in
theorem calls_Args.calls (a0 : Int) (r : Int) (w : World) (h : calls_Args.f a0 = some r) : Calls Tryd.prog 10 #[.int .i64 a0] w fun e w' => e = .returned (.int .i64 r) ∧ Below w.heap.size w w' := by
  unfold calls_Args.f at h
  by_cases hc : 1 ≤ a0 ∧ a0 < 30
  · rw [if_pos hc] at h
    obtain rfl := Option.some.inj h
    obtain ⟨d0, d1⟩ := bd_bool hc
    have hx : ∀ w, (Instr.index 48 (.agg argA) (.int .i64 a0)).run Tryd.prog w = .ok (.int .i64 (argL.getD a0.toNat 0)) w := fun w => run_index_args w a0 (by omega) hc.2
    clear hc h
    go_enter Tryd.func10, Tryd.ntmps10
    go_wp2_with (first | ((with_reducible refine gate_dst (N := 9) rfl ?_); refine wpList_built rfl 48 _ rfl argA (by kernel_rfl) ?_))
    go_ret
    exact ⟨rfl, Below.refl _ _⟩
  · rw [if_neg hc] at h
    obtain rfl := Option.some.inj h
    clear h
    by_cases h0 : a0 < 1
    · have d0 : decide (a0 < 1) = true := decide_eq_true h0
      clear hc h0
      go_enter Tryd.func10, Tryd.ntmps10
      go_wp2
      go_ret
      exact ⟨rfl, Below.refl _ _⟩
    · have d0 : decide (a0 < 1) = false := decide_eq_false h0
      have d1 : decide (30 ≤ a0) = true := decide_eq_true (by omega)
      clear hc h0
      go_enter Tryd.func10, Tryd.ntmps10
      go_wp2
      go_ret
      exact ⟨rfl, Below.refl _ _⟩

def askL : List ByteArray := [(⟨#[116, 114, 97, 99, 101, 109, 101]⟩ : ByteArray), (⟨#[112, 101, 101, 107]⟩ : ByteArray), (⟨#[112, 101, 101, 107, 117, 115, 101, 114]⟩ : ByteArray), (⟨#[112, 111, 107, 101]⟩ : ByteArray), (⟨#[112, 111, 107, 101, 117, 115, 101, 114]⟩ : ByteArray), (⟨#[99, 111, 110, 116]⟩ : ByteArray), (⟨#[115, 116, 101, 112]⟩ : ByteArray), (⟨#[115, 121, 115, 99, 97, 108, 108]⟩ : ByteArray), (⟨#[103, 101, 116, 114, 101, 103, 115]⟩ : ByteArray), (⟨#[115, 101, 116, 114, 101, 103, 115]⟩ : ByteArray), (⟨#[97, 116, 116, 97, 99, 104]⟩ : ByteArray), (⟨#[100, 101, 116, 97, 99, 104]⟩ : ByteArray), (⟨#[113, 117, 105, 116]⟩ : ByteArray)]
def askA : Array Value := #[.string ⟨#[116, 114, 97, 99, 101, 109, 101]⟩, .string ⟨#[112, 101, 101, 107]⟩, .string ⟨#[112, 101, 101, 107, 117, 115, 101, 114]⟩, .string ⟨#[112, 111, 107, 101]⟩, .string ⟨#[112, 111, 107, 101, 117, 115, 101, 114]⟩, .string ⟨#[99, 111, 110, 116]⟩, .string ⟨#[115, 116, 101, 112]⟩, .string ⟨#[115, 121, 115, 99, 97, 108, 108]⟩, .string ⟨#[103, 101, 116, 114, 101, 103, 115]⟩, .string ⟨#[115, 101, 116, 114, 101, 103, 115]⟩, .string ⟨#[97, 116, 116, 97, 99, 104]⟩, .string ⟨#[100, 101, 116, 97, 99, 104]⟩, .string ⟨#[113, 117, 105, 116]⟩]
theorem run_index_asks (w : World) (i : Int) (h0 : 0 ≤ i) (h1 : i < 13) : (Instr.index 49 (.agg askA) (.int .i64 i)).run Tryd.prog w = .ok (.string (askL.getD i.toNat ByteArray.empty)) w := by
  have hk := str_get askL askA rfl i.toNat (show i.toNat < 13 by omega)
  simp [Instr.index, asIntOf, run_underlying Tryd.underlying49, go_sem, h0, h1, part, hk]
def calls_Ask.f (a0 : Int) : Option ByteArray := if 0 ≤ a0 ∧ a0 < 13 then some (askL.getD a0.toNat ByteArray.empty) else some ⟨#[]⟩
set_option maxHeartbeats 4000000 in
set_option maxRecDepth 100000 in
theorem calls_Ask.calls (a0 : Int) (r : ByteArray) (w : World) (h : calls_Ask.f a0 = some r) : Calls Tryd.prog 11 #[.int .i64 a0] w fun e w' => e = .returned (.string r) ∧ Below w.heap.size w w' := by
  unfold calls_Ask.f at h
  by_cases hc : 0 ≤ a0 ∧ a0 < 13
  · rw [if_pos hc] at h
    obtain rfl := Option.some.inj h
    obtain ⟨d0, d1⟩ := bd_bool hc
    have hx : ∀ w, (Instr.index 49 (.agg askA) (.int .i64 a0)).run Tryd.prog w = .ok (.string (askL.getD a0.toNat ByteArray.empty)) w := fun w => run_index_asks w a0 (by omega) hc.2
    clear hc h
    go_enter Tryd.func11, Tryd.ntmps11
    go_wp2_with (first | ((with_reducible refine gate_dst (N := 9) rfl ?_); refine wpList_built rfl 49 _ rfl askA (by kernel_rfl) ?_))
    go_ret
    exact ⟨rfl, Below.refl _ _⟩
  · rw [if_neg hc] at h
    obtain rfl := Option.some.inj h
    clear h
    by_cases h0 : a0 < 0
    · have d0 : decide (a0 < 0) = true := decide_eq_true h0
      clear hc h0
      go_enter Tryd.func11, Tryd.ntmps11
      go_wp2
      go_ret
      exact ⟨rfl, Below.refl _ _⟩
    · have d0 : decide (a0 < 0) = false := decide_eq_false h0
      have d1 : decide (13 ≤ a0) = true := decide_eq_true (by omega)
      clear hc h0
      go_enter Tryd.func11, Tryd.ntmps11
      go_wp2
      go_ret
      exact ⟨rfl, Below.refl _ _⟩

/-! ### calls_Failed: function 13 -/
def calls_Failed.f (a0 : Int) : Option (Int) := if ((-a0) % 4294967296) ≥ 1 then (if ((-a0) % 4294967296) ≤ 4095 then (some ((-a0) % 4294967296)) else (some 0)) else (some 0)
set_option maxHeartbeats 8000000 in
set_option maxRecDepth 100000 in
theorem calls_Failed.calls (a0 : Int) (r : Int) (w : World) (h : calls_Failed.f a0 = some r) :
    Calls Tryd.prog 13 #[.int .u32 a0] w fun e w' => e = .returned (.int .i64 r) ∧ Drawn0 w w' := by
  have H : (if ((-a0) % 4294967296) ≥ 1 then (if ((-a0) % 4294967296) ≤ 4095 then (some ((-a0) % 4294967296)) else (some 0)) else (some 0)) = some r := h
  clear h
  by_cases c2 : ((-a0) % 4294967296) ≥ 1
  · rw [if_pos c2] at H
    have c2b0 : decide (1 ≤ ((-a0) % 4294967296)) = true := decide_eq_true c2
    clear c2
    by_cases c3 : ((-a0) % 4294967296) ≤ 4095
    · rw [if_pos c3] at H
      have c3b0 : decide (((-a0) % 4294967296) ≤ 4095) = true := decide_eq_true c3
      clear c3
      obtain rfl := Option.some.inj H
      go_enter Tryd.func13, Tryd.ntmps13
      go_wp2
      go_ret
      exact ⟨by first | rfl | (simp; done) | (simp [*]; done), by repeat (first | exact Drawn0.refl _ | apply Drawn0.step)⟩
    · rw [if_neg c3] at H
      have c3b0 : decide (((-a0) % 4294967296) ≤ 4095) = false := decide_eq_false c3
      clear c3
      obtain rfl := Option.some.inj H
      go_enter Tryd.func13, Tryd.ntmps13
      go_wp2
      go_ret
      exact ⟨by first | rfl | (simp; done) | (simp [*]; done), by repeat (first | exact Drawn0.refl _ | apply Drawn0.step)⟩
  · rw [if_neg c2] at H
    have c2b0 : decide (1 ≤ ((-a0) % 4294967296)) = false := decide_eq_false c2
    clear c2
    obtain rfl := Option.some.inj H
    go_enter Tryd.func13, Tryd.ntmps13
    go_wp2
    go_ret
    exact ⟨by first | rfl | (simp; done) | (simp [*]; done), by repeat (first | exact Drawn0.refl _ | apply Drawn0.step)⟩

def calls_Result.f (a0 : Int) (a1 : Option Int) : Option Int := match a1 with
  | none => some a0
  | some e => some (IntKind.u32.wrap (-(IntKind.u32.wrap e)))
set_option maxHeartbeats 4000000 in
set_option maxRecDepth 100000 in
theorem calls_Result.calls (a0 : Int) (a1 : Option Int) (r : Int) (w : World) (hGC : GC w) (h : calls_Result.f a0 a1 = some r) :
    Calls Tryd.prog 15 #[.int .u32 a0, errW a1] w fun e w' => e = .returned (.int .u32 r) ∧ Below w.heap.size w w' := by
  rcases a1 with _ | k
  · obtain rfl := Option.some.inj h
    clear h
    simp only [errW_none]
    go_enter Tryd.func15, Tryd.ntmps15
    go_wp2
    go_ret
    exact ⟨rfl, Below.refl _ _⟩
  · obtain rfl := Option.some.inj h
    clear h
    simp only [errW_some]
    have hA := hGC.alloc (.cells #[.int .i64 5] 40)
    have hx := as_hit k ⟨w.heap.size, 0, none⟩ (.int .i64 5) (w.alloc (.cells #[.int .i64 5] 40)) hA (by simp) (by simp)
    clear hA hGC
    go_enter Tryd.func15, Tryd.ntmps15
    go_wp2_with (go_at_call 19; refine hx.mono ?_; rintro e w' ⟨rfl, rfl⟩)
    go_ret
    refine ⟨rfl, ?_⟩
    repeat (first | exact Below.refl _ _ | refine Below.setCell ?_ (Nat.le_refl _) _ | refine Below.alloc ?_ (by first | exact Nat.le_refl _ | (simp only [World.size_alloc, World.size_setCell]; omega) | (simp; try omega)) _)

/-! ### halterlaw28_sure: function 12 -/
def halterlaw28_sure.f (k : Nat)  : Option (Bool) := (calls_Find.f k (⟨#[112, 116, 114, 97, 99, 101]⟩ : ByteArray)).bind fun bt111 => (if bt111.2.isNone = true then (if bt111.1 = 24 then ((calls_Name.f bt111.1).bind fun t114 => (if t114.toList = ([112, 116, 114, 97, 99, 101] : List UInt8) then ((calls_Args.f bt111.1).bind fun t115 => (if t115 = 4 then ((calls_Ask.f 12).bind fun t116 => (if t116.toList = ([113, 117, 105, 116] : List UInt8) then ((calls_Result.f 5 none).bind fun t117 => (if t117 = 5 then ((calls_Result.f 0 (some 2)).bind fun t118 => (if t118 = 4294967294 then ((calls_Failed.f 4294967294).bind fun t119 => (some (t119 == 2))) else (some false))) else (some false))) else (some false))) else (some false))) else (some false))) else (some false)) else (some false))
theorem halterlaw28_sure.mono : ∀ k, LeO (halterlaw28_sure.f k ) (halterlaw28_sure.f (k + 1) ) := by
  intro  k
  unfold halterlaw28_sure.f
  repeat' first
      | (with_reducible exact calls_Find.mono _ _)
      | (with_reducible exact LeO.refl _)
      | (with_reducible exact LeO.none _)
      | (with_reducible refine LeO.ite ?_ ?_)
      | (with_reducible refine LeO.bind ?_ (fun _ => ?_))
      | exact calls_Find.mono _ _
      | exact LeO.none _
      | refine LeO.ite ?_ ?_
      | refine LeO.bind ?_ (fun _ => ?_)
set_option maxHeartbeats 8000000 in
set_option maxRecDepth 100000 in
theorem halterlaw28_sure.calls (k : Nat)  (r : Bool) (w : World) (hGC : GC w) (h : halterlaw28_sure.f k  = some r) :
    Calls Tryd.prog 12 #[] w fun e w' => e = .returned (.bool r) ∧ Below w.heap.size w w' := by
  have hu28 := Tryd.underlying28
  have hu40 := Tryd.underlying40
  have HB := Aside0.mk (Below.refl w.heap.size w)
  have H : ((calls_Find.f k (⟨#[112, 116, 114, 97, 99, 101]⟩ : ByteArray)).bind fun bt111 => (if bt111.2.isNone = true then (if bt111.1 = 24 then ((calls_Name.f bt111.1).bind fun t114 => (if t114.toList = ([112, 116, 114, 97, 99, 101] : List UInt8) then ((calls_Args.f bt111.1).bind fun t115 => (if t115 = 4 then ((calls_Ask.f 12).bind fun t116 => (if t116.toList = ([113, 117, 105, 116] : List UInt8) then ((calls_Result.f 5 none).bind fun t117 => (if t117 = 5 then ((calls_Result.f 0 (some 2)).bind fun t118 => (if t118 = 4294967294 then ((calls_Failed.f 4294967294).bind fun t119 => (some (t119 == 2))) else (some false))) else (some false))) else (some false))) else (some false))) else (some false))) else (some false)) else (some false))) = some r := h
  clear h
  replace H := Option.bind_eq_some_iff.mp H
  obtain ⟨⟨t111, t112⟩, A10, H⟩ := H
  replace H : (if t112.isNone = true then (if t111 = 24 then ((calls_Name.f t111).bind fun t114 => (if t114.toList = ([112, 116, 114, 97, 99, 101] : List UInt8) then ((calls_Args.f t111).bind fun t115 => (if t115 = 4 then ((calls_Ask.f 12).bind fun t116 => (if t116.toList = ([113, 117, 105, 116] : List UInt8) then ((calls_Result.f 5 none).bind fun t117 => (if t117 = 5 then ((calls_Result.f 0 (some 2)).bind fun t118 => (if t118 = 4294967294 then ((calls_Failed.f 4294967294).bind fun t119 => (some (t119 == 2))) else (some false))) else (some false))) else (some false))) else (some false))) else (some false))) else (some false)) else (some false)) = some r := H
  have A1 := Aside0.mk A10
  clear A10
  rcases t112 with _ | q113
  · have H1 : (if t111 = 24 then ((calls_Name.f t111).bind fun t114 => (if t114.toList = ([112, 116, 114, 97, 99, 101] : List UInt8) then ((calls_Args.f t111).bind fun t115 => (if t115 = 4 then ((calls_Ask.f 12).bind fun t116 => (if t116.toList = ([113, 117, 105, 116] : List UInt8) then ((calls_Result.f 5 none).bind fun t117 => (if t117 = 5 then ((calls_Result.f 0 (some 2)).bind fun t118 => (if t118 = 4294967294 then ((calls_Failed.f 4294967294).bind fun t119 => (some (t119 == 2))) else (some false))) else (some false))) else (some false))) else (some false))) else (some false))) else (some false)) = some r := by rw [if_pos (show (none : Option Int).isNone = true by rfl)] at H; exact H
    clear H
    have H := H1
    clear H1
    try simp only [errW_none, errW_some]
    by_cases c2 : t111 = 24
    · rw [if_pos c2] at H
      have c2b0 : (t111 == 24) = true := beq_iff_eq.mpr c2
      have c2b1 : (t111 != 24) = false := bne_eq_false_iff_eq.mpr c2
      clear c2
      replace H := Option.bind_eq_some_iff.mp H
      obtain ⟨t114, A30, H⟩ := H
      replace H : (if t114.toList = ([112, 116, 114, 97, 99, 101] : List UInt8) then ((calls_Args.f t111).bind fun t115 => (if t115 = 4 then ((calls_Ask.f 12).bind fun t116 => (if t116.toList = ([113, 117, 105, 116] : List UInt8) then ((calls_Result.f 5 none).bind fun t117 => (if t117 = 5 then ((calls_Result.f 0 (some 2)).bind fun t118 => (if t118 = 4294967294 then ((calls_Failed.f 4294967294).bind fun t119 => (some (t119 == 2))) else (some false))) else (some false))) else (some false))) else (some false))) else (some false)) = some r := H
      have A3 := Aside0.mk A30
      clear A30
      by_cases c4 : t114.toList = ([112, 116, 114, 97, 99, 101] : List UInt8)
      · rw [if_pos c4] at H
        have c4b0 : (t114.toList == ([112, 116, 114, 97, 99, 101] : List UInt8)) = true := beq_iff_eq.mpr c4
        have c4b1 : (t114.toList != ([112, 116, 114, 97, 99, 101] : List UInt8)) = false := bne_eq_false_iff_eq.mpr c4
        clear c4
        replace H := Option.bind_eq_some_iff.mp H
        obtain ⟨t115, A50, H⟩ := H
        replace H : (if t115 = 4 then ((calls_Ask.f 12).bind fun t116 => (if t116.toList = ([113, 117, 105, 116] : List UInt8) then ((calls_Result.f 5 none).bind fun t117 => (if t117 = 5 then ((calls_Result.f 0 (some 2)).bind fun t118 => (if t118 = 4294967294 then ((calls_Failed.f 4294967294).bind fun t119 => (some (t119 == 2))) else (some false))) else (some false))) else (some false))) else (some false)) = some r := H
        have A5 := Aside0.mk A50
        clear A50
        by_cases c6 : t115 = 4
        · rw [if_pos c6] at H
          have c6b0 : (t115 == 4) = true := beq_iff_eq.mpr c6
          have c6b1 : (t115 != 4) = false := bne_eq_false_iff_eq.mpr c6
          clear c6
          replace H := Option.bind_eq_some_iff.mp H
          obtain ⟨t116, A70, H⟩ := H
          replace H : (if t116.toList = ([113, 117, 105, 116] : List UInt8) then ((calls_Result.f 5 none).bind fun t117 => (if t117 = 5 then ((calls_Result.f 0 (some 2)).bind fun t118 => (if t118 = 4294967294 then ((calls_Failed.f 4294967294).bind fun t119 => (some (t119 == 2))) else (some false))) else (some false))) else (some false)) = some r := H
          have A7 := Aside0.mk A70
          clear A70
          by_cases c8 : t116.toList = ([113, 117, 105, 116] : List UInt8)
          · rw [if_pos c8] at H
            have c8b0 : (t116.toList == ([113, 117, 105, 116] : List UInt8)) = true := beq_iff_eq.mpr c8
            have c8b1 : (t116.toList != ([113, 117, 105, 116] : List UInt8)) = false := bne_eq_false_iff_eq.mpr c8
            clear c8
            replace H := Option.bind_eq_some_iff.mp H
            obtain ⟨t117, A90, H⟩ := H
            replace H : (if t117 = 5 then ((calls_Result.f 0 (some 2)).bind fun t118 => (if t118 = 4294967294 then ((calls_Failed.f 4294967294).bind fun t119 => (some (t119 == 2))) else (some false))) else (some false)) = some r := H
            have A9 := Aside0.mk A90
            clear A90
            by_cases c10 : t117 = 5
            · rw [if_pos c10] at H
              have c10b0 : (t117 == 5) = true := beq_iff_eq.mpr c10
              have c10b1 : (t117 != 5) = false := bne_eq_false_iff_eq.mpr c10
              clear c10
              replace H := Option.bind_eq_some_iff.mp H
              obtain ⟨t118, A110, H⟩ := H
              replace H : (if t118 = 4294967294 then ((calls_Failed.f 4294967294).bind fun t119 => (some (t119 == 2))) else (some false)) = some r := H
              have A11 := Aside0.mk A110
              clear A110
              by_cases c12 : t118 = 4294967294
              · rw [if_pos c12] at H
                have c12b0 : (t118 == 4294967294) = true := beq_iff_eq.mpr c12
                have c12b1 : (t118 != 4294967294) = false := bne_eq_false_iff_eq.mpr c12
                clear c12
                replace H := Option.bind_eq_some_iff.mp H
                obtain ⟨t119, A130, H⟩ := H
                replace H : (some (t119 == 2)) = some r := H
                have A13 := Aside0.mk A130
                clear A130
                obtain rfl := Option.some.inj H
                go_enter Tryd.func12, Tryd.ntmps12
                go_wp2_with (first | ((with_reducible refine gate_callee (f := 7) rfl ?_); refine goesL_ (some 4) rfl rfl Tryd.func7 (by kernel_rfl) rfl #[.string (⟨#[112, 116, 114, 97, 99, 101]⟩ : ByteArray)] rfl (by (try simp only [List.map_toArray, List.map_cons, List.map_nil]); first | done | rfl | (simp only [List.length_drop, List.length_take]; rfl)) ?_; (with_reducible refine (calls_Find.calls k (⟨#[112, 116, 114, 97, 99, 101]⟩ : ByteArray) t111 none _ A1.out).mono ?_); rintro e w14 ⟨rfl, hb⟩; refine ⟨_, rfl, ?_⟩; have n0_ := Aside0.mk (below_step (by repeat (first | (with_reducible first | exact HB.out | apply below_alloc | apply pw_below_drewN | apply below_drew1) | exact HB.out | (with_reducible exact Below.refl _ _))) hb); clear HB; have HB := n0_; clear n0_; (try clear hb); (try clear hb2); (try clear hk); (try clear hi); (try simp only [errW_none, errW_some])) | (go_at_call 9; (with_reducible refine (calls_Name.calls t111 t114 _ A3.out).mono ?_); rintro e w15 ⟨rfl, hb⟩; have n0_ := Aside0.mk (below_step (by repeat (first | (with_reducible first | exact HB.out | apply below_alloc | apply pw_below_drewN | apply below_drew1) | exact HB.out | (with_reducible exact Below.refl _ _))) hb); clear HB; have HB := n0_; clear n0_; (try clear hb); (try clear hb2); (try clear hk); (try clear hi)) | (go_at_call 10; (with_reducible refine (calls_Args.calls t111 t115 _ A5.out).mono ?_); rintro e w16 ⟨rfl, hb⟩; have n0_ := Aside0.mk (below_step (by repeat (first | (with_reducible first | exact HB.out | apply below_alloc | apply pw_below_drewN | apply below_drew1) | exact HB.out | (with_reducible exact Below.refl _ _))) hb); clear HB; have HB := n0_; clear n0_; (try clear hb); (try clear hb2); (try clear hk); (try clear hi)) | (go_at_call 11; (with_reducible refine (calls_Ask.calls 12 t116 _ A7.out).mono ?_); rintro e w17 ⟨rfl, hb⟩; have n0_ := Aside0.mk (below_step (by repeat (first | (with_reducible first | exact HB.out | apply below_alloc | apply pw_below_drewN | apply below_drew1) | exact HB.out | (with_reducible exact Below.refl _ _))) hb); clear HB; have HB := n0_; clear n0_; (try clear hb); (try clear hb2); (try clear hk); (try clear hi); have CA9 := fun W (g_ : GC W) => calls_Result.calls 5 none t117 W g_ A9.out; try simp only [errW_none, errW_some] at CA9) | (go_at_call 15; (with_reducible refine (CA9 _ ?side1).mono ?_); (case side1 => refine GC.below hGC ?_; repeat (first | (with_reducible first | exact HB.out | apply below_alloc | apply pw_below_drewN | apply below_drew1) | exact HB.out | (with_reducible exact Below.refl _ _))); rintro e w18 ⟨rfl, hb⟩; have n0_ := Aside0.mk (below_step (by repeat (first | (with_reducible first | exact HB.out | apply below_alloc | apply pw_below_drewN | apply below_drew1) | exact HB.out | (with_reducible exact Below.refl _ _))) hb); clear HB; have HB := n0_; clear n0_; (try clear hb); (try clear hb2); (try clear hk); (try clear hi); have CA11 := fun W (g_ : GC W) => calls_Result.calls 0 (some 2) t118 W g_ A11.out; try simp only [errW_none, errW_some] at CA11) | (go_at_call 15; (with_reducible refine (CA11 _ ?side1).mono ?_); (case side1 => refine GC.below hGC ?_; repeat (first | (with_reducible first | exact HB.out | apply below_alloc | apply pw_below_drewN | apply below_drew1) | exact HB.out | (with_reducible exact Below.refl _ _))); rintro e w19 ⟨rfl, hb⟩; have n0_ := Aside0.mk (below_step (by repeat (first | (with_reducible first | exact HB.out | apply below_alloc | apply pw_below_drewN | apply below_drew1) | exact HB.out | (with_reducible exact Below.refl _ _))) hb); clear HB; have HB := n0_; clear n0_; (try clear hb); (try clear hb2); (try clear hk); (try clear hi)) | (go_at_call 13; (with_reducible refine (calls_Failed.calls 4294967294 t119 _ A13.out).mono ?_); rintro e w' ⟨rfl, ⟨nd, rfl⟩⟩))
                go_ret
                exact ⟨by first | rfl | (simp [errW_none, errW_some] <;> rfl) | (simp [*, errW_none, errW_some] <;> rfl), by repeat (first | (with_reducible first | exact HB.out | apply below_alloc | apply pw_below_drewN | apply below_drew1) | exact HB.out | (with_reducible exact Below.refl _ _))⟩
              · rw [if_neg c12] at H
                have c12b0 : (t118 == 4294967294) = false := beq_eq_false_iff_ne.mpr c12
                have c12b1 : (t118 != 4294967294) = true := bne_iff_ne.mpr c12
                obtain rfl := Option.some.inj H
                go_enter Tryd.func12, Tryd.ntmps12
                go_wp2_with (first | ((with_reducible refine gate_callee (f := 7) rfl ?_); refine goesL_ (some 4) rfl rfl Tryd.func7 (by kernel_rfl) rfl #[.string (⟨#[112, 116, 114, 97, 99, 101]⟩ : ByteArray)] rfl (by (try simp only [List.map_toArray, List.map_cons, List.map_nil]); first | done | rfl | (simp only [List.length_drop, List.length_take]; rfl)) ?_; (with_reducible refine (calls_Find.calls k (⟨#[112, 116, 114, 97, 99, 101]⟩ : ByteArray) t111 none _ A1.out).mono ?_); rintro e w20 ⟨rfl, hb⟩; refine ⟨_, rfl, ?_⟩; have n0_ := Aside0.mk (below_step (by repeat (first | (with_reducible first | exact HB.out | apply below_alloc | apply pw_below_drewN | apply below_drew1) | exact HB.out | (with_reducible exact Below.refl _ _))) hb); clear HB; have HB := n0_; clear n0_; (try clear hb); (try clear hb2); (try clear hk); (try clear hi); (try simp only [errW_none, errW_some])) | (go_at_call 9; (with_reducible refine (calls_Name.calls t111 t114 _ A3.out).mono ?_); rintro e w21 ⟨rfl, hb⟩; have n0_ := Aside0.mk (below_step (by repeat (first | (with_reducible first | exact HB.out | apply below_alloc | apply pw_below_drewN | apply below_drew1) | exact HB.out | (with_reducible exact Below.refl _ _))) hb); clear HB; have HB := n0_; clear n0_; (try clear hb); (try clear hb2); (try clear hk); (try clear hi)) | (go_at_call 10; (with_reducible refine (calls_Args.calls t111 t115 _ A5.out).mono ?_); rintro e w22 ⟨rfl, hb⟩; have n0_ := Aside0.mk (below_step (by repeat (first | (with_reducible first | exact HB.out | apply below_alloc | apply pw_below_drewN | apply below_drew1) | exact HB.out | (with_reducible exact Below.refl _ _))) hb); clear HB; have HB := n0_; clear n0_; (try clear hb); (try clear hb2); (try clear hk); (try clear hi)) | (go_at_call 11; (with_reducible refine (calls_Ask.calls 12 t116 _ A7.out).mono ?_); rintro e w23 ⟨rfl, hb⟩; have n0_ := Aside0.mk (below_step (by repeat (first | (with_reducible first | exact HB.out | apply below_alloc | apply pw_below_drewN | apply below_drew1) | exact HB.out | (with_reducible exact Below.refl _ _))) hb); clear HB; have HB := n0_; clear n0_; (try clear hb); (try clear hb2); (try clear hk); (try clear hi); have CA9 := fun W (g_ : GC W) => calls_Result.calls 5 none t117 W g_ A9.out; try simp only [errW_none, errW_some] at CA9) | (go_at_call 15; (with_reducible refine (CA9 _ ?side1).mono ?_); (case side1 => refine GC.below hGC ?_; repeat (first | (with_reducible first | exact HB.out | apply below_alloc | apply pw_below_drewN | apply below_drew1) | exact HB.out | (with_reducible exact Below.refl _ _))); rintro e w24 ⟨rfl, hb⟩; have n0_ := Aside0.mk (below_step (by repeat (first | (with_reducible first | exact HB.out | apply below_alloc | apply pw_below_drewN | apply below_drew1) | exact HB.out | (with_reducible exact Below.refl _ _))) hb); clear HB; have HB := n0_; clear n0_; (try clear hb); (try clear hb2); (try clear hk); (try clear hi); have CA11 := fun W (g_ : GC W) => calls_Result.calls 0 (some 2) t118 W g_ A11.out; try simp only [errW_none, errW_some] at CA11) | (go_at_call 15; (with_reducible refine (CA11 _ ?side1).mono ?_); (case side1 => refine GC.below hGC ?_; repeat (first | (with_reducible first | exact HB.out | apply below_alloc | apply pw_below_drewN | apply below_drew1) | exact HB.out | (with_reducible exact Below.refl _ _))); rintro e w25 ⟨rfl, hb⟩; have n0_ := Aside0.mk (below_step (by repeat (first | (with_reducible first | exact HB.out | apply below_alloc | apply pw_below_drewN | apply below_drew1) | exact HB.out | (with_reducible exact Below.refl _ _))) hb); clear HB; have HB := n0_; clear n0_; (try clear hb); (try clear hb2); (try clear hk); (try clear hi)))
                go_ret
                exact ⟨by first | rfl | (simp [errW_none, errW_some] <;> rfl) | (simp [*, errW_none, errW_some] <;> rfl), by repeat (first | (with_reducible first | exact HB.out | apply below_alloc | apply pw_below_drewN | apply below_drew1) | exact HB.out | (with_reducible exact Below.refl _ _))⟩
            · rw [if_neg c10] at H
              have c10b0 : (t117 == 5) = false := beq_eq_false_iff_ne.mpr c10
              have c10b1 : (t117 != 5) = true := bne_iff_ne.mpr c10
              obtain rfl := Option.some.inj H
              go_enter Tryd.func12, Tryd.ntmps12
              go_wp2_with (first | ((with_reducible refine gate_callee (f := 7) rfl ?_); refine goesL_ (some 4) rfl rfl Tryd.func7 (by kernel_rfl) rfl #[.string (⟨#[112, 116, 114, 97, 99, 101]⟩ : ByteArray)] rfl (by (try simp only [List.map_toArray, List.map_cons, List.map_nil]); first | done | rfl | (simp only [List.length_drop, List.length_take]; rfl)) ?_; (with_reducible refine (calls_Find.calls k (⟨#[112, 116, 114, 97, 99, 101]⟩ : ByteArray) t111 none _ A1.out).mono ?_); rintro e w26 ⟨rfl, hb⟩; refine ⟨_, rfl, ?_⟩; have n0_ := Aside0.mk (below_step (by repeat (first | (with_reducible first | exact HB.out | apply below_alloc | apply pw_below_drewN | apply below_drew1) | exact HB.out | (with_reducible exact Below.refl _ _))) hb); clear HB; have HB := n0_; clear n0_; (try clear hb); (try clear hb2); (try clear hk); (try clear hi); (try simp only [errW_none, errW_some])) | (go_at_call 9; (with_reducible refine (calls_Name.calls t111 t114 _ A3.out).mono ?_); rintro e w27 ⟨rfl, hb⟩; have n0_ := Aside0.mk (below_step (by repeat (first | (with_reducible first | exact HB.out | apply below_alloc | apply pw_below_drewN | apply below_drew1) | exact HB.out | (with_reducible exact Below.refl _ _))) hb); clear HB; have HB := n0_; clear n0_; (try clear hb); (try clear hb2); (try clear hk); (try clear hi)) | (go_at_call 10; (with_reducible refine (calls_Args.calls t111 t115 _ A5.out).mono ?_); rintro e w28 ⟨rfl, hb⟩; have n0_ := Aside0.mk (below_step (by repeat (first | (with_reducible first | exact HB.out | apply below_alloc | apply pw_below_drewN | apply below_drew1) | exact HB.out | (with_reducible exact Below.refl _ _))) hb); clear HB; have HB := n0_; clear n0_; (try clear hb); (try clear hb2); (try clear hk); (try clear hi)) | (go_at_call 11; (with_reducible refine (calls_Ask.calls 12 t116 _ A7.out).mono ?_); rintro e w29 ⟨rfl, hb⟩; have n0_ := Aside0.mk (below_step (by repeat (first | (with_reducible first | exact HB.out | apply below_alloc | apply pw_below_drewN | apply below_drew1) | exact HB.out | (with_reducible exact Below.refl _ _))) hb); clear HB; have HB := n0_; clear n0_; (try clear hb); (try clear hb2); (try clear hk); (try clear hi); have CA9 := fun W (g_ : GC W) => calls_Result.calls 5 none t117 W g_ A9.out; try simp only [errW_none, errW_some] at CA9) | (go_at_call 15; (with_reducible refine (CA9 _ ?side1).mono ?_); (case side1 => refine GC.below hGC ?_; repeat (first | (with_reducible first | exact HB.out | apply below_alloc | apply pw_below_drewN | apply below_drew1) | exact HB.out | (with_reducible exact Below.refl _ _))); rintro e w30 ⟨rfl, hb⟩; have n0_ := Aside0.mk (below_step (by repeat (first | (with_reducible first | exact HB.out | apply below_alloc | apply pw_below_drewN | apply below_drew1) | exact HB.out | (with_reducible exact Below.refl _ _))) hb); clear HB; have HB := n0_; clear n0_; (try clear hb); (try clear hb2); (try clear hk); (try clear hi)))
              go_ret
              exact ⟨by first | rfl | (simp [errW_none, errW_some] <;> rfl) | (simp [*, errW_none, errW_some] <;> rfl), by repeat (first | (with_reducible first | exact HB.out | apply below_alloc | apply pw_below_drewN | apply below_drew1) | exact HB.out | (with_reducible exact Below.refl _ _))⟩
          · rw [if_neg c8] at H
            have c8b0 : (t116.toList == ([113, 117, 105, 116] : List UInt8)) = false := beq_eq_false_iff_ne.mpr c8
            have c8b1 : (t116.toList != ([113, 117, 105, 116] : List UInt8)) = true := bne_iff_ne.mpr c8
            obtain rfl := Option.some.inj H
            go_enter Tryd.func12, Tryd.ntmps12
            go_wp2_with (first | ((with_reducible refine gate_callee (f := 7) rfl ?_); refine goesL_ (some 4) rfl rfl Tryd.func7 (by kernel_rfl) rfl #[.string (⟨#[112, 116, 114, 97, 99, 101]⟩ : ByteArray)] rfl (by (try simp only [List.map_toArray, List.map_cons, List.map_nil]); first | done | rfl | (simp only [List.length_drop, List.length_take]; rfl)) ?_; (with_reducible refine (calls_Find.calls k (⟨#[112, 116, 114, 97, 99, 101]⟩ : ByteArray) t111 none _ A1.out).mono ?_); rintro e w31 ⟨rfl, hb⟩; refine ⟨_, rfl, ?_⟩; have n0_ := Aside0.mk (below_step (by repeat (first | (with_reducible first | exact HB.out | apply below_alloc | apply pw_below_drewN | apply below_drew1) | exact HB.out | (with_reducible exact Below.refl _ _))) hb); clear HB; have HB := n0_; clear n0_; (try clear hb); (try clear hb2); (try clear hk); (try clear hi); (try simp only [errW_none, errW_some])) | (go_at_call 9; (with_reducible refine (calls_Name.calls t111 t114 _ A3.out).mono ?_); rintro e w32 ⟨rfl, hb⟩; have n0_ := Aside0.mk (below_step (by repeat (first | (with_reducible first | exact HB.out | apply below_alloc | apply pw_below_drewN | apply below_drew1) | exact HB.out | (with_reducible exact Below.refl _ _))) hb); clear HB; have HB := n0_; clear n0_; (try clear hb); (try clear hb2); (try clear hk); (try clear hi)) | (go_at_call 10; (with_reducible refine (calls_Args.calls t111 t115 _ A5.out).mono ?_); rintro e w33 ⟨rfl, hb⟩; have n0_ := Aside0.mk (below_step (by repeat (first | (with_reducible first | exact HB.out | apply below_alloc | apply pw_below_drewN | apply below_drew1) | exact HB.out | (with_reducible exact Below.refl _ _))) hb); clear HB; have HB := n0_; clear n0_; (try clear hb); (try clear hb2); (try clear hk); (try clear hi)) | (go_at_call 11; (with_reducible refine (calls_Ask.calls 12 t116 _ A7.out).mono ?_); rintro e w34 ⟨rfl, hb⟩; have n0_ := Aside0.mk (below_step (by repeat (first | (with_reducible first | exact HB.out | apply below_alloc | apply pw_below_drewN | apply below_drew1) | exact HB.out | (with_reducible exact Below.refl _ _))) hb); clear HB; have HB := n0_; clear n0_; (try clear hb); (try clear hb2); (try clear hk); (try clear hi)))
            go_ret
            exact ⟨by first | rfl | (simp [errW_none, errW_some] <;> rfl) | (simp [*, errW_none, errW_some] <;> rfl), by repeat (first | (with_reducible first | exact HB.out | apply below_alloc | apply pw_below_drewN | apply below_drew1) | exact HB.out | (with_reducible exact Below.refl _ _))⟩
        · rw [if_neg c6] at H
          have c6b0 : (t115 == 4) = false := beq_eq_false_iff_ne.mpr c6
          have c6b1 : (t115 != 4) = true := bne_iff_ne.mpr c6
          obtain rfl := Option.some.inj H
          go_enter Tryd.func12, Tryd.ntmps12
          go_wp2_with (first | ((with_reducible refine gate_callee (f := 7) rfl ?_); refine goesL_ (some 4) rfl rfl Tryd.func7 (by kernel_rfl) rfl #[.string (⟨#[112, 116, 114, 97, 99, 101]⟩ : ByteArray)] rfl (by (try simp only [List.map_toArray, List.map_cons, List.map_nil]); first | done | rfl | (simp only [List.length_drop, List.length_take]; rfl)) ?_; (with_reducible refine (calls_Find.calls k (⟨#[112, 116, 114, 97, 99, 101]⟩ : ByteArray) t111 none _ A1.out).mono ?_); rintro e w35 ⟨rfl, hb⟩; refine ⟨_, rfl, ?_⟩; have n0_ := Aside0.mk (below_step (by repeat (first | (with_reducible first | exact HB.out | apply below_alloc | apply pw_below_drewN | apply below_drew1) | exact HB.out | (with_reducible exact Below.refl _ _))) hb); clear HB; have HB := n0_; clear n0_; (try clear hb); (try clear hb2); (try clear hk); (try clear hi); (try simp only [errW_none, errW_some])) | (go_at_call 9; (with_reducible refine (calls_Name.calls t111 t114 _ A3.out).mono ?_); rintro e w36 ⟨rfl, hb⟩; have n0_ := Aside0.mk (below_step (by repeat (first | (with_reducible first | exact HB.out | apply below_alloc | apply pw_below_drewN | apply below_drew1) | exact HB.out | (with_reducible exact Below.refl _ _))) hb); clear HB; have HB := n0_; clear n0_; (try clear hb); (try clear hb2); (try clear hk); (try clear hi)) | (go_at_call 10; (with_reducible refine (calls_Args.calls t111 t115 _ A5.out).mono ?_); rintro e w37 ⟨rfl, hb⟩; have n0_ := Aside0.mk (below_step (by repeat (first | (with_reducible first | exact HB.out | apply below_alloc | apply pw_below_drewN | apply below_drew1) | exact HB.out | (with_reducible exact Below.refl _ _))) hb); clear HB; have HB := n0_; clear n0_; (try clear hb); (try clear hb2); (try clear hk); (try clear hi)))
          go_ret
          exact ⟨by first | rfl | (simp [errW_none, errW_some] <;> rfl) | (simp [*, errW_none, errW_some] <;> rfl), by repeat (first | (with_reducible first | exact HB.out | apply below_alloc | apply pw_below_drewN | apply below_drew1) | exact HB.out | (with_reducible exact Below.refl _ _))⟩
      · rw [if_neg c4] at H
        have c4b0 : (t114.toList == ([112, 116, 114, 97, 99, 101] : List UInt8)) = false := beq_eq_false_iff_ne.mpr c4
        have c4b1 : (t114.toList != ([112, 116, 114, 97, 99, 101] : List UInt8)) = true := bne_iff_ne.mpr c4
        obtain rfl := Option.some.inj H
        go_enter Tryd.func12, Tryd.ntmps12
        go_wp2_with (first | ((with_reducible refine gate_callee (f := 7) rfl ?_); refine goesL_ (some 4) rfl rfl Tryd.func7 (by kernel_rfl) rfl #[.string (⟨#[112, 116, 114, 97, 99, 101]⟩ : ByteArray)] rfl (by (try simp only [List.map_toArray, List.map_cons, List.map_nil]); first | done | rfl | (simp only [List.length_drop, List.length_take]; rfl)) ?_; (with_reducible refine (calls_Find.calls k (⟨#[112, 116, 114, 97, 99, 101]⟩ : ByteArray) t111 none _ A1.out).mono ?_); rintro e w38 ⟨rfl, hb⟩; refine ⟨_, rfl, ?_⟩; have n0_ := Aside0.mk (below_step (by repeat (first | (with_reducible first | exact HB.out | apply below_alloc | apply pw_below_drewN | apply below_drew1) | exact HB.out | (with_reducible exact Below.refl _ _))) hb); clear HB; have HB := n0_; clear n0_; (try clear hb); (try clear hb2); (try clear hk); (try clear hi); (try simp only [errW_none, errW_some])) | (go_at_call 9; (with_reducible refine (calls_Name.calls t111 t114 _ A3.out).mono ?_); rintro e w39 ⟨rfl, hb⟩; have n0_ := Aside0.mk (below_step (by repeat (first | (with_reducible first | exact HB.out | apply below_alloc | apply pw_below_drewN | apply below_drew1) | exact HB.out | (with_reducible exact Below.refl _ _))) hb); clear HB; have HB := n0_; clear n0_; (try clear hb); (try clear hb2); (try clear hk); (try clear hi)))
        go_ret
        exact ⟨by first | rfl | (simp [errW_none, errW_some] <;> rfl) | (simp [*, errW_none, errW_some] <;> rfl), by repeat (first | (with_reducible first | exact HB.out | apply below_alloc | apply pw_below_drewN | apply below_drew1) | exact HB.out | (with_reducible exact Below.refl _ _))⟩
    · rw [if_neg c2] at H
      have c2b0 : (t111 == 24) = false := beq_eq_false_iff_ne.mpr c2
      have c2b1 : (t111 != 24) = true := bne_iff_ne.mpr c2
      obtain rfl := Option.some.inj H
      go_enter Tryd.func12, Tryd.ntmps12
      go_wp2_with (first | ((with_reducible refine gate_callee (f := 7) rfl ?_); refine goesL_ (some 4) rfl rfl Tryd.func7 (by kernel_rfl) rfl #[.string (⟨#[112, 116, 114, 97, 99, 101]⟩ : ByteArray)] rfl (by (try simp only [List.map_toArray, List.map_cons, List.map_nil]); first | done | rfl | (simp only [List.length_drop, List.length_take]; rfl)) ?_; (with_reducible refine (calls_Find.calls k (⟨#[112, 116, 114, 97, 99, 101]⟩ : ByteArray) t111 none _ A1.out).mono ?_); rintro e w40 ⟨rfl, hb⟩; refine ⟨_, rfl, ?_⟩; have n0_ := Aside0.mk (below_step (by repeat (first | (with_reducible first | exact HB.out | apply below_alloc | apply pw_below_drewN | apply below_drew1) | exact HB.out | (with_reducible exact Below.refl _ _))) hb); clear HB; have HB := n0_; clear n0_; (try clear hb); (try clear hb2); (try clear hk); (try clear hi); (try simp only [errW_none, errW_some])))
      go_ret
      exact ⟨by first | rfl | (simp [errW_none, errW_some] <;> rfl) | (simp [*, errW_none, errW_some] <;> rfl), by repeat (first | (with_reducible first | exact HB.out | apply below_alloc | apply pw_below_drewN | apply below_drew1) | exact HB.out | (with_reducible exact Below.refl _ _))⟩
  · have H1 : (some false) = some r := by rw [if_neg (show ¬ (some q113).isNone = true by simp)] at H; exact H
    clear H
    have H := H1
    clear H1
    try simp only [errW_none, errW_some]
    obtain rfl := Option.some.inj H
    go_enter Tryd.func12, Tryd.ntmps12
    go_wp2_with (first | ((with_reducible refine gate_callee (f := 7) rfl ?_); refine goesL_ (some 4) rfl rfl Tryd.func7 (by kernel_rfl) rfl #[.string (⟨#[112, 116, 114, 97, 99, 101]⟩ : ByteArray)] rfl (by (try simp only [List.map_toArray, List.map_cons, List.map_nil]); first | done | rfl | (simp only [List.length_drop, List.length_take]; rfl)) ?_; (with_reducible refine (calls_Find.calls k (⟨#[112, 116, 114, 97, 99, 101]⟩ : ByteArray) t111 (some q113) _ A1.out).mono ?_); rintro e w41 ⟨rfl, hb⟩; refine ⟨_, rfl, ?_⟩; have n0_ := Aside0.mk (below_step (by repeat (first | (with_reducible first | exact HB.out | apply below_alloc | apply pw_below_drewN | apply below_drew1) | exact HB.out | (with_reducible exact Below.refl _ _))) hb); clear HB; have HB := n0_; clear n0_; (try clear hb); (try clear hb2); (try clear hk); (try clear hi); (try simp only [errW_none, errW_some])))
    go_ret
    exact ⟨by first | rfl | (simp [errW_none, errW_some] <;> rfl) | (simp [*, errW_none, errW_some] <;> rfl), by repeat (first | (with_reducible first | exact HB.out | apply below_alloc | apply pw_below_drewN | apply below_drew1) | exact HB.out | (with_reducible exact Below.refl _ _))⟩

end Go.Proofs.YtfoobmiknmpeeaaDoor.PCallsNames
