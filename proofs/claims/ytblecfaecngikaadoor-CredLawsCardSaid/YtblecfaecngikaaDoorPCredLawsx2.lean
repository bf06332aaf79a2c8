-- Laid by this session's own printer (pp.py in the repo's wip/pp).
import Derived.Test.YtblecfaecngikaaDoorPCredLawsx0
import Derived.Test.YtblecfaecngikaaDoorPCredLawsx1
namespace Go.Proofs.YtblecfaecngikaaDoor.PCredLaws
open Go.RowKit Go.Proofs.YtblecfaecngikaaDoorW.PrintWords Go.Proofs.YtblecfaecngikaaDoorW.PrintLast Go.Proofs.YtblecfaecngikaaDoorW.PrintMore Go.Proofs.YtblecfaecngikaaDoorX
attribute [local go_sem] max2_int min2_int max_two min_two max_three min_three max_four min_four   -- for this text's walks alone
set_option linter.unusedVariables false
set_option linter.unusedSimpArgs false

/-! ### halterlaw22_CredLaws: function 4 -/
def halterlaw22_CredLaws.j0 : Nat → Int → Int → Bool → Option (Bool)
  | 0, _, _, _ => none
  | k + 1, x7, x8, x56 => if x56 = true then (some false) else ((cred_Become.f k x7 x8).bind fun bt130 => (if bt130.2.isNone = true then ((cred_May.f x7 x8).bind fun t133 => (if (true == t133) = true then (if bt130.1 = x8 then ((halterlaw22_sure.f k).bind fun t134 => (some t134)) else (some false)) else (some false))) else ((cred_May.f x7 x8).bind fun t135 => (if (false == t135) = true then ((halterlaw22_sure.f k).bind fun t136 => (some t136)) else (some false)))))
def halterlaw22_CredLaws.f (k : Nat) (a0 : Int) (a1 : Int) (a2 : Int) : Option (Bool) := (cred_May.f (wrap64 (Int.tmod (IntKind.u64.wrap (a0)) 65536)) (wrap64 (Int.tmod (IntKind.u64.wrap (a1)) 65536))).bind fun t118 => (if t118 = true then ((cred_May.f (wrap64 (Int.tmod (IntKind.u64.wrap (a1)) 65536)) (wrap64 (Int.tmod (IntKind.u64.wrap (a2)) 65536))).bind fun t119 => (if t119 = true then ((cred_May.f (wrap64 (Int.tmod (IntKind.u64.wrap (a0)) 65536)) (wrap64 (Int.tmod (IntKind.u64.wrap (a2)) 65536))).bind fun t120 => (if t120 = true then ((cred_May.f (wrap64 (Int.tmod (IntKind.u64.wrap (a0)) 65536)) (wrap64 (Int.tmod (IntKind.u64.wrap (a0)) 65536))).bind fun t121 => (if t121 = true then ((cred_May.f 0 (wrap64 (Int.tmod (IntKind.u64.wrap (a0)) 65536))).bind fun t122 => (if t122 = true then (if (wrap64 (Int.tmod (IntKind.u64.wrap (a0)) 65536)) = 0 then (halterlaw22_CredLaws.j0 k (wrap64 (Int.tmod (IntKind.u64.wrap (a0)) 65536)) (wrap64 (Int.tmod (IntKind.u64.wrap (a1)) 65536)) false) else ((cred_May.f (wrap64 (Int.tmod (IntKind.u64.wrap (a0)) 65536)) 0).bind fun t123 => (halterlaw22_CredLaws.j0 k (wrap64 (Int.tmod (IntKind.u64.wrap (a0)) 65536)) (wrap64 (Int.tmod (IntKind.u64.wrap (a1)) 65536)) t123))) else (halterlaw22_CredLaws.j0 k (wrap64 (Int.tmod (IntKind.u64.wrap (a0)) 65536)) (wrap64 (Int.tmod (IntKind.u64.wrap (a1)) 65536)) true))) else (halterlaw22_CredLaws.j0 k (wrap64 (Int.tmod (IntKind.u64.wrap (a0)) 65536)) (wrap64 (Int.tmod (IntKind.u64.wrap (a1)) 65536)) true))) else (halterlaw22_CredLaws.j0 k (wrap64 (Int.tmod (IntKind.u64.wrap (a0)) 65536)) (wrap64 (Int.tmod (IntKind.u64.wrap (a1)) 65536)) true))) else ((cred_May.f (wrap64 (Int.tmod (IntKind.u64.wrap (a0)) 65536)) (wrap64 (Int.tmod (IntKind.u64.wrap (a0)) 65536))).bind fun t124 => (if t124 = true then ((cred_May.f 0 (wrap64 (Int.tmod (IntKind.u64.wrap (a0)) 65536))).bind fun t125 => (if t125 = true then (if (wrap64 (Int.tmod (IntKind.u64.wrap (a0)) 65536)) = 0 then (halterlaw22_CredLaws.j0 k (wrap64 (Int.tmod (IntKind.u64.wrap (a0)) 65536)) (wrap64 (Int.tmod (IntKind.u64.wrap (a1)) 65536)) false) else ((cred_May.f (wrap64 (Int.tmod (IntKind.u64.wrap (a0)) 65536)) 0).bind fun t126 => (halterlaw22_CredLaws.j0 k (wrap64 (Int.tmod (IntKind.u64.wrap (a0)) 65536)) (wrap64 (Int.tmod (IntKind.u64.wrap (a1)) 65536)) t126))) else (halterlaw22_CredLaws.j0 k (wrap64 (Int.tmod (IntKind.u64.wrap (a0)) 65536)) (wrap64 (Int.tmod (IntKind.u64.wrap (a1)) 65536)) true))) else (halterlaw22_CredLaws.j0 k (wrap64 (Int.tmod (IntKind.u64.wrap (a0)) 65536)) (wrap64 (Int.tmod (IntKind.u64.wrap (a1)) 65536)) true))))) else ((cred_May.f (wrap64 (Int.tmod (IntKind.u64.wrap (a0)) 65536)) (wrap64 (Int.tmod (IntKind.u64.wrap (a0)) 65536))).bind fun t127 => (if t127 = true then ((cred_May.f 0 (wrap64 (Int.tmod (IntKind.u64.wrap (a0)) 65536))).bind fun t128 => (if t128 = true then (if (wrap64 (Int.tmod (IntKind.u64.wrap (a0)) 65536)) = 0 then (halterlaw22_CredLaws.j0 k (wrap64 (Int.tmod (IntKind.u64.wrap (a0)) 65536)) (wrap64 (Int.tmod (IntKind.u64.wrap (a1)) 65536)) false) else ((cred_May.f (wrap64 (Int.tmod (IntKind.u64.wrap (a0)) 65536)) 0).bind fun t129 => (halterlaw22_CredLaws.j0 k (wrap64 (Int.tmod (IntKind.u64.wrap (a0)) 65536)) (wrap64 (Int.tmod (IntKind.u64.wrap (a1)) 65536)) t129))) else (halterlaw22_CredLaws.j0 k (wrap64 (Int.tmod (IntKind.u64.wrap (a0)) 65536)) (wrap64 (Int.tmod (IntKind.u64.wrap (a1)) 65536)) true))) else (halterlaw22_CredLaws.j0 k (wrap64 (Int.tmod (IntKind.u64.wrap (a0)) 65536)) (wrap64 (Int.tmod (IntKind.u64.wrap (a1)) 65536)) true))))
theorem halterlaw22_CredLaws.mono_l : ∀ k, (∀ y0 y1 y2, LeO (halterlaw22_CredLaws.j0 k y0 y1 y2) (halterlaw22_CredLaws.j0 (k + 1) y0 y1 y2))
  | 0 => fun _ _ _ r h => by simp [halterlaw22_CredLaws.j0] at h
  | k + 1 => by
    have ih0 := halterlaw22_CredLaws.mono_l k
    · intro y0 y1 y2
      unfold halterlaw22_CredLaws.j0
      repeat' first
      | (with_reducible exact ih0 _ _ _)
      | (with_reducible exact cred_Become.mono _ _ _)
      | (with_reducible exact halterlaw22_sure.mono _)
      | (with_reducible exact LeO.refl _)
      | (with_reducible exact LeO.none _)
      | (with_reducible refine LeO.ite ?_ ?_)
      | (with_reducible refine LeO.bind ?_ (fun _ => ?_))
      | exact ih0 _ _ _
      | exact cred_Become.mono _ _ _
      | exact halterlaw22_sure.mono _
      | exact LeO.none _
      | refine LeO.ite ?_ ?_
      | refine LeO.bind ?_ (fun _ => ?_)
theorem halterlaw22_CredLaws.mono : ∀ a0 a1 a2 k, LeO (halterlaw22_CredLaws.f k a0 a1 a2) (halterlaw22_CredLaws.f (k + 1) a0 a1 a2) := by
  intro a0 a1 a2 k
  have ih0 := halterlaw22_CredLaws.mono_l k
  unfold halterlaw22_CredLaws.f
  repeat' first
      | (with_reducible exact ih0 _ _ _)
      | (with_reducible exact cred_Become.mono _ _ _)
      | (with_reducible exact halterlaw22_sure.mono _)
      | (with_reducible exact LeO.refl _)
      | (with_reducible exact LeO.none _)
      | (with_reducible refine LeO.ite ?_ ?_)
      | (with_reducible refine LeO.bind ?_ (fun _ => ?_))
      | exact ih0 _ _ _
      | exact cred_Become.mono _ _ _
      | exact halterlaw22_sure.mono _
      | exact LeO.none _
      | refine LeO.ite ?_ ?_
      | refine LeO.bind ?_ (fun _ => ?_)
def halterlaw22_CredLaws.T5 : Bool × List (List Nat × List Nat) := (true, [([], []), ([0], [0]), ([], []), ([], []), ([2, 3], [2, 3]), ([1, 4], [1, 4]), ([5, 4], [5]), ([6], [6]), ([7, 6], [6, 7]), ([8, 6, 6], [6, 8]), ([9], [9]), ([9], [9]), ([10, 11, 9], [9, 10, 11]), ([9, 12, 6], [6, 9, 12]), ([6, 13], [6, 13]), ([14, 9], [14]), ([15, 15], [15]), ([15, 16], [15, 16]), ([17, 16, 0, 1, 2, 3, 4, 5, 6, 7, 8, 9, 10, 11, 12, 13, 14, 15, 16, 17], [17])])
def halterlaw22_CredLaws.B5 : List Nat := [0, 1, 0, 0, 12, 31, 63, 127, 255, 511, 1023, 1023, 4095, 8191, 16383, 32767, 65535, 131071, 262143]
theorem halterlaw22_CredLaws.tab5 : rtab .any (opsOf Tryd.f4 5) = halterlaw22_CredLaws.T5 := by kernel_rfl
theorem halterlaw22_CredLaws.bits5 : waitsOk halterlaw22_CredLaws.T5.2 halterlaw22_CredLaws.B5 = true := by kernel_rfl
set_option maxHeartbeats 8000000 in
set_option maxRecDepth 100000 in
theorem halterlaw22_CredLaws.calls (k : Nat) (a0 : Int) (a1 : Int) (a2 : Int) (r : Bool) (w : World) (hGC : GC w) (h : halterlaw22_CredLaws.f k a0 a1 a2 = some r) :
    Calls Tryd.prog 4 #[.int .i64 a0, .int .i64 a1, .int .i64 a2] w fun e w' => e = .returned (.bool r) ∧ Below w.heap.size w w' := by
  have hu23 := Tryd.underlying23
  have hu33 := Tryd.underlying33
  have HB := Aside0.mk (Below.refl w.heap.size w)
  have H : ((cred_May.f (wrap64 (Int.tmod (IntKind.u64.wrap (a0)) 65536)) (wrap64 (Int.tmod (IntKind.u64.wrap (a1)) 65536))).bind fun t118 => (if t118 = true then ((cred_May.f (wrap64 (Int.tmod (IntKind.u64.wrap (a1)) 65536)) (wrap64 (Int.tmod (IntKind.u64.wrap (a2)) 65536))).bind fun t119 => (if t119 = true then ((cred_May.f (wrap64 (Int.tmod (IntKind.u64.wrap (a0)) 65536)) (wrap64 (Int.tmod (IntKind.u64.wrap (a2)) 65536))).bind fun t120 => (if t120 = true then ((cred_May.f (wrap64 (Int.tmod (IntKind.u64.wrap (a0)) 65536)) (wrap64 (Int.tmod (IntKind.u64.wrap (a0)) 65536))).bind fun t121 => (if t121 = true then ((cred_May.f 0 (wrap64 (Int.tmod (IntKind.u64.wrap (a0)) 65536))).bind fun t122 => (if t122 = true then (if (wrap64 (Int.tmod (IntKind.u64.wrap (a0)) 65536)) = 0 then (halterlaw22_CredLaws.j0 k (wrap64 (Int.tmod (IntKind.u64.wrap (a0)) 65536)) (wrap64 (Int.tmod (IntKind.u64.wrap (a1)) 65536)) false) else ((cred_May.f (wrap64 (Int.tmod (IntKind.u64.wrap (a0)) 65536)) 0).bind fun t123 => (halterlaw22_CredLaws.j0 k (wrap64 (Int.tmod (IntKind.u64.wrap (a0)) 65536)) (wrap64 (Int.tmod (IntKind.u64.wrap (a1)) 65536)) t123))) else (halterlaw22_CredLaws.j0 k (wrap64 (Int.tmod (IntKind.u64.wrap (a0)) 65536)) (wrap64 (Int.tmod (IntKind.u64.wrap (a1)) 65536)) true))) else (halterlaw22_CredLaws.j0 k (wrap64 (Int.tmod (IntKind.u64.wrap (a0)) 65536)) (wrap64 (Int.tmod (IntKind.u64.wrap (a1)) 65536)) true))) else (halterlaw22_CredLaws.j0 k (wrap64 (Int.tmod (IntKind.u64.wrap (a0)) 65536)) (wrap64 (Int.tmod (IntKind.u64.wrap (a1)) 65536)) true))) else ((cred_May.f (wrap64 (Int.tmod (IntKind.u64.wrap (a0)) 65536)) (wrap64 (Int.tmod (IntKind.u64.wrap (a0)) 65536))).bind fun t124 => (if t124 = true then ((cred_May.f 0 (wrap64 (Int.tmod (IntKind.u64.wrap (a0)) 65536))).bind fun t125 => (if t125 = true then (if (wrap64 (Int.tmod (IntKind.u64.wrap (a0)) 65536)) = 0 then (halterlaw22_CredLaws.j0 k (wrap64 (Int.tmod (IntKind.u64.wrap (a0)) 65536)) (wrap64 (Int.tmod (IntKind.u64.wrap (a1)) 65536)) false) else ((cred_May.f (wrap64 (Int.tmod (IntKind.u64.wrap (a0)) 65536)) 0).bind fun t126 => (halterlaw22_CredLaws.j0 k (wrap64 (Int.tmod (IntKind.u64.wrap (a0)) 65536)) (wrap64 (Int.tmod (IntKind.u64.wrap (a1)) 65536)) t126))) else (halterlaw22_CredLaws.j0 k (wrap64 (Int.tmod (IntKind.u64.wrap (a0)) 65536)) (wrap64 (Int.tmod (IntKind.u64.wrap (a1)) 65536)) true))) else (halterlaw22_CredLaws.j0 k (wrap64 (Int.tmod (IntKind.u64.wrap (a0)) 65536)) (wrap64 (Int.tmod (IntKind.u64.wrap (a1)) 65536)) true))))) else ((cred_May.f (wrap64 (Int.tmod (IntKind.u64.wrap (a0)) 65536)) (wrap64 (Int.tmod (IntKind.u64.wrap (a0)) 65536))).bind fun t127 => (if t127 = true then ((cred_May.f 0 (wrap64 (Int.tmod (IntKind.u64.wrap (a0)) 65536))).bind fun t128 => (if t128 = true then (if (wrap64 (Int.tmod (IntKind.u64.wrap (a0)) 65536)) = 0 then (halterlaw22_CredLaws.j0 k (wrap64 (Int.tmod (IntKind.u64.wrap (a0)) 65536)) (wrap64 (Int.tmod (IntKind.u64.wrap (a1)) 65536)) false) else ((cred_May.f (wrap64 (Int.tmod (IntKind.u64.wrap (a0)) 65536)) 0).bind fun t129 => (halterlaw22_CredLaws.j0 k (wrap64 (Int.tmod (IntKind.u64.wrap (a0)) 65536)) (wrap64 (Int.tmod (IntKind.u64.wrap (a1)) 65536)) t129))) else (halterlaw22_CredLaws.j0 k (wrap64 (Int.tmod (IntKind.u64.wrap (a0)) 65536)) (wrap64 (Int.tmod (IntKind.u64.wrap (a1)) 65536)) true))) else (halterlaw22_CredLaws.j0 k (wrap64 (Int.tmod (IntKind.u64.wrap (a0)) 65536)) (wrap64 (Int.tmod (IntKind.u64.wrap (a1)) 65536)) true))))) = some r := h
  clear h
  have HC4 := Aside0.mk H
  clear H
  go_enter Tryd.func4, Tryd.ntmps4
  go_upto_region 2 with (fail)
  go_cut [56] (fun v56 wc => ∃ (kq : Nat) (x56_3 : Bool), v56 = .bool x56_3 ∧ Aside0 (halterlaw22_CredLaws.j0 kq (wrap64 (Int.tmod (IntKind.u64.wrap (a0)) 65536)) (wrap64 (Int.tmod (IntKind.u64.wrap (a1)) 65536)) x56_3 = some r) ∧ Aside0 (kq ≤ k) ∧ Aside0 (Below w.heap.size w wc))
  case first =>
    have H := HC4.out
    clear HC4
    replace H := Option.bind_eq_some_iff.mp H
    obtain ⟨t118, A50, H⟩ := H
    replace H : (if t118 = true then ((cred_May.f (wrap64 (Int.tmod (IntKind.u64.wrap (a1)) 65536)) (wrap64 (Int.tmod (IntKind.u64.wrap (a2)) 65536))).bind fun t119 => (if t119 = true then ((cred_May.f (wrap64 (Int.tmod (IntKind.u64.wrap (a0)) 65536)) (wrap64 (Int.tmod (IntKind.u64.wrap (a2)) 65536))).bind fun t120 => (if t120 = true then ((cred_May.f (wrap64 (Int.tmod (IntKind.u64.wrap (a0)) 65536)) (wrap64 (Int.tmod (IntKind.u64.wrap (a0)) 65536))).bind fun t121 => (if t121 = true then ((cred_May.f 0 (wrap64 (Int.tmod (IntKind.u64.wrap (a0)) 65536))).bind fun t122 => (if t122 = true then (if (wrap64 (Int.tmod (IntKind.u64.wrap (a0)) 65536)) = 0 then (halterlaw22_CredLaws.j0 k (wrap64 (Int.tmod (IntKind.u64.wrap (a0)) 65536)) (wrap64 (Int.tmod (IntKind.u64.wrap (a1)) 65536)) false) else ((cred_May.f (wrap64 (Int.tmod (IntKind.u64.wrap (a0)) 65536)) 0).bind fun t123 => (halterlaw22_CredLaws.j0 k (wrap64 (Int.tmod (IntKind.u64.wrap (a0)) 65536)) (wrap64 (Int.tmod (IntKind.u64.wrap (a1)) 65536)) t123))) else (halterlaw22_CredLaws.j0 k (wrap64 (Int.tmod (IntKind.u64.wrap (a0)) 65536)) (wrap64 (Int.tmod (IntKind.u64.wrap (a1)) 65536)) true))) else (halterlaw22_CredLaws.j0 k (wrap64 (Int.tmod (IntKind.u64.wrap (a0)) 65536)) (wrap64 (Int.tmod (IntKind.u64.wrap (a1)) 65536)) true))) else (halterlaw22_CredLaws.j0 k (wrap64 (Int.tmod (IntKind.u64.wrap (a0)) 65536)) (wrap64 (Int.tmod (IntKind.u64.wrap (a1)) 65536)) true))) else ((cred_May.f (wrap64 (Int.tmod (IntKind.u64.wrap (a0)) 65536)) (wrap64 (Int.tmod (IntKind.u64.wrap (a0)) 65536))).bind fun t124 => (if t124 = true then ((cred_May.f 0 (wrap64 (Int.tmod (IntKind.u64.wrap (a0)) 65536))).bind fun t125 => (if t125 = true then (if (wrap64 (Int.tmod (IntKind.u64.wrap (a0)) 65536)) = 0 then (halterlaw22_CredLaws.j0 k (wrap64 (Int.tmod (IntKind.u64.wrap (a0)) 65536)) (wrap64 (Int.tmod (IntKind.u64.wrap (a1)) 65536)) false) else ((cred_May.f (wrap64 (Int.tmod (IntKind.u64.wrap (a0)) 65536)) 0).bind fun t126 => (halterlaw22_CredLaws.j0 k (wrap64 (Int.tmod (IntKind.u64.wrap (a0)) 65536)) (wrap64 (Int.tmod (IntKind.u64.wrap (a1)) 65536)) t126))) else (halterlaw22_CredLaws.j0 k (wrap64 (Int.tmod (IntKind.u64.wrap (a0)) 65536)) (wrap64 (Int.tmod (IntKind.u64.wrap (a1)) 65536)) true))) else (halterlaw22_CredLaws.j0 k (wrap64 (Int.tmod (IntKind.u64.wrap (a0)) 65536)) (wrap64 (Int.tmod (IntKind.u64.wrap (a1)) 65536)) true))))) else ((cred_May.f (wrap64 (Int.tmod (IntKind.u64.wrap (a0)) 65536)) (wrap64 (Int.tmod (IntKind.u64.wrap (a0)) 65536))).bind fun t127 => (if t127 = true then ((cred_May.f 0 (wrap64 (Int.tmod (IntKind.u64.wrap (a0)) 65536))).bind fun t128 => (if t128 = true then (if (wrap64 (Int.tmod (IntKind.u64.wrap (a0)) 65536)) = 0 then (halterlaw22_CredLaws.j0 k (wrap64 (Int.tmod (IntKind.u64.wrap (a0)) 65536)) (wrap64 (Int.tmod (IntKind.u64.wrap (a1)) 65536)) false) else ((cred_May.f (wrap64 (Int.tmod (IntKind.u64.wrap (a0)) 65536)) 0).bind fun t129 => (halterlaw22_CredLaws.j0 k (wrap64 (Int.tmod (IntKind.u64.wrap (a0)) 65536)) (wrap64 (Int.tmod (IntKind.u64.wrap (a1)) 65536)) t129))) else (halterlaw22_CredLaws.j0 k (wrap64 (Int.tmod (IntKind.u64.wrap (a0)) 65536)) (wrap64 (Int.tmod (IntKind.u64.wrap (a1)) 65536)) true))) else (halterlaw22_CredLaws.j0 k (wrap64 (Int.tmod (IntKind.u64.wrap (a0)) 65536)) (wrap64 (Int.tmod (IntKind.u64.wrap (a1)) 65536)) true)))) = some r := H
    have A5 := Aside0.mk A50
    clear A50
    by_cases c6 : t118 = true
    · subst c6
      have H1 : ((cred_May.f (wrap64 (Int.tmod (IntKind.u64.wrap (a1)) 65536)) (wrap64 (Int.tmod (IntKind.u64.wrap (a2)) 65536))).bind fun t119 => (if t119 = true then ((cred_May.f (wrap64 (Int.tmod (IntKind.u64.wrap (a0)) 65536)) (wrap64 (Int.tmod (IntKind.u64.wrap (a2)) 65536))).bind fun t120 => (if t120 = true then ((cred_May.f (wrap64 (Int.tmod (IntKind.u64.wrap (a0)) 65536)) (wrap64 (Int.tmod (IntKind.u64.wrap (a0)) 65536))).bind fun t121 => (if t121 = true then ((cred_May.f 0 (wrap64 (Int.tmod (IntKind.u64.wrap (a0)) 65536))).bind fun t122 => (if t122 = true then (if (wrap64 (Int.tmod (IntKind.u64.wrap (a0)) 65536)) = 0 then (halterlaw22_CredLaws.j0 k (wrap64 (Int.tmod (IntKind.u64.wrap (a0)) 65536)) (wrap64 (Int.tmod (IntKind.u64.wrap (a1)) 65536)) false) else ((cred_May.f (wrap64 (Int.tmod (IntKind.u64.wrap (a0)) 65536)) 0).bind fun t123 => (halterlaw22_CredLaws.j0 k (wrap64 (Int.tmod (IntKind.u64.wrap (a0)) 65536)) (wrap64 (Int.tmod (IntKind.u64.wrap (a1)) 65536)) t123))) else (halterlaw22_CredLaws.j0 k (wrap64 (Int.tmod (IntKind.u64.wrap (a0)) 65536)) (wrap64 (Int.tmod (IntKind.u64.wrap (a1)) 65536)) true))) else (halterlaw22_CredLaws.j0 k (wrap64 (Int.tmod (IntKind.u64.wrap (a0)) 65536)) (wrap64 (Int.tmod (IntKind.u64.wrap (a1)) 65536)) true))) else (halterlaw22_CredLaws.j0 k (wrap64 (Int.tmod (IntKind.u64.wrap (a0)) 65536)) (wrap64 (Int.tmod (IntKind.u64.wrap (a1)) 65536)) true))) else ((cred_May.f (wrap64 (Int.tmod (IntKind.u64.wrap (a0)) 65536)) (wrap64 (Int.tmod (IntKind.u64.wrap (a0)) 65536))).bind fun t124 => (if t124 = true then ((cred_May.f 0 (wrap64 (Int.tmod (IntKind.u64.wrap (a0)) 65536))).bind fun t125 => (if t125 = true then (if (wrap64 (Int.tmod (IntKind.u64.wrap (a0)) 65536)) = 0 then (halterlaw22_CredLaws.j0 k (wrap64 (Int.tmod (IntKind.u64.wrap (a0)) 65536)) (wrap64 (Int.tmod (IntKind.u64.wrap (a1)) 65536)) false) else ((cred_May.f (wrap64 (Int.tmod (IntKind.u64.wrap (a0)) 65536)) 0).bind fun t126 => (halterlaw22_CredLaws.j0 k (wrap64 (Int.tmod (IntKind.u64.wrap (a0)) 65536)) (wrap64 (Int.tmod (IntKind.u64.wrap (a1)) 65536)) t126))) else (halterlaw22_CredLaws.j0 k (wrap64 (Int.tmod (IntKind.u64.wrap (a0)) 65536)) (wrap64 (Int.tmod (IntKind.u64.wrap (a1)) 65536)) true))) else (halterlaw22_CredLaws.j0 k (wrap64 (Int.tmod (IntKind.u64.wrap (a0)) 65536)) (wrap64 (Int.tmod (IntKind.u64.wrap (a1)) 65536)) true))))) = some r := by rw [if_pos rfl] at H; exact H
      clear H
      have H := H1
      clear H1
      replace H := Option.bind_eq_some_iff.mp H
      obtain ⟨t119, A70, H⟩ := H
      replace H : (if t119 = true then ((cred_May.f (wrap64 (Int.tmod (IntKind.u64.wrap (a0)) 65536)) (wrap64 (Int.tmod (IntKind.u64.wrap (a2)) 65536))).bind fun t120 => (if t120 = true then ((cred_May.f (wrap64 (Int.tmod (IntKind.u64.wrap (a0)) 65536)) (wrap64 (Int.tmod (IntKind.u64.wrap (a0)) 65536))).bind fun t121 => (if t121 = true then ((cred_May.f 0 (wrap64 (Int.tmod (IntKind.u64.wrap (a0)) 65536))).bind fun t122 => (if t122 = true then (if (wrap64 (Int.tmod (IntKind.u64.wrap (a0)) 65536)) = 0 then (halterlaw22_CredLaws.j0 k (wrap64 (Int.tmod (IntKind.u64.wrap (a0)) 65536)) (wrap64 (Int.tmod (IntKind.u64.wrap (a1)) 65536)) false) else ((cred_May.f (wrap64 (Int.tmod (IntKind.u64.wrap (a0)) 65536)) 0).bind fun t123 => (halterlaw22_CredLaws.j0 k (wrap64 (Int.tmod (IntKind.u64.wrap (a0)) 65536)) (wrap64 (Int.tmod (IntKind.u64.wrap (a1)) 65536)) t123))) else (halterlaw22_CredLaws.j0 k (wrap64 (Int.tmod (IntKind.u64.wrap (a0)) 65536)) (wrap64 (Int.tmod (IntKind.u64.wrap (a1)) 65536)) true))) else (halterlaw22_CredLaws.j0 k (wrap64 (Int.tmod (IntKind.u64.wrap (a0)) 65536)) (wrap64 (Int.tmod (IntKind.u64.wrap (a1)) 65536)) true))) else (halterlaw22_CredLaws.j0 k (wrap64 (Int.tmod (IntKind.u64.wrap (a0)) 65536)) (wrap64 (Int.tmod (IntKind.u64.wrap (a1)) 65536)) true))) else ((cred_May.f (wrap64 (Int.tmod (IntKind.u64.wrap (a0)) 65536)) (wrap64 (Int.tmod (IntKind.u64.wrap (a0)) 65536))).bind fun t124 => (if t124 = true then ((cred_May.f 0 (wrap64 (Int.tmod (IntKind.u64.wrap (a0)) 65536))).bind fun t125 => (if t125 = true then (if (wrap64 (Int.tmod (IntKind.u64.wrap (a0)) 65536)) = 0 then (halterlaw22_CredLaws.j0 k (wrap64 (Int.tmod (IntKind.u64.wrap (a0)) 65536)) (wrap64 (Int.tmod (IntKind.u64.wrap (a1)) 65536)) false) else ((cred_May.f (wrap64 (Int.tmod (IntKind.u64.wrap (a0)) 65536)) 0).bind fun t126 => (halterlaw22_CredLaws.j0 k (wrap64 (Int.tmod (IntKind.u64.wrap (a0)) 65536)) (wrap64 (Int.tmod (IntKind.u64.wrap (a1)) 65536)) t126))) else (halterlaw22_CredLaws.j0 k (wrap64 (Int.tmod (IntKind.u64.wrap (a0)) 65536)) (wrap64 (Int.tmod (IntKind.u64.wrap (a1)) 65536)) true))) else (halterlaw22_CredLaws.j0 k (wrap64 (Int.tmod (IntKind.u64.wrap (a0)) 65536)) (wrap64 (Int.tmod (IntKind.u64.wrap (a1)) 65536)) true)))) = some r := H
      have A7 := Aside0.mk A70
      clear A70
      by_cases c8 : t119 = true
      · subst c8
        have H1 : ((cred_May.f (wrap64 (Int.tmod (IntKind.u64.wrap (a0)) 65536)) (wrap64 (Int.tmod (IntKind.u64.wrap (a2)) 65536))).bind fun t120 => (if t120 = true then ((cred_May.f (wrap64 (Int.tmod (IntKind.u64.wrap (a0)) 65536)) (wrap64 (Int.tmod (IntKind.u64.wrap (a0)) 65536))).bind fun t121 => (if t121 = true then ((cred_May.f 0 (wrap64 (Int.tmod (IntKind.u64.wrap (a0)) 65536))).bind fun t122 => (if t122 = true then (if (wrap64 (Int.tmod (IntKind.u64.wrap (a0)) 65536)) = 0 then (halterlaw22_CredLaws.j0 k (wrap64 (Int.tmod (IntKind.u64.wrap (a0)) 65536)) (wrap64 (Int.tmod (IntKind.u64.wrap (a1)) 65536)) false) else ((cred_May.f (wrap64 (Int.tmod (IntKind.u64.wrap (a0)) 65536)) 0).bind fun t123 => (halterlaw22_CredLaws.j0 k (wrap64 (Int.tmod (IntKind.u64.wrap (a0)) 65536)) (wrap64 (Int.tmod (IntKind.u64.wrap (a1)) 65536)) t123))) else (halterlaw22_CredLaws.j0 k (wrap64 (Int.tmod (IntKind.u64.wrap (a0)) 65536)) (wrap64 (Int.tmod (IntKind.u64.wrap (a1)) 65536)) true))) else (halterlaw22_CredLaws.j0 k (wrap64 (Int.tmod (IntKind.u64.wrap (a0)) 65536)) (wrap64 (Int.tmod (IntKind.u64.wrap (a1)) 65536)) true))) else (halterlaw22_CredLaws.j0 k (wrap64 (Int.tmod (IntKind.u64.wrap (a0)) 65536)) (wrap64 (Int.tmod (IntKind.u64.wrap (a1)) 65536)) true))) = some r := by rw [if_pos rfl] at H; exact H
        clear H
        have H := H1
        clear H1
        replace H := Option.bind_eq_some_iff.mp H
        obtain ⟨t120, A90, H⟩ := H
        replace H : (if t120 = true then ((cred_May.f (wrap64 (Int.tmod (IntKind.u64.wrap (a0)) 65536)) (wrap64 (Int.tmod (IntKind.u64.wrap (a0)) 65536))).bind fun t121 => (if t121 = true then ((cred_May.f 0 (wrap64 (Int.tmod (IntKind.u64.wrap (a0)) 65536))).bind fun t122 => (if t122 = true then (if (wrap64 (Int.tmod (IntKind.u64.wrap (a0)) 65536)) = 0 then (halterlaw22_CredLaws.j0 k (wrap64 (Int.tmod (IntKind.u64.wrap (a0)) 65536)) (wrap64 (Int.tmod (IntKind.u64.wrap (a1)) 65536)) false) else ((cred_May.f (wrap64 (Int.tmod (IntKind.u64.wrap (a0)) 65536)) 0).bind fun t123 => (halterlaw22_CredLaws.j0 k (wrap64 (Int.tmod (IntKind.u64.wrap (a0)) 65536)) (wrap64 (Int.tmod (IntKind.u64.wrap (a1)) 65536)) t123))) else (halterlaw22_CredLaws.j0 k (wrap64 (Int.tmod (IntKind.u64.wrap (a0)) 65536)) (wrap64 (Int.tmod (IntKind.u64.wrap (a1)) 65536)) true))) else (halterlaw22_CredLaws.j0 k (wrap64 (Int.tmod (IntKind.u64.wrap (a0)) 65536)) (wrap64 (Int.tmod (IntKind.u64.wrap (a1)) 65536)) true))) else (halterlaw22_CredLaws.j0 k (wrap64 (Int.tmod (IntKind.u64.wrap (a0)) 65536)) (wrap64 (Int.tmod (IntKind.u64.wrap (a1)) 65536)) true)) = some r := H
        have A9 := Aside0.mk A90
        clear A90
        by_cases c10 : t120 = true
        · subst c10
          have H1 : ((cred_May.f (wrap64 (Int.tmod (IntKind.u64.wrap (a0)) 65536)) (wrap64 (Int.tmod (IntKind.u64.wrap (a0)) 65536))).bind fun t121 => (if t121 = true then ((cred_May.f 0 (wrap64 (Int.tmod (IntKind.u64.wrap (a0)) 65536))).bind fun t122 => (if t122 = true then (if (wrap64 (Int.tmod (IntKind.u64.wrap (a0)) 65536)) = 0 then (halterlaw22_CredLaws.j0 k (wrap64 (Int.tmod (IntKind.u64.wrap (a0)) 65536)) (wrap64 (Int.tmod (IntKind.u64.wrap (a1)) 65536)) false) else ((cred_May.f (wrap64 (Int.tmod (IntKind.u64.wrap (a0)) 65536)) 0).bind fun t123 => (halterlaw22_CredLaws.j0 k (wrap64 (Int.tmod (IntKind.u64.wrap (a0)) 65536)) (wrap64 (Int.tmod (IntKind.u64.wrap (a1)) 65536)) t123))) else (halterlaw22_CredLaws.j0 k (wrap64 (Int.tmod (IntKind.u64.wrap (a0)) 65536)) (wrap64 (Int.tmod (IntKind.u64.wrap (a1)) 65536)) true))) else (halterlaw22_CredLaws.j0 k (wrap64 (Int.tmod (IntKind.u64.wrap (a0)) 65536)) (wrap64 (Int.tmod (IntKind.u64.wrap (a1)) 65536)) true))) = some r := by rw [if_pos rfl] at H; exact H
          clear H
          have H := H1
          clear H1
          replace H := Option.bind_eq_some_iff.mp H
          obtain ⟨t121, A110, H⟩ := H
          replace H : (if t121 = true then ((cred_May.f 0 (wrap64 (Int.tmod (IntKind.u64.wrap (a0)) 65536))).bind fun t122 => (if t122 = true then (if (wrap64 (Int.tmod (IntKind.u64.wrap (a0)) 65536)) = 0 then (halterlaw22_CredLaws.j0 k (wrap64 (Int.tmod (IntKind.u64.wrap (a0)) 65536)) (wrap64 (Int.tmod (IntKind.u64.wrap (a1)) 65536)) false) else ((cred_May.f (wrap64 (Int.tmod (IntKind.u64.wrap (a0)) 65536)) 0).bind fun t123 => (halterlaw22_CredLaws.j0 k (wrap64 (Int.tmod (IntKind.u64.wrap (a0)) 65536)) (wrap64 (Int.tmod (IntKind.u64.wrap (a1)) 65536)) t123))) else (halterlaw22_CredLaws.j0 k (wrap64 (Int.tmod (IntKind.u64.wrap (a0)) 65536)) (wrap64 (Int.tmod (IntKind.u64.wrap (a1)) 65536)) true))) else (halterlaw22_CredLaws.j0 k (wrap64 (Int.tmod (IntKind.u64.wrap (a0)) 65536)) (wrap64 (Int.tmod (IntKind.u64.wrap (a1)) 65536)) true)) = some r := H
          have A11 := Aside0.mk A110
          clear A110
          by_cases c12 : t121 = true
          · subst c12
            have H1 : ((cred_May.f 0 (wrap64 (Int.tmod (IntKind.u64.wrap (a0)) 65536))).bind fun t122 => (if t122 = true then (if (wrap64 (Int.tmod (IntKind.u64.wrap (a0)) 65536)) = 0 then (halterlaw22_CredLaws.j0 k (wrap64 (Int.tmod (IntKind.u64.wrap (a0)) 65536)) (wrap64 (Int.tmod (IntKind.u64.wrap (a1)) 65536)) false) else ((cred_May.f (wrap64 (Int.tmod (IntKind.u64.wrap (a0)) 65536)) 0).bind fun t123 => (halterlaw22_CredLaws.j0 k (wrap64 (Int.tmod (IntKind.u64.wrap (a0)) 65536)) (wrap64 (Int.tmod (IntKind.u64.wrap (a1)) 65536)) t123))) else (halterlaw22_CredLaws.j0 k (wrap64 (Int.tmod (IntKind.u64.wrap (a0)) 65536)) (wrap64 (Int.tmod (IntKind.u64.wrap (a1)) 65536)) true))) = some r := by rw [if_pos rfl] at H; exact H
            clear H
            have H := H1
            clear H1
            replace H := Option.bind_eq_some_iff.mp H
            obtain ⟨t122, A130, H⟩ := H
            replace H : (if t122 = true then (if (wrap64 (Int.tmod (IntKind.u64.wrap (a0)) 65536)) = 0 then (halterlaw22_CredLaws.j0 k (wrap64 (Int.tmod (IntKind.u64.wrap (a0)) 65536)) (wrap64 (Int.tmod (IntKind.u64.wrap (a1)) 65536)) false) else ((cred_May.f (wrap64 (Int.tmod (IntKind.u64.wrap (a0)) 65536)) 0).bind fun t123 => (halterlaw22_CredLaws.j0 k (wrap64 (Int.tmod (IntKind.u64.wrap (a0)) 65536)) (wrap64 (Int.tmod (IntKind.u64.wrap (a1)) 65536)) t123))) else (halterlaw22_CredLaws.j0 k (wrap64 (Int.tmod (IntKind.u64.wrap (a0)) 65536)) (wrap64 (Int.tmod (IntKind.u64.wrap (a1)) 65536)) true)) = some r := H
            have A13 := Aside0.mk A130
            clear A130
            by_cases c14 : t122 = true
            · subst c14
              have H1 : (if (wrap64 (Int.tmod (IntKind.u64.wrap (a0)) 65536)) = 0 then (halterlaw22_CredLaws.j0 k (wrap64 (Int.tmod (IntKind.u64.wrap (a0)) 65536)) (wrap64 (Int.tmod (IntKind.u64.wrap (a1)) 65536)) false) else ((cred_May.f (wrap64 (Int.tmod (IntKind.u64.wrap (a0)) 65536)) 0).bind fun t123 => (halterlaw22_CredLaws.j0 k (wrap64 (Int.tmod (IntKind.u64.wrap (a0)) 65536)) (wrap64 (Int.tmod (IntKind.u64.wrap (a1)) 65536)) t123))) = some r := by rw [if_pos rfl] at H; exact H
              clear H
              have H := H1
              clear H1
              by_cases c15 : (wrap64 (Int.tmod (IntKind.u64.wrap (a0)) 65536)) = 0
              · rw [if_pos c15] at H
                have c15b0 : ((wrap64 (Int.tmod (IntKind.u64.wrap (a0)) 65536)) == 0) = true := beq_iff_eq.mpr c15
                have c15b1 : ((wrap64 (Int.tmod (IntKind.u64.wrap (a0)) 65536)) != 0) = false := bne_eq_false_iff_eq.mpr c15
                clear c15
                (first | rw [c15b0] | (simp only [i64_w, i32_w]; rw [c15b0]) | skip)
                have H' := Aside0.mk H
                clear H
                go_wp2_with (first | ((with_reducible refine gate_callee (f := 9) rfl ?_); refine goesL_ (some 26) rfl rfl Tryd.func9 (by kernel_rfl) rfl #[.int .i64 (wrap64 (Int.tmod (IntKind.u64.wrap (a0)) 65536)), .int .i64 (wrap64 (Int.tmod (IntKind.u64.wrap (a1)) 65536))] rfl (by (try simp only [List.map_toArray, List.map_cons, List.map_nil]); first | done | rfl | (simp only [List.length_drop, List.length_take]; rfl)) ?_; (with_reducible refine (cred_May.calls (wrap64 (Int.tmod (IntKind.u64.wrap (a0)) 65536)) (wrap64 (Int.tmod (IntKind.u64.wrap (a1)) 65536)) true _ A5.out).mono ?_); rintro e w' ⟨rfl, ⟨nd, rfl⟩⟩; refine ⟨_, rfl, ?_⟩) | (go_at_call 9; (with_reducible refine (cred_May.calls (wrap64 (Int.tmod (IntKind.u64.wrap (a1)) 65536)) (wrap64 (Int.tmod (IntKind.u64.wrap (a2)) 65536)) true _ A7.out).mono ?_); rintro e w' ⟨rfl, ⟨nd, rfl⟩⟩) | (go_at_call 9; (with_reducible refine (cred_May.calls (wrap64 (Int.tmod (IntKind.u64.wrap (a0)) 65536)) (wrap64 (Int.tmod (IntKind.u64.wrap (a2)) 65536)) true _ A9.out).mono ?_); rintro e w' ⟨rfl, ⟨nd, rfl⟩⟩) | (go_at_call 9; (with_reducible refine (cred_May.calls (wrap64 (Int.tmod (IntKind.u64.wrap (a0)) 65536)) (wrap64 (Int.tmod (IntKind.u64.wrap (a0)) 65536)) true _ A11.out).mono ?_); rintro e w' ⟨rfl, ⟨nd, rfl⟩⟩) | (go_at_call 9; (with_reducible refine (cred_May.calls 0 (wrap64 (Int.tmod (IntKind.u64.wrap (a0)) 65536)) true _ A13.out).mono ?_); rintro e w' ⟨rfl, ⟨nd, rfl⟩⟩))
                go_meet
                case rel => exact ⟨_, (false), (by first | rfl | (simp; done) | (simp [*]; done)), H', ⟨by first | omega | exact Nat.le_refl _⟩, ⟨by repeat (first | (with_reducible first | exact HB.out | apply below_alloc | apply pw_below_drewN | apply below_drew1) | exact HB.out | (with_reducible exact Below.refl _ _))⟩⟩
              · rw [if_neg c15] at H
                have c15b0 : ((wrap64 (Int.tmod (IntKind.u64.wrap (a0)) 65536)) == 0) = false := beq_eq_false_iff_ne.mpr c15
                have c15b1 : ((wrap64 (Int.tmod (IntKind.u64.wrap (a0)) 65536)) != 0) = true := bne_iff_ne.mpr c15
                (first | rw [c15b0] | (simp only [i64_w, i32_w]; rw [c15b0]) | skip)
                replace H := Option.bind_eq_some_iff.mp H
                obtain ⟨t123, A160, H⟩ := H
                replace H : (halterlaw22_CredLaws.j0 k (wrap64 (Int.tmod (IntKind.u64.wrap (a0)) 65536)) (wrap64 (Int.tmod (IntKind.u64.wrap (a1)) 65536)) t123) = some r := H
                have A16 := Aside0.mk A160
                clear A160
                have H' := Aside0.mk H
                clear H
                go_wp2_with (first | ((with_reducible refine gate_callee (f := 9) rfl ?_); refine goesL_ (some 26) rfl rfl Tryd.func9 (by kernel_rfl) rfl #[.int .i64 (wrap64 (Int.tmod (IntKind.u64.wrap (a0)) 65536)), .int .i64 (wrap64 (Int.tmod (IntKind.u64.wrap (a1)) 65536))] rfl (by (try simp only [List.map_toArray, List.map_cons, List.map_nil]); first | done | rfl | (simp only [List.length_drop, List.length_take]; rfl)) ?_; (with_reducible refine (cred_May.calls (wrap64 (Int.tmod (IntKind.u64.wrap (a0)) 65536)) (wrap64 (Int.tmod (IntKind.u64.wrap (a1)) 65536)) true _ A5.out).mono ?_); rintro e w' ⟨rfl, ⟨nd, rfl⟩⟩; refine ⟨_, rfl, ?_⟩) | (go_at_call 9; (with_reducible refine (cred_May.calls (wrap64 (Int.tmod (IntKind.u64.wrap (a1)) 65536)) (wrap64 (Int.tmod (IntKind.u64.wrap (a2)) 65536)) true _ A7.out).mono ?_); rintro e w' ⟨rfl, ⟨nd, rfl⟩⟩) | (go_at_call 9; (with_reducible refine (cred_May.calls (wrap64 (Int.tmod (IntKind.u64.wrap (a0)) 65536)) (wrap64 (Int.tmod (IntKind.u64.wrap (a2)) 65536)) true _ A9.out).mono ?_); rintro e w' ⟨rfl, ⟨nd, rfl⟩⟩) | (go_at_call 9; (with_reducible refine (cred_May.calls (wrap64 (Int.tmod (IntKind.u64.wrap (a0)) 65536)) (wrap64 (Int.tmod (IntKind.u64.wrap (a0)) 65536)) true _ A11.out).mono ?_); rintro e w' ⟨rfl, ⟨nd, rfl⟩⟩) | (go_at_call 9; (with_reducible refine (cred_May.calls 0 (wrap64 (Int.tmod (IntKind.u64.wrap (a0)) 65536)) true _ A13.out).mono ?_); rintro e w' ⟨rfl, ⟨nd, rfl⟩⟩) | (go_at_call 9; (with_reducible refine (cred_May.calls (wrap64 (Int.tmod (IntKind.u64.wrap (a0)) 65536)) 0 t123 _ A16.out).mono ?_); rintro e w' ⟨rfl, ⟨nd, rfl⟩⟩))
                go_meet
                case rel => exact ⟨_, (t123), (by first | rfl | (simp; done) | (simp [*]; done)), H', ⟨by first | omega | exact Nat.le_refl _⟩, ⟨by repeat (first | (with_reducible first | exact HB.out | apply below_alloc | apply pw_below_drewN | apply below_drew1) | exact HB.out | (with_reducible exact Below.refl _ _))⟩⟩
            · replace c14 := Bool.eq_false_iff.mpr c14
              subst c14
              have H1 : (halterlaw22_CredLaws.j0 k (wrap64 (Int.tmod (IntKind.u64.wrap (a0)) 65536)) (wrap64 (Int.tmod (IntKind.u64.wrap (a1)) 65536)) true) = some r := by rw [if_neg (show ¬ (false = true) by decide)] at H; exact H
              clear H
              have H := H1
              clear H1
              have H' := Aside0.mk H
              clear H
              go_wp2_with (first | ((with_reducible refine gate_callee (f := 9) rfl ?_); refine goesL_ (some 26) rfl rfl Tryd.func9 (by kernel_rfl) rfl #[.int .i64 (wrap64 (Int.tmod (IntKind.u64.wrap (a0)) 65536)), .int .i64 (wrap64 (Int.tmod (IntKind.u64.wrap (a1)) 65536))] rfl (by (try simp only [List.map_toArray, List.map_cons, List.map_nil]); first | done | rfl | (simp only [List.length_drop, List.length_take]; rfl)) ?_; (with_reducible refine (cred_May.calls (wrap64 (Int.tmod (IntKind.u64.wrap (a0)) 65536)) (wrap64 (Int.tmod (IntKind.u64.wrap (a1)) 65536)) true _ A5.out).mono ?_); rintro e w' ⟨rfl, ⟨nd, rfl⟩⟩; refine ⟨_, rfl, ?_⟩) | (go_at_call 9; (with_reducible refine (cred_May.calls (wrap64 (Int.tmod (IntKind.u64.wrap (a1)) 65536)) (wrap64 (Int.tmod (IntKind.u64.wrap (a2)) 65536)) true _ A7.out).mono ?_); rintro e w' ⟨rfl, ⟨nd, rfl⟩⟩) | (go_at_call 9; (with_reducible refine (cred_May.calls (wrap64 (Int.tmod (IntKind.u64.wrap (a0)) 65536)) (wrap64 (Int.tmod (IntKind.u64.wrap (a2)) 65536)) true _ A9.out).mono ?_); rintro e w' ⟨rfl, ⟨nd, rfl⟩⟩) | (go_at_call 9; (with_reducible refine (cred_May.calls (wrap64 (Int.tmod (IntKind.u64.wrap (a0)) 65536)) (wrap64 (Int.tmod (IntKind.u64.wrap (a0)) 65536)) true _ A11.out).mono ?_); rintro e w' ⟨rfl, ⟨nd, rfl⟩⟩) | (go_at_call 9; (with_reducible refine (cred_May.calls 0 (wrap64 (Int.tmod (IntKind.u64.wrap (a0)) 65536)) false _ A13.out).mono ?_); rintro e w' ⟨rfl, ⟨nd, rfl⟩⟩))
              go_meet
              case rel => exact ⟨_, (true), (by first | rfl | (simp; done) | (simp [*]; done)), H', ⟨by first | omega | exact Nat.le_refl _⟩, ⟨by repeat (first | (with_reducible first | exact HB.out | apply below_alloc | apply pw_below_drewN | apply below_drew1) | exact HB.out | (with_reducible exact Below.refl _ _))⟩⟩
          · replace c12 := Bool.eq_false_iff.mpr c12
            subst c12
            have H1 : (halterlaw22_CredLaws.j0 k (wrap64 (Int.tmod (IntKind.u64.wrap (a0)) 65536)) (wrap64 (Int.tmod (IntKind.u64.wrap (a1)) 65536)) true) = some r := by rw [if_neg (show ¬ (false = true) by decide)] at H; exact H
            clear H
            have H := H1
            clear H1
            have H' := Aside0.mk H
            clear H
            go_wp2_with (first | ((with_reducible refine gate_callee (f := 9) rfl ?_); refine goesL_ (some 26) rfl rfl Tryd.func9 (by kernel_rfl) rfl #[.int .i64 (wrap64 (Int.tmod (IntKind.u64.wrap (a0)) 65536)), .int .i64 (wrap64 (Int.tmod (IntKind.u64.wrap (a1)) 65536))] rfl (by (try simp only [List.map_toArray, List.map_cons, List.map_nil]); first | done | rfl | (simp only [List.length_drop, List.length_take]; rfl)) ?_; (with_reducible refine (cred_May.calls (wrap64 (Int.tmod (IntKind.u64.wrap (a0)) 65536)) (wrap64 (Int.tmod (IntKind.u64.wrap (a1)) 65536)) true _ A5.out).mono ?_); rintro e w' ⟨rfl, ⟨nd, rfl⟩⟩; refine ⟨_, rfl, ?_⟩) | (go_at_call 9; (with_reducible refine (cred_May.calls (wrap64 (Int.tmod (IntKind.u64.wrap (a1)) 65536)) (wrap64 (Int.tmod (IntKind.u64.wrap (a2)) 65536)) true _ A7.out).mono ?_); rintro e w' ⟨rfl, ⟨nd, rfl⟩⟩) | (go_at_call 9; (with_reducible refine (cred_May.calls (wrap64 (Int.tmod (IntKind.u64.wrap (a0)) 65536)) (wrap64 (Int.tmod (IntKind.u64.wrap (a2)) 65536)) true _ A9.out).mono ?_); rintro e w' ⟨rfl, ⟨nd, rfl⟩⟩) | (go_at_call 9; (with_reducible refine (cred_May.calls (wrap64 (Int.tmod (IntKind.u64.wrap (a0)) 65536)) (wrap64 (Int.tmod (IntKind.u64.wrap (a0)) 65536)) false _ A11.out).mono ?_); rintro e w' ⟨rfl, ⟨nd, rfl⟩⟩))
            go_meet
            case rel => exact ⟨_, (true), (by first | rfl | (simp; done) | (simp [*]; done)), H', ⟨by first | omega | exact Nat.le_refl _⟩, ⟨by repeat (first | (with_reducible first | exact HB.out | apply below_alloc | apply pw_below_drewN | apply below_drew1) | exact HB.out | (with_reducible exact Below.refl _ _))⟩⟩
        · replace c10 := Bool.eq_false_iff.mpr c10
          subst c10
          have H1 : (halterlaw22_CredLaws.j0 k (wrap64 (Int.tmod (IntKind.u64.wrap (a0)) 65536)) (wrap64 (Int.tmod (IntKind.u64.wrap (a1)) 65536)) true) = some r := by rw [if_neg (show ¬ (false = true) by decide)] at H; exact H
          clear H
          have H := H1
          clear H1
          have H' := Aside0.mk H
          clear H
          go_wp2_with (first | ((with_reducible refine gate_callee (f := 9) rfl ?_); refine goesL_ (some 26) rfl rfl Tryd.func9 (by kernel_rfl) rfl #[.int .i64 (wrap64 (Int.tmod (IntKind.u64.wrap (a0)) 65536)), .int .i64 (wrap64 (Int.tmod (IntKind.u64.wrap (a1)) 65536))] rfl (by (try simp only [List.map_toArray, List.map_cons, List.map_nil]); first | done | rfl | (simp only [List.length_drop, List.length_take]; rfl)) ?_; (with_reducible refine (cred_May.calls (wrap64 (Int.tmod (IntKind.u64.wrap (a0)) 65536)) (wrap64 (Int.tmod (IntKind.u64.wrap (a1)) 65536)) true _ A5.out).mono ?_); rintro e w' ⟨rfl, ⟨nd, rfl⟩⟩; refine ⟨_, rfl, ?_⟩) | (go_at_call 9; (with_reducible refine (cred_May.calls (wrap64 (Int.tmod (IntKind.u64.wrap (a1)) 65536)) (wrap64 (Int.tmod (IntKind.u64.wrap (a2)) 65536)) true _ A7.out).mono ?_); rintro e w' ⟨rfl, ⟨nd, rfl⟩⟩) | (go_at_call 9; (with_reducible refine (cred_May.calls (wrap64 (Int.tmod (IntKind.u64.wrap (a0)) 65536)) (wrap64 (Int.tmod (IntKind.u64.wrap (a2)) 65536)) false _ A9.out).mono ?_); rintro e w' ⟨rfl, ⟨nd, rfl⟩⟩))
          go_meet
          case rel => exact ⟨_, (true), (by first | rfl | (simp; done) | (simp [*]; done)), H', ⟨by first | omega | exact Nat.le_refl _⟩, ⟨by repeat (first | (with_reducible first | exact HB.out | apply below_alloc | apply pw_below_drewN | apply below_drew1) | exact HB.out | (with_reducible exact Below.refl _ _))⟩⟩
      · replace c8 := Bool.eq_false_iff.mpr c8
        subst c8
        have H1 : ((cred_May.f (wrap64 (Int.tmod (IntKind.u64.wrap (a0)) 65536)) (wrap64 (Int.tmod (IntKind.u64.wrap (a0)) 65536))).bind fun t124 => (if t124 = true then ((cred_May.f 0 (wrap64 (Int.tmod (IntKind.u64.wrap (a0)) 65536))).bind fun t125 => (if t125 = true then (if (wrap64 (Int.tmod (IntKind.u64.wrap (a0)) 65536)) = 0 then (halterlaw22_CredLaws.j0 k (wrap64 (Int.tmod (IntKind.u64.wrap (a0)) 65536)) (wrap64 (Int.tmod (IntKind.u64.wrap (a1)) 65536)) false) else ((cred_May.f (wrap64 (Int.tmod (IntKind.u64.wrap (a0)) 65536)) 0).bind fun t126 => (halterlaw22_CredLaws.j0 k (wrap64 (Int.tmod (IntKind.u64.wrap (a0)) 65536)) (wrap64 (Int.tmod (IntKind.u64.wrap (a1)) 65536)) t126))) else (halterlaw22_CredLaws.j0 k (wrap64 (Int.tmod (IntKind.u64.wrap (a0)) 65536)) (wrap64 (Int.tmod (IntKind.u64.wrap (a1)) 65536)) true))) else (halterlaw22_CredLaws.j0 k (wrap64 (Int.tmod (IntKind.u64.wrap (a0)) 65536)) (wrap64 (Int.tmod (IntKind.u64.wrap (a1)) 65536)) true))) = some r := by rw [if_neg (show ¬ (false = true) by decide)] at H; exact H
        clear H
        have H := H1
        clear H1
        replace H := Option.bind_eq_some_iff.mp H
        obtain ⟨t124, A170, H⟩ := H
        replace H : (if t124 = true then ((cred_May.f 0 (wrap64 (Int.tmod (IntKind.u64.wrap (a0)) 65536))).bind fun t125 => (if t125 = true then (if (wrap64 (Int.tmod (IntKind.u64.wrap (a0)) 65536)) = 0 then (halterlaw22_CredLaws.j0 k (wrap64 (Int.tmod (IntKind.u64.wrap (a0)) 65536)) (wrap64 (Int.tmod (IntKind.u64.wrap (a1)) 65536)) false) else ((cred_May.f (wrap64 (Int.tmod (IntKind.u64.wrap (a0)) 65536)) 0).bind fun t126 => (halterlaw22_CredLaws.j0 k (wrap64 (Int.tmod (IntKind.u64.wrap (a0)) 65536)) (wrap64 (Int.tmod (IntKind.u64.wrap (a1)) 65536)) t126))) else (halterlaw22_CredLaws.j0 k (wrap64 (Int.tmod (IntKind.u64.wrap (a0)) 65536)) (wrap64 (Int.tmod (IntKind.u64.wrap (a1)) 65536)) true))) else (halterlaw22_CredLaws.j0 k (wrap64 (Int.tmod (IntKind.u64.wrap (a0)) 65536)) (wrap64 (Int.tmod (IntKind.u64.wrap (a1)) 65536)) true)) = some r := H
        have A17 := Aside0.mk A170
        clear A170
        by_cases c18 : t124 = true
        · subst c18
          have H1 : ((cred_May.f 0 (wrap64 (Int.tmod (IntKind.u64.wrap (a0)) 65536))).bind fun t125 => (if t125 = true then (if (wrap64 (Int.tmod (IntKind.u64.wrap (a0)) 65536)) = 0 then (halterlaw22_CredLaws.j0 k (wrap64 (Int.tmod (IntKind.u64.wrap (a0)) 65536)) (wrap64 (Int.tmod (IntKind.u64.wrap (a1)) 65536)) false) else ((cred_May.f (wrap64 (Int.tmod (IntKind.u64.wrap (a0)) 65536)) 0).bind fun t126 => (halterlaw22_CredLaws.j0 k (wrap64 (Int.tmod (IntKind.u64.wrap (a0)) 65536)) (wrap64 (Int.tmod (IntKind.u64.wrap (a1)) 65536)) t126))) else (halterlaw22_CredLaws.j0 k (wrap64 (Int.tmod (IntKind.u64.wrap (a0)) 65536)) (wrap64 (Int.tmod (IntKind.u64.wrap (a1)) 65536)) true))) = some r := by rw [if_pos rfl] at H; exact H
          clear H
          have H := H1
          clear H1
          replace H := Option.bind_eq_some_iff.mp H
          obtain ⟨t125, A190, H⟩ := H
          replace H : (if t125 = true then (if (wrap64 (Int.tmod (IntKind.u64.wrap (a0)) 65536)) = 0 then (halterlaw22_CredLaws.j0 k (wrap64 (Int.tmod (IntKind.u64.wrap (a0)) 65536)) (wrap64 (Int.tmod (IntKind.u64.wrap (a1)) 65536)) false) else ((cred_May.f (wrap64 (Int.tmod (IntKind.u64.wrap (a0)) 65536)) 0).bind fun t126 => (halterlaw22_CredLaws.j0 k (wrap64 (Int.tmod (IntKind.u64.wrap (a0)) 65536)) (wrap64 (Int.tmod (IntKind.u64.wrap (a1)) 65536)) t126))) else (halterlaw22_CredLaws.j0 k (wrap64 (Int.tmod (IntKind.u64.wrap (a0)) 65536)) (wrap64 (Int.tmod (IntKind.u64.wrap (a1)) 65536)) true)) = some r := H
          have A19 := Aside0.mk A190
          clear A190
          by_cases c20 : t125 = true
          · subst c20
            have H1 : (if (wrap64 (Int.tmod (IntKind.u64.wrap (a0)) 65536)) = 0 then (halterlaw22_CredLaws.j0 k (wrap64 (Int.tmod (IntKind.u64.wrap (a0)) 65536)) (wrap64 (Int.tmod (IntKind.u64.wrap (a1)) 65536)) false) else ((cred_May.f (wrap64 (Int.tmod (IntKind.u64.wrap (a0)) 65536)) 0).bind fun t126 => (halterlaw22_CredLaws.j0 k (wrap64 (Int.tmod (IntKind.u64.wrap (a0)) 65536)) (wrap64 (Int.tmod (IntKind.u64.wrap (a1)) 65536)) t126))) = some r := by rw [if_pos rfl] at H; exact H
            clear H
            have H := H1
            clear H1
            by_cases c21 : (wrap64 (Int.tmod (IntKind.u64.wrap (a0)) 65536)) = 0
            · rw [if_pos c21] at H
              have c21b0 : ((wrap64 (Int.tmod (IntKind.u64.wrap (a0)) 65536)) == 0) = true := beq_iff_eq.mpr c21
              have c21b1 : ((wrap64 (Int.tmod (IntKind.u64.wrap (a0)) 65536)) != 0) = false := bne_eq_false_iff_eq.mpr c21
              clear c21
              have H' := Aside0.mk H
              clear H
              go_wp2_with (first | ((with_reducible refine gate_callee (f := 9) rfl ?_); refine goesL_ (some 26) rfl rfl Tryd.func9 (by kernel_rfl) rfl #[.int .i64 (wrap64 (Int.tmod (IntKind.u64.wrap (a0)) 65536)), .int .i64 (wrap64 (Int.tmod (IntKind.u64.wrap (a1)) 65536))] rfl (by (try simp only [List.map_toArray, List.map_cons, List.map_nil]); first | done | rfl | (simp only [List.length_drop, List.length_take]; rfl)) ?_; (with_reducible refine (cred_May.calls (wrap64 (Int.tmod (IntKind.u64.wrap (a0)) 65536)) (wrap64 (Int.tmod (IntKind.u64.wrap (a1)) 65536)) true _ A5.out).mono ?_); rintro e w' ⟨rfl, ⟨nd, rfl⟩⟩; refine ⟨_, rfl, ?_⟩) | (go_at_call 9; (with_reducible refine (cred_May.calls (wrap64 (Int.tmod (IntKind.u64.wrap (a1)) 65536)) (wrap64 (Int.tmod (IntKind.u64.wrap (a2)) 65536)) false _ A7.out).mono ?_); rintro e w' ⟨rfl, ⟨nd, rfl⟩⟩) | (go_at_call 9; (with_reducible refine (cred_May.calls (wrap64 (Int.tmod (IntKind.u64.wrap (a0)) 65536)) (wrap64 (Int.tmod (IntKind.u64.wrap (a0)) 65536)) true _ A17.out).mono ?_); rintro e w' ⟨rfl, ⟨nd, rfl⟩⟩) | (go_at_call 9; (with_reducible refine (cred_May.calls 0 (wrap64 (Int.tmod (IntKind.u64.wrap (a0)) 65536)) true _ A19.out).mono ?_); rintro e w' ⟨rfl, ⟨nd, rfl⟩⟩))
              go_meet
              case rel => exact ⟨_, (false), (by first | rfl | (simp; done) | (simp [*]; done)), H', ⟨by first | omega | exact Nat.le_refl _⟩, ⟨by repeat (first | (with_reducible first | exact HB.out | apply below_alloc | apply pw_below_drewN | apply below_drew1) | exact HB.out | (with_reducible exact Below.refl _ _))⟩⟩
            · rw [if_neg c21] at H
              have c21b0 : ((wrap64 (Int.tmod (IntKind.u64.wrap (a0)) 65536)) == 0) = false := beq_eq_false_iff_ne.mpr c21
              have c21b1 : ((wrap64 (Int.tmod (IntKind.u64.wrap (a0)) 65536)) != 0) = true := bne_iff_ne.mpr c21
              replace H := Option.bind_eq_some_iff.mp H
              obtain ⟨t126, A220, H⟩ := H
              replace H : (halterlaw22_CredLaws.j0 k (wrap64 (Int.tmod (IntKind.u64.wrap (a0)) 65536)) (wrap64 (Int.tmod (IntKind.u64.wrap (a1)) 65536)) t126) = some r := H
              have A22 := Aside0.mk A220
              clear A220
              have H' := Aside0.mk H
              clear H
              go_wp2_with (first | ((with_reducible refine gate_callee (f := 9) rfl ?_); refine goesL_ (some 26) rfl rfl Tryd.func9 (by kernel_rfl) rfl #[.int .i64 (wrap64 (Int.tmod (IntKind.u64.wrap (a0)) 65536)), .int .i64 (wrap64 (Int.tmod (IntKind.u64.wrap (a1)) 65536))] rfl (by (try simp only [List.map_toArray, List.map_cons, List.map_nil]); first | done | rfl | (simp only [List.length_drop, List.length_take]; rfl)) ?_; (with_reducible refine (cred_May.calls (wrap64 (Int.tmod (IntKind.u64.wrap (a0)) 65536)) (wrap64 (Int.tmod (IntKind.u64.wrap (a1)) 65536)) true _ A5.out).mono ?_); rintro e w' ⟨rfl, ⟨nd, rfl⟩⟩; refine ⟨_, rfl, ?_⟩) | (go_at_call 9; (with_reducible refine (cred_May.calls (wrap64 (Int.tmod (IntKind.u64.wrap (a1)) 65536)) (wrap64 (Int.tmod (IntKind.u64.wrap (a2)) 65536)) false _ A7.out).mono ?_); rintro e w' ⟨rfl, ⟨nd, rfl⟩⟩) | (go_at_call 9; (with_reducible refine (cred_May.calls (wrap64 (Int.tmod (IntKind.u64.wrap (a0)) 65536)) (wrap64 (Int.tmod (IntKind.u64.wrap (a0)) 65536)) true _ A17.out).mono ?_); rintro e w' ⟨rfl, ⟨nd, rfl⟩⟩) | (go_at_call 9; (with_reducible refine (cred_May.calls 0 (wrap64 (Int.tmod (IntKind.u64.wrap (a0)) 65536)) true _ A19.out).mono ?_); rintro e w' ⟨rfl, ⟨nd, rfl⟩⟩) | (go_at_call 9; (with_reducible refine (cred_May.calls (wrap64 (Int.tmod (IntKind.u64.wrap (a0)) 65536)) 0 t126 _ A22.out).mono ?_); rintro e w' ⟨rfl, ⟨nd, rfl⟩⟩))
              go_meet
              case rel => exact ⟨_, (t126), (by first | rfl | (simp; done) | (simp [*]; done)), H', ⟨by first | omega | exact Nat.le_refl _⟩, ⟨by repeat (first | (with_reducible first | exact HB.out | apply below_alloc | apply pw_below_drewN | apply below_drew1) | exact HB.out | (with_reducible exact Below.refl _ _))⟩⟩
          · replace c20 := Bool.eq_false_iff.mpr c20
            subst c20
            have H1 : (halterlaw22_CredLaws.j0 k (wrap64 (Int.tmod (IntKind.u64.wrap (a0)) 65536)) (wrap64 (Int.tmod (IntKind.u64.wrap (a1)) 65536)) true) = some r := by rw [if_neg (show ¬ (false = true) by decide)] at H; exact H
            clear H
            have H := H1
            clear H1
            have H' := Aside0.mk H
            clear H
            go_wp2_with (first | ((with_reducible refine gate_callee (f := 9) rfl ?_); refine goesL_ (some 26) rfl rfl Tryd.func9 (by kernel_rfl) rfl #[.int .i64 (wrap64 (Int.tmod (IntKind.u64.wrap (a0)) 65536)), .int .i64 (wrap64 (Int.tmod (IntKind.u64.wrap (a1)) 65536))] rfl (by (try simp only [List.map_toArray, List.map_cons, List.map_nil]); first | done | rfl | (simp only [List.length_drop, List.length_take]; rfl)) ?_; (with_reducible refine (cred_May.calls (wrap64 (Int.tmod (IntKind.u64.wrap (a0)) 65536)) (wrap64 (Int.tmod (IntKind.u64.wrap (a1)) 65536)) true _ A5.out).mono ?_); rintro e w' ⟨rfl, ⟨nd, rfl⟩⟩; refine ⟨_, rfl, ?_⟩) | (go_at_call 9; (with_reducible refine (cred_May.calls (wrap64 (Int.tmod (IntKind.u64.wrap (a1)) 65536)) (wrap64 (Int.tmod (IntKind.u64.wrap (a2)) 65536)) false _ A7.out).mono ?_); rintro e w' ⟨rfl, ⟨nd, rfl⟩⟩) | (go_at_call 9; (with_reducible refine (cred_May.calls (wrap64 (Int.tmod (IntKind.u64.wrap (a0)) 65536)) (wrap64 (Int.tmod (IntKind.u64.wrap (a0)) 65536)) true _ A17.out).mono ?_); rintro e w' ⟨rfl, ⟨nd, rfl⟩⟩) | (go_at_call 9; (with_reducible refine (cred_May.calls 0 (wrap64 (Int.tmod (IntKind.u64.wrap (a0)) 65536)) false _ A19.out).mono ?_); rintro e w' ⟨rfl, ⟨nd, rfl⟩⟩))
            go_meet
            case rel => exact ⟨_, (true), (by first | rfl | (simp; done) | (simp [*]; done)), H', ⟨by first | omega | exact Nat.le_refl _⟩, ⟨by repeat (first | (with_reducible first | exact HB.out | apply below_alloc | apply pw_below_drewN | apply below_drew1) | exact HB.out | (with_reducible exact Below.refl _ _))⟩⟩
        · replace c18 := Bool.eq_false_iff.mpr c18
          subst c18
          have H1 : (halterlaw22_CredLaws.j0 k (wrap64 (Int.tmod (IntKind.u64.wrap (a0)) 65536)) (wrap64 (Int.tmod (IntKind.u64.wrap (a1)) 65536)) true) = some r := by rw [if_neg (show ¬ (false = true) by decide)] at H; exact H
          clear H
          have H := H1
          clear H1
          have H' := Aside0.mk H
          clear H
          go_wp2_with (first | ((with_reducible refine gate_callee (f := 9) rfl ?_); refine goesL_ (some 26) rfl rfl Tryd.func9 (by kernel_rfl) rfl #[.int .i64 (wrap64 (Int.tmod (IntKind.u64.wrap (a0)) 65536)), .int .i64 (wrap64 (Int.tmod (IntKind.u64.wrap (a1)) 65536))] rfl (by (try simp only [List.map_toArray, List.map_cons, List.map_nil]); first | done | rfl | (simp only [List.length_drop, List.length_take]; rfl)) ?_; (with_reducible refine (cred_May.calls (wrap64 (Int.tmod (IntKind.u64.wrap (a0)) 65536)) (wrap64 (Int.tmod (IntKind.u64.wrap (a1)) 65536)) true _ A5.out).mono ?_); rintro e w' ⟨rfl, ⟨nd, rfl⟩⟩; refine ⟨_, rfl, ?_⟩) | (go_at_call 9; (with_reducible refine (cred_May.calls (wrap64 (Int.tmod (IntKind.u64.wrap (a1)) 65536)) (wrap64 (Int.tmod (IntKind.u64.wrap (a2)) 65536)) false _ A7.out).mono ?_); rintro e w' ⟨rfl, ⟨nd, rfl⟩⟩) | (go_at_call 9; (with_reducible refine (cred_May.calls (wrap64 (Int.tmod (IntKind.u64.wrap (a0)) 65536)) (wrap64 (Int.tmod (IntKind.u64.wrap (a0)) 65536)) false _ A17.out).mono ?_); rintro e w' ⟨rfl, ⟨nd, rfl⟩⟩))
          go_meet
          case rel => exact ⟨_, (true), (by first | rfl | (simp; done) | (simp [*]; done)), H', ⟨by first | omega | exact Nat.le_refl _⟩, ⟨by repeat (first | (with_reducible first | exact HB.out | apply below_alloc | apply pw_below_drewN | apply below_drew1) | exact HB.out | (with_reducible exact Below.refl _ _))⟩⟩
    · replace c6 := Bool.eq_false_iff.mpr c6
      subst c6
      have H1 : ((cred_May.f (wrap64 (Int.tmod (IntKind.u64.wrap (a0)) 65536)) (wrap64 (Int.tmod (IntKind.u64.wrap (a0)) 65536))).bind fun t127 => (if t127 = true then ((cred_May.f 0 (wrap64 (Int.tmod (IntKind.u64.wrap (a0)) 65536))).bind fun t128 => (if t128 = true then (if (wrap64 (Int.tmod (IntKind.u64.wrap (a0)) 65536)) = 0 then (halterlaw22_CredLaws.j0 k (wrap64 (Int.tmod (IntKind.u64.wrap (a0)) 65536)) (wrap64 (Int.tmod (IntKind.u64.wrap (a1)) 65536)) false) else ((cred_May.f (wrap64 (Int.tmod (IntKind.u64.wrap (a0)) 65536)) 0).bind fun t129 => (halterlaw22_CredLaws.j0 k (wrap64 (Int.tmod (IntKind.u64.wrap (a0)) 65536)) (wrap64 (Int.tmod (IntKind.u64.wrap (a1)) 65536)) t129))) else (halterlaw22_CredLaws.j0 k (wrap64 (Int.tmod (IntKind.u64.wrap (a0)) 65536)) (wrap64 (Int.tmod (IntKind.u64.wrap (a1)) 65536)) true))) else (halterlaw22_CredLaws.j0 k (wrap64 (Int.tmod (IntKind.u64.wrap (a0)) 65536)) (wrap64 (Int.tmod (IntKind.u64.wrap (a1)) 65536)) true))) = some r := by rw [if_neg (show ¬ (false = true) by decide)] at H; exact H
      clear H
      have H := H1
      clear H1
      replace H := Option.bind_eq_some_iff.mp H
      obtain ⟨t127, A230, H⟩ := H
      replace H : (if t127 = true then ((cred_May.f 0 (wrap64 (Int.tmod (IntKind.u64.wrap (a0)) 65536))).bind fun t128 => (if t128 = true then (if (wrap64 (Int.tmod (IntKind.u64.wrap (a0)) 65536)) = 0 then (halterlaw22_CredLaws.j0 k (wrap64 (Int.tmod (IntKind.u64.wrap (a0)) 65536)) (wrap64 (Int.tmod (IntKind.u64.wrap (a1)) 65536)) false) else ((cred_May.f (wrap64 (Int.tmod (IntKind.u64.wrap (a0)) 65536)) 0).bind fun t129 => (halterlaw22_CredLaws.j0 k (wrap64 (Int.tmod (IntKind.u64.wrap (a0)) 65536)) (wrap64 (Int.tmod (IntKind.u64.wrap (a1)) 65536)) t129))) else (halterlaw22_CredLaws.j0 k (wrap64 (Int.tmod (IntKind.u64.wrap (a0)) 65536)) (wrap64 (Int.tmod (IntKind.u64.wrap (a1)) 65536)) true))) else (halterlaw22_CredLaws.j0 k (wrap64 (Int.tmod (IntKind.u64.wrap (a0)) 65536)) (wrap64 (Int.tmod (IntKind.u64.wrap (a1)) 65536)) true)) = some r := H
      have A23 := Aside0.mk A230
      clear A230
      by_cases c24 : t127 = true
      · subst c24
        have H1 : ((cred_May.f 0 (wrap64 (Int.tmod (IntKind.u64.wrap (a0)) 65536))).bind fun t128 => (if t128 = true then (if (wrap64 (Int.tmod (IntKind.u64.wrap (a0)) 65536)) = 0 then (halterlaw22_CredLaws.j0 k (wrap64 (Int.tmod (IntKind.u64.wrap (a0)) 65536)) (wrap64 (Int.tmod (IntKind.u64.wrap (a1)) 65536)) false) else ((cred_May.f (wrap64 (Int.tmod (IntKind.u64.wrap (a0)) 65536)) 0).bind fun t129 => (halterlaw22_CredLaws.j0 k (wrap64 (Int.tmod (IntKind.u64.wrap (a0)) 65536)) (wrap64 (Int.tmod (IntKind.u64.wrap (a1)) 65536)) t129))) else (halterlaw22_CredLaws.j0 k (wrap64 (Int.tmod (IntKind.u64.wrap (a0)) 65536)) (wrap64 (Int.tmod (IntKind.u64.wrap (a1)) 65536)) true))) = some r := by rw [if_pos rfl] at H; exact H
        clear H
        have H := H1
        clear H1
        replace H := Option.bind_eq_some_iff.mp H
        obtain ⟨t128, A250, H⟩ := H
        replace H : (if t128 = true then (if (wrap64 (Int.tmod (IntKind.u64.wrap (a0)) 65536)) = 0 then (halterlaw22_CredLaws.j0 k (wrap64 (Int.tmod (IntKind.u64.wrap (a0)) 65536)) (wrap64 (Int.tmod (IntKind.u64.wrap (a1)) 65536)) false) else ((cred_May.f (wrap64 (Int.tmod (IntKind.u64.wrap (a0)) 65536)) 0).bind fun t129 => (halterlaw22_CredLaws.j0 k (wrap64 (Int.tmod (IntKind.u64.wrap (a0)) 65536)) (wrap64 (Int.tmod (IntKind.u64.wrap (a1)) 65536)) t129))) else (halterlaw22_CredLaws.j0 k (wrap64 (Int.tmod (IntKind.u64.wrap (a0)) 65536)) (wrap64 (Int.tmod (IntKind.u64.wrap (a1)) 65536)) true)) = some r := H
        have A25 := Aside0.mk A250
        clear A250
        by_cases c26 : t128 = true
        · subst c26
          have H1 : (if (wrap64 (Int.tmod (IntKind.u64.wrap (a0)) 65536)) = 0 then (halterlaw22_CredLaws.j0 k (wrap64 (Int.tmod (IntKind.u64.wrap (a0)) 65536)) (wrap64 (Int.tmod (IntKind.u64.wrap (a1)) 65536)) false) else ((cred_May.f (wrap64 (Int.tmod (IntKind.u64.wrap (a0)) 65536)) 0).bind fun t129 => (halterlaw22_CredLaws.j0 k (wrap64 (Int.tmod (IntKind.u64.wrap (a0)) 65536)) (wrap64 (Int.tmod (IntKind.u64.wrap (a1)) 65536)) t129))) = some r := by rw [if_pos rfl] at H; exact H
          clear H
          have H := H1
          clear H1
          by_cases c27 : (wrap64 (Int.tmod (IntKind.u64.wrap (a0)) 65536)) = 0
          · rw [if_pos c27] at H
            have c27b0 : ((wrap64 (Int.tmod (IntKind.u64.wrap (a0)) 65536)) == 0) = true := beq_iff_eq.mpr c27
            have c27b1 : ((wrap64 (Int.tmod (IntKind.u64.wrap (a0)) 65536)) != 0) = false := bne_eq_false_iff_eq.mpr c27
            clear c27
            have H' := Aside0.mk H
            clear H
            go_wp2_with (first | ((with_reducible refine gate_callee (f := 9) rfl ?_); refine goesL_ (some 26) rfl rfl Tryd.func9 (by kernel_rfl) rfl #[.int .i64 (wrap64 (Int.tmod (IntKind.u64.wrap (a0)) 65536)), .int .i64 (wrap64 (Int.tmod (IntKind.u64.wrap (a1)) 65536))] rfl (by (try simp only [List.map_toArray, List.map_cons, List.map_nil]); first | done | rfl | (simp only [List.length_drop, List.length_take]; rfl)) ?_; (with_reducible refine (cred_May.calls (wrap64 (Int.tmod (IntKind.u64.wrap (a0)) 65536)) (wrap64 (Int.tmod (IntKind.u64.wrap (a1)) 65536)) false _ A5.out).mono ?_); rintro e w' ⟨rfl, ⟨nd, rfl⟩⟩; refine ⟨_, rfl, ?_⟩) | (go_at_call 9; (with_reducible refine (cred_May.calls (wrap64 (Int.tmod (IntKind.u64.wrap (a0)) 65536)) (wrap64 (Int.tmod (IntKind.u64.wrap (a0)) 65536)) true _ A23.out).mono ?_); rintro e w' ⟨rfl, ⟨nd, rfl⟩⟩) | (go_at_call 9; (with_reducible refine (cred_May.calls 0 (wrap64 (Int.tmod (IntKind.u64.wrap (a0)) 65536)) true _ A25.out).mono ?_); rintro e w' ⟨rfl, ⟨nd, rfl⟩⟩))
            go_meet
            case rel => exact ⟨_, (false), (by first | rfl | (simp; done) | (simp [*]; done)), H', ⟨by first | omega | exact Nat.le_refl _⟩, ⟨by repeat (first | (with_reducible first | exact HB.out | apply below_alloc | apply pw_below_drewN | apply below_drew1) | exact HB.out | (with_reducible exact Below.refl _ _))⟩⟩
          · rw [if_neg c27] at H
            have c27b0 : ((wrap64 (Int.tmod (IntKind.u64.wrap (a0)) 65536)) == 0) = false := beq_eq_false_iff_ne.mpr c27
            have c27b1 : ((wrap64 (Int.tmod (IntKind.u64.wrap (a0)) 65536)) != 0) = true := bne_iff_ne.mpr c27
            replace H := Option.bind_eq_some_iff.mp H
            obtain ⟨t129, A280, H⟩ := H
            replace H : (halterlaw22_CredLaws.j0 k (wrap64 (Int.tmod (IntKind.u64.wrap (a0)) 65536)) (wrap64 (Int.tmod (IntKind.u64.wrap (a1)) 65536)) t129) = some r := H
            have A28 := Aside0.mk A280
            clear A280
            have H' := Aside0.mk H
            clear H
            go_wp2_with (first | ((with_reducible refine gate_callee (f := 9) rfl ?_); refine goesL_ (some 26) rfl rfl Tryd.func9 (by kernel_rfl) rfl #[.int .i64 (wrap64 (Int.tmod (IntKind.u64.wrap (a0)) 65536)), .int .i64 (wrap64 (Int.tmod (IntKind.u64.wrap (a1)) 65536))] rfl (by (try simp only [List.map_toArray, List.map_cons, List.map_nil]); first | done | rfl | (simp only [List.length_drop, List.length_take]; rfl)) ?_; (with_reducible refine (cred_May.calls (wrap64 (Int.tmod (IntKind.u64.wrap (a0)) 65536)) (wrap64 (Int.tmod (IntKind.u64.wrap (a1)) 65536)) false _ A5.out).mono ?_); rintro e w' ⟨rfl, ⟨nd, rfl⟩⟩; refine ⟨_, rfl, ?_⟩) | (go_at_call 9; (with_reducible refine (cred_May.calls (wrap64 (Int.tmod (IntKind.u64.wrap (a0)) 65536)) (wrap64 (Int.tmod (IntKind.u64.wrap (a0)) 65536)) true _ A23.out).mono ?_); rintro e w' ⟨rfl, ⟨nd, rfl⟩⟩) | (go_at_call 9; (with_reducible refine (cred_May.calls 0 (wrap64 (Int.tmod (IntKind.u64.wrap (a0)) 65536)) true _ A25.out).mono ?_); rintro e w' ⟨rfl, ⟨nd, rfl⟩⟩) | (go_at_call 9; (with_reducible refine (cred_May.calls (wrap64 (Int.tmod (IntKind.u64.wrap (a0)) 65536)) 0 t129 _ A28.out).mono ?_); rintro e w' ⟨rfl, ⟨nd, rfl⟩⟩))
            go_meet
            case rel => exact ⟨_, (t129), (by first | rfl | (simp; done) | (simp [*]; done)), H', ⟨by first | omega | exact Nat.le_refl _⟩, ⟨by repeat (first | (with_reducible first | exact HB.out | apply below_alloc | apply pw_below_drewN | apply below_drew1) | exact HB.out | (with_reducible exact Below.refl _ _))⟩⟩
        · replace c26 := Bool.eq_false_iff.mpr c26
          subst c26
          have H1 : (halterlaw22_CredLaws.j0 k (wrap64 (Int.tmod (IntKind.u64.wrap (a0)) 65536)) (wrap64 (Int.tmod (IntKind.u64.wrap (a1)) 65536)) true) = some r := by rw [if_neg (show ¬ (false = true) by decide)] at H; exact H
          clear H
          have H := H1
          clear H1
          have H' := Aside0.mk H
          clear H
          go_wp2_with (first | ((with_reducible refine gate_callee (f := 9) rfl ?_); refine goesL_ (some 26) rfl rfl Tryd.func9 (by kernel_rfl) rfl #[.int .i64 (wrap64 (Int.tmod (IntKind.u64.wrap (a0)) 65536)), .int .i64 (wrap64 (Int.tmod (IntKind.u64.wrap (a1)) 65536))] rfl (by (try simp only [List.map_toArray, List.map_cons, List.map_nil]); first | done | rfl | (simp only [List.length_drop, List.length_take]; rfl)) ?_; (with_reducible refine (cred_May.calls (wrap64 (Int.tmod (IntKind.u64.wrap (a0)) 65536)) (wrap64 (Int.tmod (IntKind.u64.wrap (a1)) 65536)) false _ A5.out).mono ?_); rintro e w' ⟨rfl, ⟨nd, rfl⟩⟩; refine ⟨_, rfl, ?_⟩) | (go_at_call 9; (with_reducible refine (cred_May.calls (wrap64 (Int.tmod (IntKind.u64.wrap (a0)) 65536)) (wrap64 (Int.tmod (IntKind.u64.wrap (a0)) 65536)) true _ A23.out).mono ?_); rintro e w' ⟨rfl, ⟨nd, rfl⟩⟩) | (go_at_call 9; (with_reducible refine (cred_May.calls 0 (wrap64 (Int.tmod (IntKind.u64.wrap (a0)) 65536)) false _ A25.out).mono ?_); rintro e w' ⟨rfl, ⟨nd, rfl⟩⟩))
          go_meet
          case rel => exact ⟨_, (true), (by first | rfl | (simp; done) | (simp [*]; done)), H', ⟨by first | omega | exact Nat.le_refl _⟩, ⟨by repeat (first | (with_reducible first | exact HB.out | apply below_alloc | apply pw_below_drewN | apply below_drew1) | exact HB.out | (with_reducible exact Below.refl _ _))⟩⟩
      · replace c24 := Bool.eq_false_iff.mpr c24
        subst c24
        have H1 : (halterlaw22_CredLaws.j0 k (wrap64 (Int.tmod (IntKind.u64.wrap (a0)) 65536)) (wrap64 (Int.tmod (IntKind.u64.wrap (a1)) 65536)) true) = some r := by rw [if_neg (show ¬ (false = true) by decide)] at H; exact H
        clear H
        have H := H1
        clear H1
        have H' := Aside0.mk H
        clear H
        go_wp2_with (first | ((with_reducible refine gate_callee (f := 9) rfl ?_); refine goesL_ (some 26) rfl rfl Tryd.func9 (by kernel_rfl) rfl #[.int .i64 (wrap64 (Int.tmod (IntKind.u64.wrap (a0)) 65536)), .int .i64 (wrap64 (Int.tmod (IntKind.u64.wrap (a1)) 65536))] rfl (by (try simp only [List.map_toArray, List.map_cons, List.map_nil]); first | done | rfl | (simp only [List.length_drop, List.length_take]; rfl)) ?_; (with_reducible refine (cred_May.calls (wrap64 (Int.tmod (IntKind.u64.wrap (a0)) 65536)) (wrap64 (Int.tmod (IntKind.u64.wrap (a1)) 65536)) false _ A5.out).mono ?_); rintro e w' ⟨rfl, ⟨nd, rfl⟩⟩; refine ⟨_, rfl, ?_⟩) | (go_at_call 9; (with_reducible refine (cred_May.calls (wrap64 (Int.tmod (IntKind.u64.wrap (a0)) 65536)) (wrap64 (Int.tmod (IntKind.u64.wrap (a0)) 65536)) false _ A23.out).mono ?_); rintro e w' ⟨rfl, ⟨nd, rfl⟩⟩))
        go_meet
        case rel => exact ⟨_, (true), (by first | rfl | (simp; done) | (simp [*]; done)), H', ⟨by first | omega | exact Nat.le_refl _⟩, ⟨by repeat (first | (with_reducible first | exact HB.out | apply below_alloc | apply pw_below_drewN | apply below_drew1) | exact HB.out | (with_reducible exact Below.refl _ _))⟩⟩
  case rest =>
    clear HC4
    try clear c1
    try clear c2
    try clear p2
    try clear c4
    try clear c6
    try clear p6
    try clear c8
    try clear c9
    try clear c10
    try clear c12
    try clear c14
    try clear c15
    try clear c15b0
    try clear c15b1
    try clear c18
    try clear c20
    try clear c21
    try clear c21b0
    try clear c21b1
    try clear c24
    try clear c26
    try clear c27
    try clear c27b0
    try clear c27b1
    obtain ⟨kq, x56_3, rfl, HA, HJ3, HB⟩ := hcut
    cases kq with
    | zero => exact absurd HA.out (by simp [halterlaw22_CredLaws.j0])
    | succ kj3 =>
      have H := HA.out
      clear HA
      simp only [halterlaw22_CredLaws.j0] at H
      by_cases c29 : x56_3 = true
      · subst c29
        have H1 : (some false) = some r := by rw [if_pos rfl] at H; exact H
        clear H
        have H := H1
        clear H1
        obtain rfl := Option.some.inj H
        go_wp2
        go_ret
        exact ⟨by first | rfl | (simp [errW_none, errW_some] <;> rfl) | (simp [*, errW_none, errW_some] <;> rfl), by repeat (first | (with_reducible first | exact HB.out | apply below_alloc | apply pw_below_drewN | apply below_drew1) | exact HB.out | (with_reducible exact Below.refl _ _))⟩
      · replace c29 := Bool.eq_false_iff.mpr c29
        subst c29
        have H1 : ((cred_Become.f kj3 (wrap64 (Int.tmod (IntKind.u64.wrap (a0)) 65536)) (wrap64 (Int.tmod (IntKind.u64.wrap (a1)) 65536))).bind fun bt130 => (if bt130.2.isNone = true then ((cred_May.f (wrap64 (Int.tmod (IntKind.u64.wrap (a0)) 65536)) (wrap64 (Int.tmod (IntKind.u64.wrap (a1)) 65536))).bind fun t133 => (if (true == t133) = true then (if bt130.1 = (wrap64 (Int.tmod (IntKind.u64.wrap (a1)) 65536)) then ((halterlaw22_sure.f kj3).bind fun t134 => (some t134)) else (some false)) else (some false))) else ((cred_May.f (wrap64 (Int.tmod (IntKind.u64.wrap (a0)) 65536)) (wrap64 (Int.tmod (IntKind.u64.wrap (a1)) 65536))).bind fun t135 => (if (false == t135) = true then ((halterlaw22_sure.f kj3).bind fun t136 => (some t136)) else (some false))))) = some r := by rw [if_neg (show ¬ (false = true) by decide)] at H; exact H
        clear H
        have H := H1
        clear H1
        replace H := Option.bind_eq_some_iff.mp H
        obtain ⟨⟨t130, t131⟩, A300, H⟩ := H
        replace H : (if t131.isNone = true then ((cred_May.f (wrap64 (Int.tmod (IntKind.u64.wrap (a0)) 65536)) (wrap64 (Int.tmod (IntKind.u64.wrap (a1)) 65536))).bind fun t133 => (if (true == t133) = true then (if t130 = (wrap64 (Int.tmod (IntKind.u64.wrap (a1)) 65536)) then ((halterlaw22_sure.f kj3).bind fun t134 => (some t134)) else (some false)) else (some false))) else ((cred_May.f (wrap64 (Int.tmod (IntKind.u64.wrap (a0)) 65536)) (wrap64 (Int.tmod (IntKind.u64.wrap (a1)) 65536))).bind fun t135 => (if (false == t135) = true then ((halterlaw22_sure.f kj3).bind fun t136 => (some t136)) else (some false)))) = some r := H
        have A30 := Aside0.mk A300
        clear A300
        rcases t131 with _ | q132
        · have H1 : ((cred_May.f (wrap64 (Int.tmod (IntKind.u64.wrap (a0)) 65536)) (wrap64 (Int.tmod (IntKind.u64.wrap (a1)) 65536))).bind fun t133 => (if (true == t133) = true then (if t130 = (wrap64 (Int.tmod (IntKind.u64.wrap (a1)) 65536)) then ((halterlaw22_sure.f kj3).bind fun t134 => (some t134)) else (some false)) else (some false))) = some r := by rw [if_pos (show (none : Option Int).isNone = true by rfl)] at H; exact H
          clear H
          have H := H1
          clear H1
          try simp only [errW_none, errW_some]
          replace H := Option.bind_eq_some_iff.mp H
          obtain ⟨t133, A310, H⟩ := H
          replace H : (if (true == t133) = true then (if t130 = (wrap64 (Int.tmod (IntKind.u64.wrap (a1)) 65536)) then ((halterlaw22_sure.f kj3).bind fun t134 => (some t134)) else (some false)) else (some false)) = some r := H
          have A31 := Aside0.mk A310
          clear A310
          by_cases c32 : (true == t133) = true
          · rw [if_pos c32] at H
            have c32b0 : (true == t133) = true := c32
            (try (have c32b1 : decide (true = t133) = true := by simpa using c32))
            (try (have c32b2 : (true == t133) = true := by simpa using c32))
            clear c32
            by_cases c33 : t130 = (wrap64 (Int.tmod (IntKind.u64.wrap (a1)) 65536))
            · rw [if_pos c33] at H
              have c33b0 : (t130 == (wrap64 (Int.tmod (IntKind.u64.wrap (a1)) 65536))) = true := beq_iff_eq.mpr c33
              have c33b1 : (t130 != (wrap64 (Int.tmod (IntKind.u64.wrap (a1)) 65536))) = false := bne_eq_false_iff_eq.mpr c33
              clear c33
              replace H := Option.bind_eq_some_iff.mp H
              obtain ⟨t134, A340, H⟩ := H
              replace H : (some t134) = some r := H
              have A34 := Aside0.mk A340
              clear A340
              obtain rfl := Option.some.inj H
              try go_wp2_with (first | ((with_reducible refine gate_callee (f := 5) rfl ?_); refine goesL_ (some 60) rfl rfl Tryd.func5 (by kernel_rfl) rfl #[.int .i64 (wrap64 (Int.tmod (IntKind.u64.wrap (a0)) 65536)), .int .i64 (wrap64 (Int.tmod (IntKind.u64.wrap (a1)) 65536))] rfl (by (try simp only [List.map_toArray, List.map_cons, List.map_nil]); first | done | rfl | (simp only [List.length_drop, List.length_take]; rfl)) ?_; (with_reducible refine (cred_Become.calls kj3 (wrap64 (Int.tmod (IntKind.u64.wrap (a0)) 65536)) (wrap64 (Int.tmod (IntKind.u64.wrap (a1)) 65536)) t130 none _ A30.out).mono ?_); rintro e w' ⟨rfl, ⟨nd, rfl⟩⟩; refine ⟨_, rfl, ?_⟩; (try simp only [errW_none, errW_some])))
              (try (rw [drewN_self wc]; generalize hq_ : World.drewN wc _ = wc; have n0_ : Aside0 (Below w.heap.size w wc) := ⟨by rw [← hq_]; exact (by repeat (first | (with_reducible first | exact HB.out | apply below_alloc | apply pw_below_drewN | apply below_drew1) | exact HB.out | (with_reducible exact Below.refl _ _)))⟩; clear HB hq_; have HB := n0_; clear n0_))
              have n0_ := Aside0.mk (below_drew1 HB.out)
              clear HB
              have HB := n0_
              clear n0_
              refine start_ (n := 19) (S := fun w' => True) (ds := []) #[false, false, false, false, false, false, false, false, false, false, false, false, false, false, false, false, false, false, false] (by kernel_rfl) rfl rfl trivial (fun hHeld => ?_); refine with_tabW halterlaw22_CredLaws.tab5 halterlaw22_CredLaws.bits5 (fun HT_ HW_ => ?_)
              generalize wc.drew = w35 at HB hHeld ⊢
              refine pure_ (i := 0) (N := some 63) (v := ?_) (a' := ?_) #[true, false, false, false, false, false, false, false, false, false, false, false, false, false, false, false, false, false, false] rfl rfl (any_of HT_.out (by kernel_rfl)) (fun _ _ _ h => h) (Or.inl ⟨by rfl, ?_⟩) ?_ ?_
              rotate_left
              · intro w'
                go_simp
                with_reducible rfl
              rotate_left
              · simp only [Act.put, List.setIfInBounds_toArray, List.set_cons_zero, List.set_cons_succ, i64_w, i32_w]
                rfl
              refine pure_ (i := 1) (N := some 64) (v := ?_) (a' := ?_) #[true, true, false, false, false, false, false, false, false, false, false, false, false, false, false, false, false, false, false] rfl rfl (any_of HT_.out (by kernel_rfl)) (fun _ _ _ h => h) (Or.inl ⟨by rfl, ?_⟩) ?_ ?_
              rotate_left
              · intro w'
                go_simp
                with_reducible rfl
              rotate_left
              · simp only [Act.put, List.setIfInBounds_toArray, List.set_cons_zero, List.set_cons_succ, i64_w, i32_w]
                rfl
              refine pure_ (i := 2) (N := some 65) (v := ?_) (a' := ?_) #[true, true, true, false, false, false, false, false, false, false, false, false, false, false, false, false, false, false, false] rfl rfl (any_of HT_.out (by kernel_rfl)) (fun _ _ _ h => h) (Or.inl ⟨by rfl, ?_⟩) ?_ ?_
              rotate_left
              · intro w'
                go_simp
                with_reducible rfl
              rotate_left
              · simp only [Act.put, List.setIfInBounds_toArray, List.set_cons_zero, List.set_cons_succ, i64_w, i32_w]
                rfl
              refine pure_ (i := 3) (N := some 66) (v := ?_) (a' := ?_) #[true, true, true, true, false, false, false, false, false, false, false, false, false, false, false, false, false, false, false] rfl rfl (any_of HT_.out (by kernel_rfl)) (fun _ _ _ h => h) (Or.inl ⟨by rfl, ?_⟩) ?_ ?_
              rotate_left
              · intro w'
                go_simp
                with_reducible rfl
              rotate_left
              · simp only [Act.put, List.setIfInBounds_toArray, List.set_cons_zero, List.set_cons_succ, i64_w, i32_w]
                rfl
              refine one_ (i := 4) (N := some 67) #[true, true, true, true, true, false, false, false, false, false, false, false, false, false, false, false, false, false, false] rfl rfl (one_of HT_.out (by kernel_rfl)) (by decide) (fun K hK => ?_)
              refine goes_ Tryd.func9 (by kernel_rfl) rfl #[.int .i64 (wrap64 (Int.tmod (IntKind.u64.wrap (a0)) 65536)), .int .i64 (wrap64 (Int.tmod (IntKind.u64.wrap (a1)) 65536))] (by rfl) rfl rfl (by (try simp only [List.map_toArray, List.map_cons, List.map_nil]); first | done | rfl | (simp only [List.length_drop, List.length_take]; rfl)) ?_
              with_reducible refine (cred_May.calls (wrap64 (Int.tmod (IntKind.u64.wrap (a0)) 65536)) (wrap64 (Int.tmod (IntKind.u64.wrap (a1)) 65536)) t133 _ A31.out).mono ?_
              rintro e w' ⟨rfl, ⟨nd, rfl⟩⟩
              refine ⟨_, rfl, ?_⟩
              refine hK.out _ _ trivial (fun hHeld => ?_)
              clear hK K
              refine norm_ (a' := ?_) ?_ ?_
              rotate_left
              · show Act.put _ (some 67) _ = _
                simp only [Act.put, List.setIfInBounds_toArray, List.set_cons_zero, List.set_cons_succ, i64_w, i32_w]
                rfl
              refine pure_ (i := 5) (N := some 68) (v := ?_) (a' := ?_) #[true, true, true, true, true, true, false, false, false, false, false, false, false, false, false, false, false, false, false] rfl rfl (any_of HT_.out (by kernel_rfl)) (fun _ _ _ h => h) (Or.inl ⟨by rfl, ?_⟩) ?_ ?_
              rotate_left
              · intro w'
                go_simp
                with_reducible rfl
              rotate_left
              · simp only [Act.put, List.setIfInBounds_toArray, List.set_cons_zero, List.set_cons_succ, i64_w, i32_w]
                rfl
              refine pure_ (i := 6) (N := some 69) (v := ?_) (a' := ?_) #[true, true, true, true, true, true, true, false, false, false, false, false, false, false, false, false, false, false, false] rfl rfl (any_of HT_.out (by kernel_rfl)) (fun _ _ _ h => h) (Or.inl ⟨by rfl, ?_⟩) ?_ ?_
              rotate_left
              · intro w'
                go_simp
                with_reducible rfl
              rotate_left
              · simp only [Act.put, List.setIfInBounds_toArray, List.set_cons_zero, List.set_cons_succ, i64_w, i32_w]
                rfl
              refine pure_ (i := 7) (N := some 70) (v := ?_) (a' := ?_) #[true, true, true, true, true, true, true, true, false, false, false, false, false, false, false, false, false, false, false] rfl rfl (any_of HT_.out (by kernel_rfl)) (fun _ _ _ h => h) (Or.inl ⟨by rfl, ?_⟩) ?_ ?_
              rotate_left
              · intro w'
                go_simp
                with_reducible rfl
              rotate_left
              · simp only [Act.put, List.setIfInBounds_toArray, List.set_cons_zero, List.set_cons_succ, i64_w, i32_w]
                rfl
              refine pure_ (i := 8) (N := some 71) (v := ?_) (a' := ?_) #[true, true, true, true, true, true, true, true, true, false, false, false, false, false, false, false, false, false, false] rfl rfl (any_of HT_.out (by kernel_rfl)) (fun _ _ _ h => h) (Or.inl ⟨by rfl, ?_⟩) ?_ ?_
              rotate_left
              · intro w'
                go_simp
                with_reducible rfl
              rotate_left
              · simp only [Act.put, List.setIfInBounds_toArray, List.set_cons_zero, List.set_cons_succ, i64_w, i32_w]
                rfl
              refine pure_ (i := 9) (N := some 72) (v := ?_) (a' := ?_) #[true, true, true, true, true, true, true, true, true, true, false, false, false, false, false, false, false, false, false] rfl rfl (any_of HT_.out (by kernel_rfl)) (fun _ _ _ h => h) (Or.inl ⟨by rfl, ?_⟩) ?_ ?_
              rotate_left
              · intro w'
                go_simp
                with_reducible rfl
              rotate_left
              · simp only [Act.put, List.setIfInBounds_toArray, List.set_cons_zero, List.set_cons_succ, i64_w, i32_w]
                rfl
              refine pure_ (i := 10) (N := some 73) (v := ?_) (a' := ?_) #[true, true, true, true, true, true, true, true, true, true, true, false, false, false, false, false, false, false, false] rfl rfl (any_of HT_.out (by kernel_rfl)) (fun _ _ _ h => h) (Or.inl ⟨by rfl, ?_⟩) ?_ ?_
              rotate_left
              · intro w'
                go_simp
                with_reducible rfl
              rotate_left
              · simp only [Act.put, List.setIfInBounds_toArray, List.set_cons_zero, List.set_cons_succ, i64_w, i32_w]
                rfl
              refine pure_ (i := 11) (N := some 74) (v := ?_) (a' := ?_) #[true, true, true, true, true, true, true, true, true, true, true, true, false, false, false, false, false, false, false] rfl rfl (any_of HT_.out (by kernel_rfl)) (fun _ _ _ h => h) (Or.inl ⟨by rfl, ?_⟩) ?_ ?_
              rotate_left
              · intro w'
                go_simp
                with_reducible rfl
              rotate_left
              · simp only [Act.put, List.setIfInBounds_toArray, List.set_cons_zero, List.set_cons_succ, i64_w, i32_w]
                rfl
              refine pure_ (i := 12) (N := some 75) (v := ?_) (a' := ?_) #[true, true, true, true, true, true, true, true, true, true, true, true, true, false, false, false, false, false, false] rfl rfl (any_of HT_.out (by kernel_rfl)) (fun _ _ _ h => h) (Or.inl ⟨by rfl, ?_⟩) ?_ ?_
              rotate_left
              · intro w'
                go_simp
                with_reducible rfl
              rotate_left
              · simp only [Act.put, List.setIfInBounds_toArray, List.set_cons_zero, List.set_cons_succ, i64_w, i32_w]
                rfl
              refine pure_ (i := 13) (N := some 76) (v := ?_) (a' := ?_) #[true, true, true, true, true, true, true, true, true, true, true, true, true, true, false, false, false, false, false] rfl rfl (any_of HT_.out (by kernel_rfl)) (fun _ _ _ h => h) (Or.inl ⟨by rfl, ?_⟩) ?_ ?_
              rotate_left
              · intro w'
                go_simp
                with_reducible rfl
              rotate_left
              · simp only [Act.put, List.setIfInBounds_toArray, List.set_cons_zero, List.set_cons_succ, i64_w, i32_w]
                rfl
              refine pure_ (i := 14) (N := some 77) (v := ?_) (a' := ?_) #[true, true, true, true, true, true, true, true, true, true, true, true, true, true, true, false, false, false, false] rfl rfl (any_of HT_.out (by kernel_rfl)) (fun _ _ _ h => h) (Or.inl ⟨by rfl, ?_⟩) ?_ ?_
              rotate_left
              · intro w'
                go_simp
                with_reducible rfl
              rotate_left
              · simp only [Act.put, List.setIfInBounds_toArray, List.set_cons_zero, List.set_cons_succ, i64_w, i32_w]
                rfl
              refine pure_ (i := 15) (N := some 78) (v := ?_) (a' := ?_) #[true, true, true, true, true, true, true, true, true, true, true, true, true, true, true, true, false, false, false] rfl rfl (any_of HT_.out (by kernel_rfl)) (fun _ _ _ h => h) (Or.inl ⟨by rfl, ?_⟩) ?_ ?_
              rotate_left
              · intro w'
                go_simp
                with_reducible rfl
              rotate_left
              · simp only [Act.put, List.setIfInBounds_toArray, List.set_cons_zero, List.set_cons_succ, i64_w, i32_w]
                rfl
              refine one_ (i := 16) (N := some 79) #[true, true, true, true, true, true, true, true, true, true, true, true, true, true, true, true, true, false, false] rfl rfl (one_of HT_.out (by kernel_rfl)) (by decide) (fun K hK => ?_)
              refine goes_ Tryd.func11 (by kernel_rfl) rfl #[] (by rfl) rfl rfl (by (try simp only [List.map_toArray, List.map_cons, List.map_nil]); first | done | rfl | (simp only [List.length_drop, List.length_take]; rfl)) ?_
              with_reducible refine (halterlaw22_sure.calls kj3  t134 _ ?side1 A34.out).mono ?_
              (case side1 => refine GC.below hGC ?_; repeat (first | (with_reducible first | exact HB.out | apply below_alloc | apply pw_below_drewN | apply below_drew1) | exact HB.out | (with_reducible exact Below.refl _ _)))
              rintro e w36 ⟨rfl, hb⟩
              refine ⟨_, rfl, ?_⟩
              have n0_ := Aside0.mk (below_step (by repeat (first | (with_reducible first | exact HB.out | apply below_alloc | apply pw_below_drewN | apply below_drew1) | exact HB.out | (with_reducible exact Below.refl _ _))) hb)
              clear HB
              have HB := n0_
              clear n0_
              (try clear hb)
              (try clear hb2)
              (try clear hk)
              (try clear hi)
              refine hK.out _ _ trivial (fun hHeld => ?_)
              clear hK K
              refine norm_ (a' := ?_) ?_ ?_
              rotate_left
              · show Act.put _ (some 79) _ = _
                simp only [Act.put, List.setIfInBounds_toArray, List.set_cons_zero, List.set_cons_succ, i64_w, i32_w]
                rfl
              refine pure_ (i := 17) (N := some 80) (v := ?_) (a' := ?_) #[true, true, true, true, true, true, true, true, true, true, true, true, true, true, true, true, true, true, false] rfl rfl (any_of HT_.out (by kernel_rfl)) (fun _ _ _ h => h) (Or.inl ⟨by rfl, ?_⟩) ?_ ?_
              rotate_left
              · intro w'
                go_simp
                with_reducible rfl
              rotate_left
              · simp only [Act.put, List.setIfInBounds_toArray, List.set_cons_zero, List.set_cons_succ, i64_w, i32_w]
                rfl
              refine pure_ (i := 18) (N := some 6) (v := ?_) (a' := ?_) #[true, true, true, true, true, true, true, true, true, true, true, true, true, true, true, true, true, true, true] rfl rfl (any_of HT_.out (by kernel_rfl)) (fun _ _ _ h => h) (Or.inl ⟨by rfl, ?_⟩) ?_ ?_
              rotate_left
              · intro w'
                go_simp
                with_reducible rfl
              rotate_left
              · simp only [Act.put, List.setIfInBounds_toArray, List.set_cons_zero, List.set_cons_succ, i64_w, i32_w]
                rfl
              refine done_ (done_of HT_.out (by kernel_rfl)) ?_
              try go_wp2
              go_ret
              exact ⟨by first | rfl | (simp [errW_none, errW_some] <;> rfl) | (simp [*, errW_none, errW_some] <;> rfl), by repeat (first | (with_reducible first | exact HB.out | apply below_alloc | apply pw_below_drewN | apply below_drew1) | exact HB.out | (with_reducible exact Below.refl _ _))⟩
            · rw [if_neg c33] at H
              have c33b0 : (t130 == (wrap64 (Int.tmod (IntKind.u64.wrap (a1)) 65536))) = false := beq_eq_false_iff_ne.mpr c33
              have c33b1 : (t130 != (wrap64 (Int.tmod (IntKind.u64.wrap (a1)) 65536))) = true := bne_iff_ne.mpr c33
              obtain rfl := Option.some.inj H
              try go_wp2_with (first | ((with_reducible refine gate_callee (f := 5) rfl ?_); refine goesL_ (some 60) rfl rfl Tryd.func5 (by kernel_rfl) rfl #[.int .i64 (wrap64 (Int.tmod (IntKind.u64.wrap (a0)) 65536)), .int .i64 (wrap64 (Int.tmod (IntKind.u64.wrap (a1)) 65536))] rfl (by (try simp only [List.map_toArray, List.map_cons, List.map_nil]); first | done | rfl | (simp only [List.length_drop, List.length_take]; rfl)) ?_; (with_reducible refine (cred_Become.calls kj3 (wrap64 (Int.tmod (IntKind.u64.wrap (a0)) 65536)) (wrap64 (Int.tmod (IntKind.u64.wrap (a1)) 65536)) t130 none _ A30.out).mono ?_); rintro e w' ⟨rfl, ⟨nd, rfl⟩⟩; refine ⟨_, rfl, ?_⟩; (try simp only [errW_none, errW_some])))
              (try (rw [drewN_self wc]; generalize hq_ : World.drewN wc _ = wc; have n0_ : Aside0 (Below w.heap.size w wc) := ⟨by rw [← hq_]; exact (by repeat (first | (with_reducible first | exact HB.out | apply below_alloc | apply pw_below_drewN | apply below_drew1) | exact HB.out | (with_reducible exact Below.refl _ _)))⟩; clear HB hq_; have HB := n0_; clear n0_))
              have n0_ := Aside0.mk (below_drew1 HB.out)
              clear HB
              have HB := n0_
              clear n0_
              refine start_ (n := 19) (S := fun w' => True) (ds := []) #[false, false, false, false, false, false, false, false, false, false, false, false, false, false, false, false, false, false, false] (by kernel_rfl) rfl rfl trivial (fun hHeld => ?_); refine with_tabW halterlaw22_CredLaws.tab5 halterlaw22_CredLaws.bits5 (fun HT_ HW_ => ?_)
              generalize wc.drew = w37 at HB hHeld ⊢
              refine pure_ (i := 0) (N := some 63) (v := ?_) (a' := ?_) #[true, false, false, false, false, false, false, false, false, false, false, false, false, false, false, false, false, false, false] rfl rfl (any_of HT_.out (by kernel_rfl)) (fun _ _ _ h => h) (Or.inl ⟨by rfl, ?_⟩) ?_ ?_
              rotate_left
              · intro w'
                go_simp
                with_reducible rfl
              rotate_left
              · simp only [Act.put, List.setIfInBounds_toArray, List.set_cons_zero, List.set_cons_succ, i64_w, i32_w]
                rfl
              refine pure_ (i := 1) (N := some 64) (v := ?_) (a' := ?_) #[true, true, false, false, false, false, false, false, false, false, false, false, false, false, false, false, false, false, false] rfl rfl (any_of HT_.out (by kernel_rfl)) (fun _ _ _ h => h) (Or.inl ⟨by rfl, ?_⟩) ?_ ?_
              rotate_left
              · intro w'
                go_simp
                with_reducible rfl
              rotate_left
              · simp only [Act.put, List.setIfInBounds_toArray, List.set_cons_zero, List.set_cons_succ, i64_w, i32_w]
                rfl
              refine pure_ (i := 2) (N := some 65) (v := ?_) (a' := ?_) #[true, true, true, false, false, false, false, false, false, false, false, false, false, false, false, false, false, false, false] rfl rfl (any_of HT_.out (by kernel_rfl)) (fun _ _ _ h => h) (Or.inl ⟨by rfl, ?_⟩) ?_ ?_
              rotate_left
              · intro w'
                go_simp
                with_reducible rfl
              rotate_left
              · simp only [Act.put, List.setIfInBounds_toArray, List.set_cons_zero, List.set_cons_succ, i64_w, i32_w]
                rfl
              refine pure_ (i := 3) (N := some 66) (v := ?_) (a' := ?_) #[true, true, true, true, false, false, false, false, false, false, false, false, false, false, false, false, false, false, false] rfl rfl (any_of HT_.out (by kernel_rfl)) (fun _ _ _ h => h) (Or.inl ⟨by rfl, ?_⟩) ?_ ?_
              rotate_left
              · intro w'
                go_simp
                with_reducible rfl
              rotate_left
              · simp only [Act.put, List.setIfInBounds_toArray, List.set_cons_zero, List.set_cons_succ, i64_w, i32_w]
                rfl
              refine one_ (i := 4) (N := some 67) #[true, true, true, true, true, false, false, false, false, false, false, false, false, false, false, false, false, false, false] rfl rfl (one_of HT_.out (by kernel_rfl)) (by decide) (fun K hK => ?_)
              refine goes_ Tryd.func9 (by kernel_rfl) rfl #[.int .i64 (wrap64 (Int.tmod (IntKind.u64.wrap (a0)) 65536)), .int .i64 (wrap64 (Int.tmod (IntKind.u64.wrap (a1)) 65536))] (by rfl) rfl rfl (by (try simp only [List.map_toArray, List.map_cons, List.map_nil]); first | done | rfl | (simp only [List.length_drop, List.length_take]; rfl)) ?_
              with_reducible refine (cred_May.calls (wrap64 (Int.tmod (IntKind.u64.wrap (a0)) 65536)) (wrap64 (Int.tmod (IntKind.u64.wrap (a1)) 65536)) t133 _ A31.out).mono ?_
              rintro e w' ⟨rfl, ⟨nd, rfl⟩⟩
              refine ⟨_, rfl, ?_⟩
              refine hK.out _ _ trivial (fun hHeld => ?_)
              clear hK K
              refine norm_ (a' := ?_) ?_ ?_
              rotate_left
              · show Act.put _ (some 67) _ = _
                simp only [Act.put, List.setIfInBounds_toArray, List.set_cons_zero, List.set_cons_succ, i64_w, i32_w]
                rfl
              refine pure_ (i := 5) (N := some 68) (v := ?_) (a' := ?_) #[true, true, true, true, true, true, false, false, false, false, false, false, false, false, false, false, false, false, false] rfl rfl (any_of HT_.out (by kernel_rfl)) (fun _ _ _ h => h) (Or.inl ⟨by rfl, ?_⟩) ?_ ?_
              rotate_left
              · intro w'
                go_simp
                with_reducible rfl
              rotate_left
              · simp only [Act.put, List.setIfInBounds_toArray, List.set_cons_zero, List.set_cons_succ, i64_w, i32_w]
                rfl
              refine pure_ (i := 6) (N := some 69) (v := ?_) (a' := ?_) #[true, true, true, true, true, true, true, false, false, false, false, false, false, false, false, false, false, false, false] rfl rfl (any_of HT_.out (by kernel_rfl)) (fun _ _ _ h => h) (Or.inl ⟨by rfl, ?_⟩) ?_ ?_
              rotate_left
              · intro w'
                go_simp
                with_reducible rfl
              rotate_left
              · simp only [Act.put, List.setIfInBounds_toArray, List.set_cons_zero, List.set_cons_succ, i64_w, i32_w]
                rfl
              refine pure_ (i := 7) (N := some 70) (v := ?_) (a' := ?_) #[true, true, true, true, true, true, true, true, false, false, false, false, false, false, false, false, false, false, false] rfl rfl (any_of HT_.out (by kernel_rfl)) (fun _ _ _ h => h) (Or.inl ⟨by rfl, ?_⟩) ?_ ?_
              rotate_left
              · intro w'
                go_simp
                with_reducible rfl
              rotate_left
              · simp only [Act.put, List.setIfInBounds_toArray, List.set_cons_zero, List.set_cons_succ, i64_w, i32_w]
                rfl
              refine pure_ (i := 8) (N := some 71) (v := ?_) (a' := ?_) #[true, true, true, true, true, true, true, true, true, false, false, false, false, false, false, false, false, false, false] rfl rfl (any_of HT_.out (by kernel_rfl)) (fun _ _ _ h => h) (Or.inl ⟨by rfl, ?_⟩) ?_ ?_
              rotate_left
              · intro w'
                go_simp
                with_reducible rfl
              rotate_left
              · simp only [Act.put, List.setIfInBounds_toArray, List.set_cons_zero, List.set_cons_succ, i64_w, i32_w]
                rfl
              refine pure_ (i := 9) (N := some 72) (v := ?_) (a' := ?_) #[true, true, true, true, true, true, true, true, true, true, false, false, false, false, false, false, false, false, false] rfl rfl (any_of HT_.out (by kernel_rfl)) (fun _ _ _ h => h) (Or.inl ⟨by rfl, ?_⟩) ?_ ?_
              rotate_left
              · intro w'
                go_simp
                with_reducible rfl
              rotate_left
              · simp only [Act.put, List.setIfInBounds_toArray, List.set_cons_zero, List.set_cons_succ, i64_w, i32_w]
                rfl
              refine pure_ (i := 10) (N := some 73) (v := ?_) (a' := ?_) #[true, true, true, true, true, true, true, true, true, true, true, false, false, false, false, false, false, false, false] rfl rfl (any_of HT_.out (by kernel_rfl)) (fun _ _ _ h => h) (Or.inl ⟨by rfl, ?_⟩) ?_ ?_
              rotate_left
              · intro w'
                go_simp
                with_reducible rfl
              rotate_left
              · simp only [Act.put, List.setIfInBounds_toArray, List.set_cons_zero, List.set_cons_succ, i64_w, i32_w]
                rfl
              refine pure_ (i := 11) (N := some 74) (v := ?_) (a' := ?_) #[true, true, true, true, true, true, true, true, true, true, true, true, false, false, false, false, false, false, false] rfl rfl (any_of HT_.out (by kernel_rfl)) (fun _ _ _ h => h) (Or.inl ⟨by rfl, ?_⟩) ?_ ?_
              rotate_left
              · intro w'
                go_simp
                with_reducible rfl
              rotate_left
              · simp only [Act.put, List.setIfInBounds_toArray, List.set_cons_zero, List.set_cons_succ, i64_w, i32_w]
                rfl
              refine pure_ (i := 12) (N := some 75) (v := ?_) (a' := ?_) #[true, true, true, true, true, true, true, true, true, true, true, true, true, false, false, false, false, false, false] rfl rfl (any_of HT_.out (by kernel_rfl)) (fun _ _ _ h => h) (Or.inl ⟨by rfl, ?_⟩) ?_ ?_
              rotate_left
              · intro w'
                go_simp
                with_reducible rfl
              rotate_left
              · simp only [Act.put, List.setIfInBounds_toArray, List.set_cons_zero, List.set_cons_succ, i64_w, i32_w]
                rfl
              refine pure_ (i := 13) (N := some 76) (v := ?_) (a' := ?_) #[true, true, true, true, true, true, true, true, true, true, true, true, true, true, false, false, false, false, false] rfl rfl (any_of HT_.out (by kernel_rfl)) (fun _ _ _ h => h) (Or.inl ⟨by rfl, ?_⟩) ?_ ?_
              rotate_left
              · intro w'
                go_simp
                with_reducible rfl
              rotate_left
              · simp only [Act.put, List.setIfInBounds_toArray, List.set_cons_zero, List.set_cons_succ, i64_w, i32_w]
                rfl
              refine pure_ (i := 14) (N := some 77) (v := ?_) (a' := ?_) #[true, true, true, true, true, true, true, true, true, true, true, true, true, true, true, false, false, false, false] rfl rfl (any_of HT_.out (by kernel_rfl)) (fun _ _ _ h => h) (Or.inl ⟨by rfl, ?_⟩) ?_ ?_
              rotate_left
              · intro w'
                go_simp
                with_reducible rfl
              rotate_left
              · simp only [Act.put, List.setIfInBounds_toArray, List.set_cons_zero, List.set_cons_succ, i64_w, i32_w]
                rfl
              refine pure_ (i := 15) (N := some 78) (v := ?_) (a' := ?_) #[true, true, true, true, true, true, true, true, true, true, true, true, true, true, true, true, false, false, false] rfl rfl (any_of HT_.out (by kernel_rfl)) (fun _ _ _ h => h) (Or.inl ⟨by rfl, ?_⟩) ?_ ?_
              rotate_left
              · intro w'
                go_simp
                with_reducible rfl
              rotate_left
              · simp only [Act.put, List.setIfInBounds_toArray, List.set_cons_zero, List.set_cons_succ, i64_w, i32_w]
                rfl
              refine pure_ (i := 16) (N := some 79) (v := undef) (a' := ?_) #[true, true, true, true, true, true, true, true, true, true, true, true, true, true, true, true, true, false, false] rfl rfl (any_of HT_.out (by kernel_rfl)) (fun _ _ _ h => h) (Or.inr ⟨by rfl, rfl⟩) ?_ ?_
              rotate_left
              · simp only [Act.put, List.setIfInBounds_toArray, List.set_cons_zero, List.set_cons_succ, i64_w, i32_w]
                rfl
              refine pure_ (i := 17) (N := some 80) (v := ?_) (a' := ?_) #[true, true, true, true, true, true, true, true, true, true, true, true, true, true, true, true, true, true, false] rfl rfl (any_of HT_.out (by kernel_rfl)) (fun _ _ _ h => h) (Or.inl ⟨by rfl, ?_⟩) ?_ ?_
              rotate_left
              · intro w'
                go_simp
                with_reducible rfl
              rotate_left
              · simp only [Act.put, List.setIfInBounds_toArray, List.set_cons_zero, List.set_cons_succ, i64_w, i32_w]
                rfl
              refine pure_ (i := 18) (N := some 6) (v := ?_) (a' := ?_) #[true, true, true, true, true, true, true, true, true, true, true, true, true, true, true, true, true, true, true] rfl rfl (any_of HT_.out (by kernel_rfl)) (fun _ _ _ h => h) (Or.inl ⟨by rfl, ?_⟩) ?_ ?_
              rotate_left
              · intro w'
                go_simp
                with_reducible rfl
              rotate_left
              · simp only [Act.put, List.setIfInBounds_toArray, List.set_cons_zero, List.set_cons_succ, i64_w, i32_w]
                rfl
              refine done_ (done_of HT_.out (by kernel_rfl)) ?_
              try go_wp2
              go_ret
              exact ⟨by first | rfl | (simp [errW_none, errW_some] <;> rfl) | (simp [*, errW_none, errW_some] <;> rfl), by repeat (first | (with_reducible first | exact HB.out | apply below_alloc | apply pw_below_drewN | apply below_drew1) | exact HB.out | (with_reducible exact Below.refl _ _))⟩
          · rw [if_neg c32] at H
            have c32b0 : (true == t133) = false := by simpa using c32
            (try (have c32b1 : decide (true = t133) = false := by simpa using c32))
            (try (have c32b2 : (true == t133) = false := by simpa using c32))
            (try (have c32b3 : ¬ (true = t133) := by simpa using c32))
            clear c32
            obtain rfl := Option.some.inj H
            try go_wp2_with (first | ((with_reducible refine gate_callee (f := 5) rfl ?_); refine goesL_ (some 60) rfl rfl Tryd.func5 (by kernel_rfl) rfl #[.int .i64 (wrap64 (Int.tmod (IntKind.u64.wrap (a0)) 65536)), .int .i64 (wrap64 (Int.tmod (IntKind.u64.wrap (a1)) 65536))] rfl (by (try simp only [List.map_toArray, List.map_cons, List.map_nil]); first | done | rfl | (simp only [List.length_drop, List.length_take]; rfl)) ?_; (with_reducible refine (cred_Become.calls kj3 (wrap64 (Int.tmod (IntKind.u64.wrap (a0)) 65536)) (wrap64 (Int.tmod (IntKind.u64.wrap (a1)) 65536)) t130 none _ A30.out).mono ?_); rintro e w' ⟨rfl, ⟨nd, rfl⟩⟩; refine ⟨_, rfl, ?_⟩; (try simp only [errW_none, errW_some])))
            (try (rw [drewN_self wc]; generalize hq_ : World.drewN wc _ = wc; have n0_ : Aside0 (Below w.heap.size w wc) := ⟨by rw [← hq_]; exact (by repeat (first | (with_reducible first | exact HB.out | apply below_alloc | apply pw_below_drewN | apply below_drew1) | exact HB.out | (with_reducible exact Below.refl _ _)))⟩; clear HB hq_; have HB := n0_; clear n0_))
            have n0_ := Aside0.mk (below_drew1 HB.out)
            clear HB
            have HB := n0_
            clear n0_
            refine start_ (n := 19) (S := fun w' => True) (ds := []) #[false, false, false, false, false, false, false, false, false, false, false, false, false, false, false, false, false, false, false] (by kernel_rfl) rfl rfl trivial (fun hHeld => ?_); refine with_tabW halterlaw22_CredLaws.tab5 halterlaw22_CredLaws.bits5 (fun HT_ HW_ => ?_)
            generalize wc.drew = w38 at HB hHeld ⊢
            refine pure_ (i := 0) (N := some 63) (v := ?_) (a' := ?_) #[true, false, false, false, false, false, false, false, false, false, false, false, false, false, false, false, false, false, false] rfl rfl (any_of HT_.out (by kernel_rfl)) (fun _ _ _ h => h) (Or.inl ⟨by rfl, ?_⟩) ?_ ?_
            rotate_left
            · intro w'
              go_simp
              with_reducible rfl
            rotate_left
            · simp only [Act.put, List.setIfInBounds_toArray, List.set_cons_zero, List.set_cons_succ, i64_w, i32_w]
              rfl
            refine pure_ (i := 1) (N := some 64) (v := ?_) (a' := ?_) #[true, true, false, false, false, false, false, false, false, false, false, false, false, false, false, false, false, false, false] rfl rfl (any_of HT_.out (by kernel_rfl)) (fun _ _ _ h => h) (Or.inl ⟨by rfl, ?_⟩) ?_ ?_
            rotate_left
            · intro w'
              go_simp
              with_reducible rfl
            rotate_left
            · simp only [Act.put, List.setIfInBounds_toArray, List.set_cons_zero, List.set_cons_succ, i64_w, i32_w]
              rfl
            refine pure_ (i := 2) (N := some 65) (v := ?_) (a' := ?_) #[true, true, true, false, false, false, false, false, false, false, false, false, false, false, false, false, false, false, false] rfl rfl (any_of HT_.out (by kernel_rfl)) (fun _ _ _ h => h) (Or.inl ⟨by rfl, ?_⟩) ?_ ?_
            rotate_left
            · intro w'
              go_simp
              with_reducible rfl
            rotate_left
            · simp only [Act.put, List.setIfInBounds_toArray, List.set_cons_zero, List.set_cons_succ, i64_w, i32_w]
              rfl
            refine pure_ (i := 3) (N := some 66) (v := ?_) (a' := ?_) #[true, true, true, true, false, false, false, false, false, false, false, false, false, false, false, false, false, false, false] rfl rfl (any_of HT_.out (by kernel_rfl)) (fun _ _ _ h => h) (Or.inl ⟨by rfl, ?_⟩) ?_ ?_
            rotate_left
            · intro w'
              go_simp
              with_reducible rfl
            rotate_left
            · simp only [Act.put, List.setIfInBounds_toArray, List.set_cons_zero, List.set_cons_succ, i64_w, i32_w]
              rfl
            refine one_ (i := 4) (N := some 67) #[true, true, true, true, true, false, false, false, false, false, false, false, false, false, false, false, false, false, false] rfl rfl (one_of HT_.out (by kernel_rfl)) (by decide) (fun K hK => ?_)
            refine goes_ Tryd.func9 (by kernel_rfl) rfl #[.int .i64 (wrap64 (Int.tmod (IntKind.u64.wrap (a0)) 65536)), .int .i64 (wrap64 (Int.tmod (IntKind.u64.wrap (a1)) 65536))] (by rfl) rfl rfl (by (try simp only [List.map_toArray, List.map_cons, List.map_nil]); first | done | rfl | (simp only [List.length_drop, List.length_take]; rfl)) ?_
            with_reducible refine (cred_May.calls (wrap64 (Int.tmod (IntKind.u64.wrap (a0)) 65536)) (wrap64 (Int.tmod (IntKind.u64.wrap (a1)) 65536)) t133 _ A31.out).mono ?_
            rintro e w' ⟨rfl, ⟨nd, rfl⟩⟩
            refine ⟨_, rfl, ?_⟩
            refine hK.out _ _ trivial (fun hHeld => ?_)
            clear hK K
            refine norm_ (a' := ?_) ?_ ?_
            rotate_left
            · show Act.put _ (some 67) _ = _
              simp only [Act.put, List.setIfInBounds_toArray, List.set_cons_zero, List.set_cons_succ, i64_w, i32_w]
              rfl
            refine pure_ (i := 5) (N := some 68) (v := ?_) (a' := ?_) #[true, true, true, true, true, true, false, false, false, false, false, false, false, false, false, false, false, false, false] rfl rfl (any_of HT_.out (by kernel_rfl)) (fun _ _ _ h => h) (Or.inl ⟨by rfl, ?_⟩) ?_ ?_
            rotate_left
            · intro w'
              go_simp
              with_reducible rfl
            rotate_left
            · simp only [Act.put, List.setIfInBounds_toArray, List.set_cons_zero, List.set_cons_succ, i64_w, i32_w]
              rfl
            refine pure_ (i := 6) (N := some 69) (v := ?_) (a' := ?_) #[true, true, true, true, true, true, true, false, false, false, false, false, false, false, false, false, false, false, false] rfl rfl (any_of HT_.out (by kernel_rfl)) (fun _ _ _ h => h) (Or.inl ⟨by rfl, ?_⟩) ?_ ?_
            rotate_left
            · intro w'
              go_simp
              with_reducible rfl
            rotate_left
            · simp only [Act.put, List.setIfInBounds_toArray, List.set_cons_zero, List.set_cons_succ, i64_w, i32_w]
              rfl
            refine pure_ (i := 7) (N := some 70) (v := undef) (a' := ?_) #[true, true, true, true, true, true, true, true, false, false, false, false, false, false, false, false, false, false, false] rfl rfl (any_of HT_.out (by kernel_rfl)) (fun _ _ _ h => h) (Or.inr ⟨by rfl, rfl⟩) ?_ ?_
            rotate_left
            · simp only [Act.put, List.setIfInBounds_toArray, List.set_cons_zero, List.set_cons_succ, i64_w, i32_w]
              rfl
            refine pure_ (i := 8) (N := some 71) (v := undef) (a' := ?_) #[true, true, true, true, true, true, true, true, true, false, false, false, false, false, false, false, false, false, false] rfl rfl (any_of HT_.out (by kernel_rfl)) (fun _ _ _ h => h) (Or.inr ⟨by rfl, rfl⟩) ?_ ?_
            rotate_left
            · simp only [Act.put, List.setIfInBounds_toArray, List.set_cons_zero, List.set_cons_succ, i64_w, i32_w]
              rfl
            refine pure_ (i := 9) (N := some 72) (v := undef) (a' := ?_) #[true, true, true, true, true, true, true, true, true, true, false, false, false, false, false, false, false, false, false] rfl rfl (any_of HT_.out (by kernel_rfl)) (fun _ _ _ h => h) (Or.inr ⟨by rfl, rfl⟩) ?_ ?_
            rotate_left
            · simp only [Act.put, List.setIfInBounds_toArray, List.set_cons_zero, List.set_cons_succ, i64_w, i32_w]
              rfl
            refine pure_ (i := 10) (N := some 73) (v := undef) (a' := ?_) #[true, true, true, true, true, true, true, true, true, true, true, false, false, false, false, false, false, false, false] rfl rfl (any_of HT_.out (by kernel_rfl)) (fun _ _ _ h => h) (Or.inr ⟨by rfl, rfl⟩) ?_ ?_
            rotate_left
            · simp only [Act.put, List.setIfInBounds_toArray, List.set_cons_zero, List.set_cons_succ, i64_w, i32_w]
              rfl
            refine pure_ (i := 11) (N := some 74) (v := undef) (a' := ?_) #[true, true, true, true, true, true, true, true, true, true, true, true, false, false, false, false, false, false, false] rfl rfl (any_of HT_.out (by kernel_rfl)) (fun _ _ _ h => h) (Or.inr ⟨by rfl, rfl⟩) ?_ ?_
            rotate_left
            · simp only [Act.put, List.setIfInBounds_toArray, List.set_cons_zero, List.set_cons_succ, i64_w, i32_w]
              rfl
            refine pure_ (i := 12) (N := some 75) (v := undef) (a' := ?_) #[true, true, true, true, true, true, true, true, true, true, true, true, true, false, false, false, false, false, false] rfl rfl (any_of HT_.out (by kernel_rfl)) (fun _ _ _ h => h) (Or.inr ⟨by rfl, rfl⟩) ?_ ?_
            rotate_left
            · simp only [Act.put, List.setIfInBounds_toArray, List.set_cons_zero, List.set_cons_succ, i64_w, i32_w]
              rfl
            refine pure_ (i := 13) (N := some 76) (v := undef) (a' := ?_) #[true, true, true, true, true, true, true, true, true, true, true, true, true, true, false, false, false, false, false] rfl rfl (any_of HT_.out (by kernel_rfl)) (fun _ _ _ h => h) (Or.inr ⟨by rfl, rfl⟩) ?_ ?_
            rotate_left
            · simp only [Act.put, List.setIfInBounds_toArray, List.set_cons_zero, List.set_cons_succ, i64_w, i32_w]
              rfl
            refine pure_ (i := 14) (N := some 77) (v := ?_) (a' := ?_) #[true, true, true, true, true, true, true, true, true, true, true, true, true, true, true, false, false, false, false] rfl rfl (any_of HT_.out (by kernel_rfl)) (fun _ _ _ h => h) (Or.inl ⟨by rfl, ?_⟩) ?_ ?_
            rotate_left
            · intro w'
              go_simp
              with_reducible rfl
            rotate_left
            · simp only [Act.put, List.setIfInBounds_toArray, List.set_cons_zero, List.set_cons_succ, i64_w, i32_w]
              rfl
            refine pure_ (i := 15) (N := some 78) (v := ?_) (a' := ?_) #[true, true, true, true, true, true, true, true, true, true, true, true, true, true, true, true, false, false, false] rfl rfl (any_of HT_.out (by kernel_rfl)) (fun _ _ _ h => h) (Or.inl ⟨by rfl, ?_⟩) ?_ ?_
            rotate_left
            · intro w'
              go_simp
              with_reducible rfl
            rotate_left
            · simp only [Act.put, List.setIfInBounds_toArray, List.set_cons_zero, List.set_cons_succ, i64_w, i32_w]
              rfl
            refine pure_ (i := 16) (N := some 79) (v := undef) (a' := ?_) #[true, true, true, true, true, true, true, true, true, true, true, true, true, true, true, true, true, false, false] rfl rfl (any_of HT_.out (by kernel_rfl)) (fun _ _ _ h => h) (Or.inr ⟨by rfl, rfl⟩) ?_ ?_
            rotate_left
            · simp only [Act.put, List.setIfInBounds_toArray, List.set_cons_zero, List.set_cons_succ, i64_w, i32_w]
              rfl
            refine pure_ (i := 17) (N := some 80) (v := ?_) (a' := ?_) #[true, true, true, true, true, true, true, true, true, true, true, true, true, true, true, true, true, true, false] rfl rfl (any_of HT_.out (by kernel_rfl)) (fun _ _ _ h => h) (Or.inl ⟨by rfl, ?_⟩) ?_ ?_
            rotate_left
            · intro w'
              go_simp
              with_reducible rfl
            rotate_left
            · simp only [Act.put, List.setIfInBounds_toArray, List.set_cons_zero, List.set_cons_succ, i64_w, i32_w]
              rfl
            refine pure_ (i := 18) (N := some 6) (v := ?_) (a' := ?_) #[true, true, true, true, true, true, true, true, true, true, true, true, true, true, true, true, true, true, true] rfl rfl (any_of HT_.out (by kernel_rfl)) (fun _ _ _ h => h) (Or.inl ⟨by rfl, ?_⟩) ?_ ?_
            rotate_left
            · intro w'
              go_simp
              with_reducible rfl
            rotate_left
            · simp only [Act.put, List.setIfInBounds_toArray, List.set_cons_zero, List.set_cons_succ, i64_w, i32_w]
              rfl
            refine done_ (done_of HT_.out (by kernel_rfl)) ?_
            try go_wp2
            go_ret
            exact ⟨by first | rfl | (simp [errW_none, errW_some] <;> rfl) | (simp [*, errW_none, errW_some] <;> rfl), by repeat (first | (with_reducible first | exact HB.out | apply below_alloc | apply pw_below_drewN | apply below_drew1) | exact HB.out | (with_reducible exact Below.refl _ _))⟩
        · have H1 : ((cred_May.f (wrap64 (Int.tmod (IntKind.u64.wrap (a0)) 65536)) (wrap64 (Int.tmod (IntKind.u64.wrap (a1)) 65536))).bind fun t135 => (if (false == t135) = true then ((halterlaw22_sure.f kj3).bind fun t136 => (some t136)) else (some false))) = some r := by rw [if_neg (show ¬ (some q132).isNone = true by simp)] at H; exact H
          clear H
          have H := H1
          clear H1
          try simp only [errW_none, errW_some]
          replace H := Option.bind_eq_some_iff.mp H
          obtain ⟨t135, A390, H⟩ := H
          replace H : (if (false == t135) = true then ((halterlaw22_sure.f kj3).bind fun t136 => (some t136)) else (some false)) = some r := H
          have A39 := Aside0.mk A390
          clear A390
          by_cases c40 : (false == t135) = true
          · rw [if_pos c40] at H
            have c40b0 : (false == t135) = true := c40
            (try (have c40b1 : decide (false = t135) = true := by simpa using c40))
            (try (have c40b2 : (false == t135) = true := by simpa using c40))
            clear c40
            replace H := Option.bind_eq_some_iff.mp H
            obtain ⟨t136, A410, H⟩ := H
            replace H : (some t136) = some r := H
            have A41 := Aside0.mk A410
            clear A410
            obtain rfl := Option.some.inj H
            try go_wp2_with (first | ((with_reducible refine gate_callee (f := 5) rfl ?_); refine goesL_ (some 60) rfl rfl Tryd.func5 (by kernel_rfl) rfl #[.int .i64 (wrap64 (Int.tmod (IntKind.u64.wrap (a0)) 65536)), .int .i64 (wrap64 (Int.tmod (IntKind.u64.wrap (a1)) 65536))] rfl (by (try simp only [List.map_toArray, List.map_cons, List.map_nil]); first | done | rfl | (simp only [List.length_drop, List.length_take]; rfl)) ?_; (with_reducible refine (cred_Become.calls kj3 (wrap64 (Int.tmod (IntKind.u64.wrap (a0)) 65536)) (wrap64 (Int.tmod (IntKind.u64.wrap (a1)) 65536)) t130 (some q132) _ A30.out).mono ?_); rintro e w' ⟨rfl, ⟨nd, rfl⟩⟩; refine ⟨_, rfl, ?_⟩; (try simp only [errW_none, errW_some])))
            (try (rw [drewN_self wc]; generalize hq_ : World.drewN wc _ = wc; have n0_ : Aside0 (Below w.heap.size w wc) := ⟨by rw [← hq_]; exact (by repeat (first | (with_reducible first | exact HB.out | apply below_alloc | apply pw_below_drewN | apply below_drew1) | exact HB.out | (with_reducible exact Below.refl _ _)))⟩; clear HB hq_; have HB := n0_; clear n0_))
            have n0_ := Aside0.mk (below_drew1 HB.out)
            clear HB
            have HB := n0_
            clear n0_
            refine start_ (n := 19) (S := fun w' => True) (ds := []) #[false, false, false, false, false, false, false, false, false, false, false, false, false, false, false, false, false, false, false] (by kernel_rfl) rfl rfl trivial (fun hHeld => ?_); refine with_tabW halterlaw22_CredLaws.tab5 halterlaw22_CredLaws.bits5 (fun HT_ HW_ => ?_)
            generalize wc.drew = w42 at HB hHeld ⊢
            refine pure_ (i := 0) (N := some 63) (v := ?_) (a' := ?_) #[true, false, false, false, false, false, false, false, false, false, false, false, false, false, false, false, false, false, false] rfl rfl (any_of HT_.out (by kernel_rfl)) (fun _ _ _ h => h) (Or.inl ⟨by rfl, ?_⟩) ?_ ?_
            rotate_left
            · intro w'
              go_simp
              with_reducible rfl
            rotate_left
            · simp only [Act.put, List.setIfInBounds_toArray, List.set_cons_zero, List.set_cons_succ, i64_w, i32_w]
              rfl
            refine pure_ (i := 1) (N := some 64) (v := ?_) (a' := ?_) #[true, true, false, false, false, false, false, false, false, false, false, false, false, false, false, false, false, false, false] rfl rfl (any_of HT_.out (by kernel_rfl)) (fun _ _ _ h => h) (Or.inl ⟨by rfl, ?_⟩) ?_ ?_
            rotate_left
            · intro w'
              go_simp
              with_reducible rfl
            rotate_left
            · simp only [Act.put, List.setIfInBounds_toArray, List.set_cons_zero, List.set_cons_succ, i64_w, i32_w]
              rfl
            refine pure_ (i := 2) (N := some 65) (v := ?_) (a' := ?_) #[true, true, true, false, false, false, false, false, false, false, false, false, false, false, false, false, false, false, false] rfl rfl (any_of HT_.out (by kernel_rfl)) (fun _ _ _ h => h) (Or.inl ⟨by rfl, ?_⟩) ?_ ?_
            rotate_left
            · intro w'
              go_simp
              with_reducible rfl
            rotate_left
            · simp only [Act.put, List.setIfInBounds_toArray, List.set_cons_zero, List.set_cons_succ, i64_w, i32_w]
              rfl
            refine pure_ (i := 3) (N := some 66) (v := ?_) (a' := ?_) #[true, true, true, true, false, false, false, false, false, false, false, false, false, false, false, false, false, false, false] rfl rfl (any_of HT_.out (by kernel_rfl)) (fun _ _ _ h => h) (Or.inl ⟨by rfl, ?_⟩) ?_ ?_
            rotate_left
            · intro w'
              go_simp
              with_reducible rfl
            rotate_left
            · simp only [Act.put, List.setIfInBounds_toArray, List.set_cons_zero, List.set_cons_succ, i64_w, i32_w]
              rfl
            refine one_ (i := 4) (N := some 67) #[true, true, true, true, true, false, false, false, false, false, false, false, false, false, false, false, false, false, false] rfl rfl (one_of HT_.out (by kernel_rfl)) (by decide) (fun K hK => ?_)
            refine goes_ Tryd.func9 (by kernel_rfl) rfl #[.int .i64 (wrap64 (Int.tmod (IntKind.u64.wrap (a0)) 65536)), .int .i64 (wrap64 (Int.tmod (IntKind.u64.wrap (a1)) 65536))] (by rfl) rfl rfl (by (try simp only [List.map_toArray, List.map_cons, List.map_nil]); first | done | rfl | (simp only [List.length_drop, List.length_take]; rfl)) ?_
            with_reducible refine (cred_May.calls (wrap64 (Int.tmod (IntKind.u64.wrap (a0)) 65536)) (wrap64 (Int.tmod (IntKind.u64.wrap (a1)) 65536)) t135 _ A39.out).mono ?_
            rintro e w' ⟨rfl, ⟨nd, rfl⟩⟩
            refine ⟨_, rfl, ?_⟩
            refine hK.out _ _ trivial (fun hHeld => ?_)
            clear hK K
            refine norm_ (a' := ?_) ?_ ?_
            rotate_left
            · show Act.put _ (some 67) _ = _
              simp only [Act.put, List.setIfInBounds_toArray, List.set_cons_zero, List.set_cons_succ, i64_w, i32_w]
              rfl
            refine pure_ (i := 5) (N := some 68) (v := ?_) (a' := ?_) #[true, true, true, true, true, true, false, false, false, false, false, false, false, false, false, false, false, false, false] rfl rfl (any_of HT_.out (by kernel_rfl)) (fun _ _ _ h => h) (Or.inl ⟨by rfl, ?_⟩) ?_ ?_
            rotate_left
            · intro w'
              go_simp
              with_reducible rfl
            rotate_left
            · simp only [Act.put, List.setIfInBounds_toArray, List.set_cons_zero, List.set_cons_succ, i64_w, i32_w]
              rfl
            refine pure_ (i := 6) (N := some 69) (v := ?_) (a' := ?_) #[true, true, true, true, true, true, true, false, false, false, false, false, false, false, false, false, false, false, false] rfl rfl (any_of HT_.out (by kernel_rfl)) (fun _ _ _ h => h) (Or.inl ⟨by rfl, ?_⟩) ?_ ?_
            rotate_left
            · intro w'
              go_simp
              with_reducible rfl
            rotate_left
            · simp only [Act.put, List.setIfInBounds_toArray, List.set_cons_zero, List.set_cons_succ, i64_w, i32_w]
              rfl
            refine pure_ (i := 7) (N := some 70) (v := ?_) (a' := ?_) #[true, true, true, true, true, true, true, true, false, false, false, false, false, false, false, false, false, false, false] rfl rfl (any_of HT_.out (by kernel_rfl)) (fun _ _ _ h => h) (Or.inl ⟨by rfl, ?_⟩) ?_ ?_
            rotate_left
            · intro w'
              go_simp
              with_reducible rfl
            rotate_left
            · simp only [Act.put, List.setIfInBounds_toArray, List.set_cons_zero, List.set_cons_succ, i64_w, i32_w]
              rfl
            refine pure_ (i := 8) (N := some 71) (v := ?_) (a' := ?_) #[true, true, true, true, true, true, true, true, true, false, false, false, false, false, false, false, false, false, false] rfl rfl (any_of HT_.out (by kernel_rfl)) (fun _ _ _ h => h) (Or.inl ⟨by rfl, ?_⟩) ?_ ?_
            rotate_left
            · intro w'
              go_simp
              with_reducible rfl
            rotate_left
            · simp only [Act.put, List.setIfInBounds_toArray, List.set_cons_zero, List.set_cons_succ, i64_w, i32_w]
              rfl
            refine pure_ (i := 9) (N := some 72) (v := ?_) (a' := ?_) #[true, true, true, true, true, true, true, true, true, true, false, false, false, false, false, false, false, false, false] rfl rfl (any_of HT_.out (by kernel_rfl)) (fun _ _ _ h => h) (Or.inl ⟨by rfl, ?_⟩) ?_ ?_
            rotate_left
            · intro w'
              go_simp
              with_reducible rfl
            rotate_left
            · simp only [Act.put, List.setIfInBounds_toArray, List.set_cons_zero, List.set_cons_succ, i64_w, i32_w]
              rfl
            refine pure_ (i := 10) (N := some 73) (v := undef) (a' := ?_) #[true, true, true, true, true, true, true, true, true, true, true, false, false, false, false, false, false, false, false] rfl rfl (any_of HT_.out (by kernel_rfl)) (fun _ _ _ h => h) (Or.inr ⟨by rfl, rfl⟩) ?_ ?_
            rotate_left
            · simp only [Act.put, List.setIfInBounds_toArray, List.set_cons_zero, List.set_cons_succ, i64_w, i32_w]
              rfl
            refine pure_ (i := 11) (N := some 74) (v := undef) (a' := ?_) #[true, true, true, true, true, true, true, true, true, true, true, true, false, false, false, false, false, false, false] rfl rfl (any_of HT_.out (by kernel_rfl)) (fun _ _ _ h => h) (Or.inr ⟨by rfl, rfl⟩) ?_ ?_
            rotate_left
            · simp only [Act.put, List.setIfInBounds_toArray, List.set_cons_zero, List.set_cons_succ, i64_w, i32_w]
              rfl
            refine pure_ (i := 12) (N := some 75) (v := undef) (a' := ?_) #[true, true, true, true, true, true, true, true, true, true, true, true, true, false, false, false, false, false, false] rfl rfl (any_of HT_.out (by kernel_rfl)) (fun _ _ _ h => h) (Or.inr ⟨by rfl, rfl⟩) ?_ ?_
            rotate_left
            · simp only [Act.put, List.setIfInBounds_toArray, List.set_cons_zero, List.set_cons_succ, i64_w, i32_w]
              rfl
            refine pure_ (i := 13) (N := some 76) (v := ?_) (a' := ?_) #[true, true, true, true, true, true, true, true, true, true, true, true, true, true, false, false, false, false, false] rfl rfl (any_of HT_.out (by kernel_rfl)) (fun _ _ _ h => h) (Or.inl ⟨by rfl, ?_⟩) ?_ ?_
            rotate_left
            · intro w'
              go_simp
              with_reducible rfl
            rotate_left
            · simp only [Act.put, List.setIfInBounds_toArray, List.set_cons_zero, List.set_cons_succ, i64_w, i32_w]
              rfl
            refine pure_ (i := 14) (N := some 77) (v := ?_) (a' := ?_) #[true, true, true, true, true, true, true, true, true, true, true, true, true, true, true, false, false, false, false] rfl rfl (any_of HT_.out (by kernel_rfl)) (fun _ _ _ h => h) (Or.inl ⟨by rfl, ?_⟩) ?_ ?_
            rotate_left
            · intro w'
              go_simp
              with_reducible rfl
            rotate_left
            · simp only [Act.put, List.setIfInBounds_toArray, List.set_cons_zero, List.set_cons_succ, i64_w, i32_w]
              rfl
            refine pure_ (i := 15) (N := some 78) (v := ?_) (a' := ?_) #[true, true, true, true, true, true, true, true, true, true, true, true, true, true, true, true, false, false, false] rfl rfl (any_of HT_.out (by kernel_rfl)) (fun _ _ _ h => h) (Or.inl ⟨by rfl, ?_⟩) ?_ ?_
            rotate_left
            · intro w'
              go_simp
              with_reducible rfl
            rotate_left
            · simp only [Act.put, List.setIfInBounds_toArray, List.set_cons_zero, List.set_cons_succ, i64_w, i32_w]
              rfl
            refine one_ (i := 16) (N := some 79) #[true, true, true, true, true, true, true, true, true, true, true, true, true, true, true, true, true, false, false] rfl rfl (one_of HT_.out (by kernel_rfl)) (by decide) (fun K hK => ?_)
            refine goes_ Tryd.func11 (by kernel_rfl) rfl #[] (by rfl) rfl rfl (by (try simp only [List.map_toArray, List.map_cons, List.map_nil]); first | done | rfl | (simp only [List.length_drop, List.length_take]; rfl)) ?_
            with_reducible refine (halterlaw22_sure.calls kj3  t136 _ ?side1 A41.out).mono ?_
            (case side1 => refine GC.below hGC ?_; repeat (first | (with_reducible first | exact HB.out | apply below_alloc | apply pw_below_drewN | apply below_drew1) | exact HB.out | (with_reducible exact Below.refl _ _)))
            rintro e w43 ⟨rfl, hb⟩
            refine ⟨_, rfl, ?_⟩
            have n0_ := Aside0.mk (below_step (by repeat (first | (with_reducible first | exact HB.out | apply below_alloc | apply pw_below_drewN | apply below_drew1) | exact HB.out | (with_reducible exact Below.refl _ _))) hb)
            clear HB
            have HB := n0_
            clear n0_
            (try clear hb)
            (try clear hb2)
            (try clear hk)
            (try clear hi)
            refine hK.out _ _ trivial (fun hHeld => ?_)
            clear hK K
            refine norm_ (a' := ?_) ?_ ?_
            rotate_left
            · show Act.put _ (some 79) _ = _
              simp only [Act.put, List.setIfInBounds_toArray, List.set_cons_zero, List.set_cons_succ, i64_w, i32_w]
              rfl
            refine pure_ (i := 17) (N := some 80) (v := ?_) (a' := ?_) #[true, true, true, true, true, true, true, true, true, true, true, true, true, true, true, true, true, true, false] rfl rfl (any_of HT_.out (by kernel_rfl)) (fun _ _ _ h => h) (Or.inl ⟨by rfl, ?_⟩) ?_ ?_
            rotate_left
            · intro w'
              go_simp
              with_reducible rfl
            rotate_left
            · simp only [Act.put, List.setIfInBounds_toArray, List.set_cons_zero, List.set_cons_succ, i64_w, i32_w]
              rfl
            refine pure_ (i := 18) (N := some 6) (v := ?_) (a' := ?_) #[true, true, true, true, true, true, true, true, true, true, true, true, true, true, true, true, true, true, true] rfl rfl (any_of HT_.out (by kernel_rfl)) (fun _ _ _ h => h) (Or.inl ⟨by rfl, ?_⟩) ?_ ?_
            rotate_left
            · intro w'
              go_simp
              with_reducible rfl
            rotate_left
            · simp only [Act.put, List.setIfInBounds_toArray, List.set_cons_zero, List.set_cons_succ, i64_w, i32_w]
              rfl
            refine done_ (done_of HT_.out (by kernel_rfl)) ?_
            try go_wp2
            go_ret
            exact ⟨by first | rfl | (simp [errW_none, errW_some] <;> rfl) | (simp [*, errW_none, errW_some] <;> rfl), by repeat (first | (with_reducible first | exact HB.out | apply below_alloc | apply pw_below_drewN | apply below_drew1) | exact HB.out | (with_reducible exact Below.refl _ _))⟩
          · rw [if_neg c40] at H
            have c40b0 : (false == t135) = false := by simpa using c40
            (try (have c40b1 : decide (false = t135) = false := by simpa using c40))
            (try (have c40b2 : (false == t135) = false := by simpa using c40))
            (try (have c40b3 : ¬ (false = t135) := by simpa using c40))
            clear c40
            obtain rfl := Option.some.inj H
            try go_wp2_with (first | ((with_reducible refine gate_callee (f := 5) rfl ?_); refine goesL_ (some 60) rfl rfl Tryd.func5 (by kernel_rfl) rfl #[.int .i64 (wrap64 (Int.tmod (IntKind.u64.wrap (a0)) 65536)), .int .i64 (wrap64 (Int.tmod (IntKind.u64.wrap (a1)) 65536))] rfl (by (try simp only [List.map_toArray, List.map_cons, List.map_nil]); first | done | rfl | (simp only [List.length_drop, List.length_take]; rfl)) ?_; (with_reducible refine (cred_Become.calls kj3 (wrap64 (Int.tmod (IntKind.u64.wrap (a0)) 65536)) (wrap64 (Int.tmod (IntKind.u64.wrap (a1)) 65536)) t130 (some q132) _ A30.out).mono ?_); rintro e w' ⟨rfl, ⟨nd, rfl⟩⟩; refine ⟨_, rfl, ?_⟩; (try simp only [errW_none, errW_some])))
            (try (rw [drewN_self wc]; generalize hq_ : World.drewN wc _ = wc; have n0_ : Aside0 (Below w.heap.size w wc) := ⟨by rw [← hq_]; exact (by repeat (first | (with_reducible first | exact HB.out | apply below_alloc | apply pw_below_drewN | apply below_drew1) | exact HB.out | (with_reducible exact Below.refl _ _)))⟩; clear HB hq_; have HB := n0_; clear n0_))
            have n0_ := Aside0.mk (below_drew1 HB.out)
            clear HB
            have HB := n0_
            clear n0_
            refine start_ (n := 19) (S := fun w' => True) (ds := []) #[false, false, false, false, false, false, false, false, false, false, false, false, false, false, false, false, false, false, false] (by kernel_rfl) rfl rfl trivial (fun hHeld => ?_); refine with_tabW halterlaw22_CredLaws.tab5 halterlaw22_CredLaws.bits5 (fun HT_ HW_ => ?_)
            generalize wc.drew = w44 at HB hHeld ⊢
            refine pure_ (i := 0) (N := some 63) (v := ?_) (a' := ?_) #[true, false, false, false, false, false, false, false, false, false, false, false, false, false, false, false, false, false, false] rfl rfl (any_of HT_.out (by kernel_rfl)) (fun _ _ _ h => h) (Or.inl ⟨by rfl, ?_⟩) ?_ ?_
            rotate_left
            · intro w'
              go_simp
              with_reducible rfl
            rotate_left
            · simp only [Act.put, List.setIfInBounds_toArray, List.set_cons_zero, List.set_cons_succ, i64_w, i32_w]
              rfl
            refine pure_ (i := 1) (N := some 64) (v := ?_) (a' := ?_) #[true, true, false, false, false, false, false, false, false, false, false, false, false, false, false, false, false, false, false] rfl rfl (any_of HT_.out (by kernel_rfl)) (fun _ _ _ h => h) (Or.inl ⟨by rfl, ?_⟩) ?_ ?_
            rotate_left
            · intro w'
              go_simp
              with_reducible rfl
            rotate_left
            · simp only [Act.put, List.setIfInBounds_toArray, List.set_cons_zero, List.set_cons_succ, i64_w, i32_w]
              rfl
            refine pure_ (i := 2) (N := some 65) (v := ?_) (a' := ?_) #[true, true, true, false, false, false, false, false, false, false, false, false, false, false, false, false, false, false, false] rfl rfl (any_of HT_.out (by kernel_rfl)) (fun _ _ _ h => h) (Or.inl ⟨by rfl, ?_⟩) ?_ ?_
            rotate_left
            · intro w'
              go_simp
              with_reducible rfl
            rotate_left
            · simp only [Act.put, List.setIfInBounds_toArray, List.set_cons_zero, List.set_cons_succ, i64_w, i32_w]
              rfl
            refine pure_ (i := 3) (N := some 66) (v := ?_) (a' := ?_) #[true, true, true, true, false, false, false, false, false, false, false, false, false, false, false, false, false, false, false] rfl rfl (any_of HT_.out (by kernel_rfl)) (fun _ _ _ h => h) (Or.inl ⟨by rfl, ?_⟩) ?_ ?_
            rotate_left
            · intro w'
              go_simp
              with_reducible rfl
            rotate_left
            · simp only [Act.put, List.setIfInBounds_toArray, List.set_cons_zero, List.set_cons_succ, i64_w, i32_w]
              rfl
            refine one_ (i := 4) (N := some 67) #[true, true, true, true, true, false, false, false, false, false, false, false, false, false, false, false, false, false, false] rfl rfl (one_of HT_.out (by kernel_rfl)) (by decide) (fun K hK => ?_)
            refine goes_ Tryd.func9 (by kernel_rfl) rfl #[.int .i64 (wrap64 (Int.tmod (IntKind.u64.wrap (a0)) 65536)), .int .i64 (wrap64 (Int.tmod (IntKind.u64.wrap (a1)) 65536))] (by rfl) rfl rfl (by (try simp only [List.map_toArray, List.map_cons, List.map_nil]); first | done | rfl | (simp only [List.length_drop, List.length_take]; rfl)) ?_
            with_reducible refine (cred_May.calls (wrap64 (Int.tmod (IntKind.u64.wrap (a0)) 65536)) (wrap64 (Int.tmod (IntKind.u64.wrap (a1)) 65536)) t135 _ A39.out).mono ?_
            rintro e w' ⟨rfl, ⟨nd, rfl⟩⟩
            refine ⟨_, rfl, ?_⟩
            refine hK.out _ _ trivial (fun hHeld => ?_)
            clear hK K
            refine norm_ (a' := ?_) ?_ ?_
            rotate_left
            · show Act.put _ (some 67) _ = _
              simp only [Act.put, List.setIfInBounds_toArray, List.set_cons_zero, List.set_cons_succ, i64_w, i32_w]
              rfl
            refine pure_ (i := 5) (N := some 68) (v := ?_) (a' := ?_) #[true, true, true, true, true, true, false, false, false, false, false, false, false, false, false, false, false, false, false] rfl rfl (any_of HT_.out (by kernel_rfl)) (fun _ _ _ h => h) (Or.inl ⟨by rfl, ?_⟩) ?_ ?_
            rotate_left
            · intro w'
              go_simp
              with_reducible rfl
            rotate_left
            · simp only [Act.put, List.setIfInBounds_toArray, List.set_cons_zero, List.set_cons_succ, i64_w, i32_w]
              rfl
            refine pure_ (i := 6) (N := some 69) (v := ?_) (a' := ?_) #[true, true, true, true, true, true, true, false, false, false, false, false, false, false, false, false, false, false, false] rfl rfl (any_of HT_.out (by kernel_rfl)) (fun _ _ _ h => h) (Or.inl ⟨by rfl, ?_⟩) ?_ ?_
            rotate_left
            · intro w'
              go_simp
              with_reducible rfl
            rotate_left
            · simp only [Act.put, List.setIfInBounds_toArray, List.set_cons_zero, List.set_cons_succ, i64_w, i32_w]
              rfl
            refine pure_ (i := 7) (N := some 70) (v := undef) (a' := ?_) #[true, true, true, true, true, true, true, true, false, false, false, false, false, false, false, false, false, false, false] rfl rfl (any_of HT_.out (by kernel_rfl)) (fun _ _ _ h => h) (Or.inr ⟨by rfl, rfl⟩) ?_ ?_
            rotate_left
            · simp only [Act.put, List.setIfInBounds_toArray, List.set_cons_zero, List.set_cons_succ, i64_w, i32_w]
              rfl
            refine pure_ (i := 8) (N := some 71) (v := undef) (a' := ?_) #[true, true, true, true, true, true, true, true, true, false, false, false, false, false, false, false, false, false, false] rfl rfl (any_of HT_.out (by kernel_rfl)) (fun _ _ _ h => h) (Or.inr ⟨by rfl, rfl⟩) ?_ ?_
            rotate_left
            · simp only [Act.put, List.setIfInBounds_toArray, List.set_cons_zero, List.set_cons_succ, i64_w, i32_w]
              rfl
            refine pure_ (i := 9) (N := some 72) (v := undef) (a' := ?_) #[true, true, true, true, true, true, true, true, true, true, false, false, false, false, false, false, false, false, false] rfl rfl (any_of HT_.out (by kernel_rfl)) (fun _ _ _ h => h) (Or.inr ⟨by rfl, rfl⟩) ?_ ?_
            rotate_left
            · simp only [Act.put, List.setIfInBounds_toArray, List.set_cons_zero, List.set_cons_succ, i64_w, i32_w]
              rfl
            refine pure_ (i := 10) (N := some 73) (v := undef) (a' := ?_) #[true, true, true, true, true, true, true, true, true, true, true, false, false, false, false, false, false, false, false] rfl rfl (any_of HT_.out (by kernel_rfl)) (fun _ _ _ h => h) (Or.inr ⟨by rfl, rfl⟩) ?_ ?_
            rotate_left
            · simp only [Act.put, List.setIfInBounds_toArray, List.set_cons_zero, List.set_cons_succ, i64_w, i32_w]
              rfl
            refine pure_ (i := 11) (N := some 74) (v := undef) (a' := ?_) #[true, true, true, true, true, true, true, true, true, true, true, true, false, false, false, false, false, false, false] rfl rfl (any_of HT_.out (by kernel_rfl)) (fun _ _ _ h => h) (Or.inr ⟨by rfl, rfl⟩) ?_ ?_
            rotate_left
            · simp only [Act.put, List.setIfInBounds_toArray, List.set_cons_zero, List.set_cons_succ, i64_w, i32_w]
              rfl
            refine pure_ (i := 12) (N := some 75) (v := undef) (a' := ?_) #[true, true, true, true, true, true, true, true, true, true, true, true, true, false, false, false, false, false, false] rfl rfl (any_of HT_.out (by kernel_rfl)) (fun _ _ _ h => h) (Or.inr ⟨by rfl, rfl⟩) ?_ ?_
            rotate_left
            · simp only [Act.put, List.setIfInBounds_toArray, List.set_cons_zero, List.set_cons_succ, i64_w, i32_w]
              rfl
            refine pure_ (i := 13) (N := some 76) (v := undef) (a' := ?_) #[true, true, true, true, true, true, true, true, true, true, true, true, true, true, false, false, false, false, false] rfl rfl (any_of HT_.out (by kernel_rfl)) (fun _ _ _ h => h) (Or.inr ⟨by rfl, rfl⟩) ?_ ?_
            rotate_left
            · simp only [Act.put, List.setIfInBounds_toArray, List.set_cons_zero, List.set_cons_succ, i64_w, i32_w]
              rfl
            refine pure_ (i := 14) (N := some 77) (v := ?_) (a' := ?_) #[true, true, true, true, true, true, true, true, true, true, true, true, true, true, true, false, false, false, false] rfl rfl (any_of HT_.out (by kernel_rfl)) (fun _ _ _ h => h) (Or.inl ⟨by rfl, ?_⟩) ?_ ?_
            rotate_left
            · intro w'
              go_simp
              with_reducible rfl
            rotate_left
            · simp only [Act.put, List.setIfInBounds_toArray, List.set_cons_zero, List.set_cons_succ, i64_w, i32_w]
              rfl
            refine pure_ (i := 15) (N := some 78) (v := ?_) (a' := ?_) #[true, true, true, true, true, true, true, true, true, true, true, true, true, true, true, true, false, false, false] rfl rfl (any_of HT_.out (by kernel_rfl)) (fun _ _ _ h => h) (Or.inl ⟨by rfl, ?_⟩) ?_ ?_
            rotate_left
            · intro w'
              go_simp
              with_reducible rfl
            rotate_left
            · simp only [Act.put, List.setIfInBounds_toArray, List.set_cons_zero, List.set_cons_succ, i64_w, i32_w]
              rfl
            refine pure_ (i := 16) (N := some 79) (v := undef) (a' := ?_) #[true, true, true, true, true, true, true, true, true, true, true, true, true, true, true, true, true, false, false] rfl rfl (any_of HT_.out (by kernel_rfl)) (fun _ _ _ h => h) (Or.inr ⟨by rfl, rfl⟩) ?_ ?_
            rotate_left
            · simp only [Act.put, List.setIfInBounds_toArray, List.set_cons_zero, List.set_cons_succ, i64_w, i32_w]
              rfl
            refine pure_ (i := 17) (N := some 80) (v := ?_) (a' := ?_) #[true, true, true, true, true, true, true, true, true, true, true, true, true, true, true, true, true, true, false] rfl rfl (any_of HT_.out (by kernel_rfl)) (fun _ _ _ h => h) (Or.inl ⟨by rfl, ?_⟩) ?_ ?_
            rotate_left
            · intro w'
              go_simp
              with_reducible rfl
            rotate_left
            · simp only [Act.put, List.setIfInBounds_toArray, List.set_cons_zero, List.set_cons_succ, i64_w, i32_w]
              rfl
            refine pure_ (i := 18) (N := some 6) (v := ?_) (a' := ?_) #[true, true, true, true, true, true, true, true, true, true, true, true, true, true, true, true, true, true, true] rfl rfl (any_of HT_.out (by kernel_rfl)) (fun _ _ _ h => h) (Or.inl ⟨by rfl, ?_⟩) ?_ ?_
            rotate_left
            · intro w'
              go_simp
              with_reducible rfl
            rotate_left
            · simp only [Act.put, List.setIfInBounds_toArray, List.set_cons_zero, List.set_cons_succ, i64_w, i32_w]
              rfl
            refine done_ (done_of HT_.out (by kernel_rfl)) ?_
            try go_wp2
            go_ret
            exact ⟨by first | rfl | (simp [errW_none, errW_some] <;> rfl) | (simp [*, errW_none, errW_some] <;> rfl), by repeat (first | (with_reducible first | exact HB.out | apply below_alloc | apply pw_below_drewN | apply below_drew1) | exact HB.out | (with_reducible exact Below.refl _ _))⟩

/-- THE ONE PURE STATEMENT of halterlaw22_CredLaws: yours. -/
def halterlaw22_CredLaws.Pure : Prop := ∀ (a0 : Int) (a1 : Int) (a2 : Int), (Lit.int .i64 a0).wf = true → (Lit.int .i64 a1).wf = true → (Lit.int .i64 a2).wf = true → ∃ k, halterlaw22_CredLaws.f k a0 a1 a2 = some true
theorem halterlaw22_CredLaws.walk (P : halterlaw22_CredLaws.Pure) (a0 : Int) (a1 : Int) (a2 : Int) (w : World) (w0 : (Lit.int .i64 a0).wf = true) (w1 : (Lit.int .i64 a1).wf = true) (w2 : (Lit.int .i64 a2).wf = true) (hGC : GC w) :
    Calls Tryd.prog 4 #[.int .i64 a0, .int .i64 a1, .int .i64 a2] w fun e w' => e = .returned (.bool true) ∧ Below w.heap.size w w' := by
  obtain ⟨k, h⟩ := P a0 a1 a2 w0 w1 w2
  refine (halterlaw22_CredLaws.calls k a0 a1 a2 true w hGC h).mono ?_
  rintro e w' ⟨rfl, hd⟩
  exact ⟨rfl, hd⟩

end Go.Proofs.YtblecfaecngikaaDoor.PCredLaws
