-- Laid by this session's own printer (pp.py in the repo's wip/pp).
import Derived.Test.YtccahdgnckilfaaDoorPPidsTurnx0
import Derived.Test.YtccahdgnckilfaaDoorPPidsTurnx1
namespace Go.Proofs.YtccahdgnckilfaaDoor.PPidsTurn
open Go.RowKit Go.Proofs.YtccahdgnckilfaaDoorW.PrintWords Go.Proofs.YtccahdgnckilfaaDoorW.PrintLast Go.Proofs.YtccahdgnckilfaaDoorW.PrintMore Go.Proofs.YtccahdgnckilfaaDoorX
attribute [local go_sem] max2_int min2_int max_two min_two max_three min_three max_four min_four   -- for this text's walks alone
set_option linter.unusedVariables false
set_option linter.unusedSimpArgs false
set_option linter.unnecessarySimpa false

/-! ### halterlaw23_PidsTurn: function 4 -/
mutual
def halterlaw23_PidsTurn.l0 : Nat → List Int → Int → Int → List Bool → Int → Int → Option (Bool)
  | 0, _, _, _, _, _, _ => none
  | k + 1, x0, x7, x8, x9, x10, x11 => if x11 < (x0.length : Int) then (if 0 ≤ x11 then (if (rd x0 x11) ≥ 2 then (if (rd x0 x11) ≤ x7 then (if 0 ≤ (rd x0 x11) then (if (rd x0 x11) < (x9.length : Int) then (if (rdOf false x9 (rd x0 x11) = true) then (halterlaw23_PidsTurn.l0 k x0 x7 x8 x9 x10 (wrap64 (x11 + 1))) else (halterlaw23_PidsTurn.l0 k x0 x7 x8 (x9.set ((rd x0 x11) : Int).toNat true) (wrap64 (x10 - 1)) (wrap64 (x11 + 1)))) else (none)) else (none)) else (halterlaw23_PidsTurn.l0 k x0 x7 x8 x9 x10 (wrap64 (x11 + 1)))) else (halterlaw23_PidsTurn.l0 k x0 x7 x8 x9 x10 (wrap64 (x11 + 1)))) else (none)) else (if 100 ≤ 281474976710656 then (halterlaw23_PidsTurn.l1 k x0 x7 x8 x9 x10 (List.replicate 100 false) 0) else (none))
def halterlaw23_PidsTurn.l1 : Nat → List Int → Int → Int → List Bool → Int → List Bool → Int → Option (Bool)
  | 0, _, _, _, _, _, _, _ => none
  | k + 1, x0, x7, x8, x9, x10, x12, x13 => if x13 < x10 then ((pids_Next.f k x0 x8 x7).bind fun bt139 => (if bt139.2.isNone = true then (if bt139.1 < 2 then (some false) else (if bt139.1 > x7 then (some false) else (if 0 ≤ bt139.1 then (if bt139.1 < (x9.length : Int) then (if rdOf false x9 bt139.1 = true then (some false) else (if bt139.1 < (x12.length : Int) then (if rdOf false x12 bt139.1 = true then (some false) else (halterlaw23_PidsTurn.l1 k x0 x7 bt139.1 x9 x10 (x12.set (bt139.1 : Int).toNat true) (wrap64 (x13 + 1)))) else (none))) else (none)) else (none)))) else (some false))) else ((pids_Next.f k x0 x8 x7).bind fun bt145 => (if bt145.2.isNone = true then (if (true == (decide (x10 > 0))) = true then ((halterlaw23_sure.f k).bind fun t148 => (some t148)) else (some false)) else (if (false == (decide (x10 > 0))) = true then ((halterlaw23_sure.f k).bind fun t149 => (some t149)) else (some false))))
end
def halterlaw23_PidsTurn.f (k : Nat) (l0 : List Int) (a1 : Int) (a2 : Int) : Option (Bool) := if (IntKind.u64.wrap (wrap64 (2 + (wrap64 (Int.tmod (IntKind.u64.wrap (a1)) 30))))) = 0 then (none) else (if (l0.length : Int) > 40 then ((halterlaw23_sure.f k).bind fun t126 => (some t126)) else (if 100 ≤ 281474976710656 then (halterlaw23_PidsTurn.l0 k l0 (wrap64 (2 + (wrap64 (Int.tmod (IntKind.u64.wrap (a1)) 30)))) (wrap64 (1 + (wrap64 (Int.tmod (IntKind.u64.wrap (a2)) (IntKind.u64.wrap (wrap64 (2 + (wrap64 (Int.tmod (IntKind.u64.wrap (a1)) 30))))))))) (List.replicate 100 false) (wrap64 ((wrap64 (2 + (wrap64 (Int.tmod (IntKind.u64.wrap (a1)) 30)))) - 1)) 0) else (none)))
theorem halterlaw23_PidsTurn.mono_l : ∀ k, (∀ y0 y1 y2 y3 y4 y5, LeO (halterlaw23_PidsTurn.l0 k y0 y1 y2 y3 y4 y5) (halterlaw23_PidsTurn.l0 (k + 1) y0 y1 y2 y3 y4 y5)) ∧ (∀ y0 y1 y2 y3 y4 y5 y6, LeO (halterlaw23_PidsTurn.l1 k y0 y1 y2 y3 y4 y5 y6) (halterlaw23_PidsTurn.l1 (k + 1) y0 y1 y2 y3 y4 y5 y6))
  | 0 => ⟨fun _ _ _ _ _ _ r h => by simp [halterlaw23_PidsTurn.l0] at h, fun _ _ _ _ _ _ _ r h => by simp [halterlaw23_PidsTurn.l1] at h⟩
  | k + 1 => by
    obtain ⟨ih0, ih1⟩ := halterlaw23_PidsTurn.mono_l k
    refine ⟨?_, ?_⟩
    · intro y0 y1 y2 y3 y4 y5
      unfold halterlaw23_PidsTurn.l0
      repeat' first
      | (with_reducible exact ih0 _ _ _ _ _ _)
      | (with_reducible exact ih1 _ _ _ _ _ _ _)
      | (with_reducible exact halterlaw23_sure.mono _)
      | (with_reducible exact pids_Next.mono _ _ _ _)
      | (with_reducible exact LeO.refl _)
      | (with_reducible exact LeO.none _)
      | (with_reducible refine LeO.ite ?_ ?_)
      | (with_reducible refine LeO.bind ?_ (fun _ => ?_))
      | exact ih0 _ _ _ _ _ _
      | exact ih1 _ _ _ _ _ _ _
      | exact halterlaw23_sure.mono _
      | exact pids_Next.mono _ _ _ _
      | exact LeO.none _
      | refine LeO.ite ?_ ?_
      | refine LeO.bind ?_ (fun _ => ?_)
    · intro y0 y1 y2 y3 y4 y5 y6
      unfold halterlaw23_PidsTurn.l1
      repeat' first
      | (with_reducible exact ih0 _ _ _ _ _ _)
      | (with_reducible exact ih1 _ _ _ _ _ _ _)
      | (with_reducible exact halterlaw23_sure.mono _)
      | (with_reducible exact pids_Next.mono _ _ _ _)
      | (with_reducible exact LeO.refl _)
      | (with_reducible exact LeO.none _)
      | (with_reducible refine LeO.ite ?_ ?_)
      | (with_reducible refine LeO.bind ?_ (fun _ => ?_))
      | exact ih0 _ _ _ _ _ _
      | exact ih1 _ _ _ _ _ _ _
      | exact halterlaw23_sure.mono _
      | exact pids_Next.mono _ _ _ _
      | exact LeO.none _
      | refine LeO.ite ?_ ?_
      | refine LeO.bind ?_ (fun _ => ?_)
theorem halterlaw23_PidsTurn.mono : ∀ a0 a1 a2 k, LeO (halterlaw23_PidsTurn.f k a0 a1 a2) (halterlaw23_PidsTurn.f (k + 1) a0 a1 a2) := by
  intro a0 a1 a2 k
  obtain ⟨ih0, ih1⟩ := halterlaw23_PidsTurn.mono_l k
  unfold halterlaw23_PidsTurn.f
  repeat' first
      | (with_reducible exact ih0 _ _ _ _ _ _)
      | (with_reducible exact ih1 _ _ _ _ _ _ _)
      | (with_reducible exact halterlaw23_sure.mono _)
      | (with_reducible exact pids_Next.mono _ _ _ _)
      | (with_reducible exact LeO.refl _)
      | (with_reducible exact LeO.none _)
      | (with_reducible refine LeO.ite ?_ ?_)
      | (with_reducible refine LeO.bind ?_ (fun _ => ?_))
      | exact ih0 _ _ _ _ _ _
      | exact ih1 _ _ _ _ _ _ _
      | exact halterlaw23_sure.mono _
      | exact pids_Next.mono _ _ _ _
      | exact LeO.none _
      | refine LeO.ite ?_ ?_
      | refine LeO.bind ?_ (fun _ => ?_)
set_option maxHeartbeats 8000000 in
set_option maxRecDepth 100000 in
theorem halterlaw23_PidsTurn.calls (k : Nat) (A0 : Option Addr) (c0 : Nat) (l0 : List Int) (a1 : Int) (a2 : Int) (r : Bool) (w : World) (hr0 : Kd.C (Kd.int .i64) w A0 l0.length l0) (hc0 : l0.length ≤ c0) (hGC : GC w) (h : halterlaw23_PidsTurn.f k l0 a1 a2 = some r) :
    Calls Tryd.prog 4 #[.slice A0 l0.length c0, .int .i64 a1, .int .i64 a2] w fun e w' => e = .returned (.bool r) ∧ Below w.heap.size w w' := by
  have hu25 := Tryd.underlying25
  have hu35 := Tryd.underlying35
  have HR0 := Aside0.mk hr0
  have HC0 := Aside0.mk hc0
  clear hr0 hc0
  have HB := Aside0.mk (Below.refl w.heap.size w)
  have H : (if (IntKind.u64.wrap (wrap64 (2 + (wrap64 (Int.tmod (IntKind.u64.wrap (a1)) 30))))) = 0 then (none) else (if (l0.length : Int) > 40 then ((halterlaw23_sure.f k).bind fun t126 => (some t126)) else (if 100 ≤ 281474976710656 then (halterlaw23_PidsTurn.l0 k l0 (wrap64 (2 + (wrap64 (Int.tmod (IntKind.u64.wrap (a1)) 30)))) (wrap64 (1 + (wrap64 (Int.tmod (IntKind.u64.wrap (a2)) (IntKind.u64.wrap (wrap64 (2 + (wrap64 (Int.tmod (IntKind.u64.wrap (a1)) 30))))))))) (List.replicate 100 false) (wrap64 ((wrap64 (2 + (wrap64 (Int.tmod (IntKind.u64.wrap (a1)) 30)))) - 1)) 0) else (none)))) = some r := h
  clear h
  by_cases c4 : (IntKind.u64.wrap (wrap64 (2 + (wrap64 (Int.tmod (IntKind.u64.wrap (a1)) 30))))) = 0
  · rw [if_pos c4] at H
    exact absurd H (by simp)
  · rw [if_neg c4] at H
    have c4b0 : ((IntKind.u64.wrap (wrap64 (2 + (wrap64 (Int.tmod (IntKind.u64.wrap (a1)) 30))))) == 0) = false := beq_eq_false_iff_ne.mpr c4
    have c4b1 : ((IntKind.u64.wrap (wrap64 (2 + (wrap64 (Int.tmod (IntKind.u64.wrap (a1)) 30))))) != 0) = true := bne_iff_ne.mpr c4
    by_cases c5 : (l0.length : Int) > 40
    · rw [if_pos c5] at H
      have c5b0 : decide (40 < (l0.length : Int)) = true := decide_eq_true c5
      have c5b1 : decide (40 < l0.length) = true := decide_eq_true (by omega)
      clear c5
      replace H := Option.bind_eq_some_iff.mp H
      obtain ⟨t126, A60, H⟩ := H
      replace H : (some t126) = some r := H
      have A6 := Aside0.mk A60
      clear A60
      obtain rfl := Option.some.inj H
      go_enter Tryd.func4, Tryd.ntmps4
      go_wp2_with (first | ((with_reducible refine gate_callee (f := 5) rfl ?_); refine goesL_ (some 33) rfl rfl Tryd.func5 (by kernel_rfl) rfl #[] rfl (by (try simp only [List.map_toArray, List.map_cons, List.map_nil]); first | done | rfl | (simp only [List.length_drop, List.length_take]; rfl)) ?_; (with_reducible refine (halterlaw23_sure.calls k  t126 _ ?side1 A6.out).mono ?_); (case side1 => refine GC.below hGC ?_; repeat (first | (with_reducible first | exact HB.out | apply below_alloc | apply pw_below_drewN | apply below_drew1) | exact HB.out | (with_reducible exact Below.refl _ _))); rintro e w7 ⟨rfl, hb⟩; refine ⟨_, rfl, ?_⟩; have n0_ := Aside0.mk (below_step (by repeat (first | (with_reducible first | exact HB.out | apply below_alloc | apply pw_below_drewN | apply below_drew1) | exact HB.out | (with_reducible exact Below.refl _ _))) hb); clear HB; have HB := n0_; clear n0_; (try clear hb); (try clear hb2); (try clear hk); (try clear hi)))
      go_ret
      exact ⟨by first | rfl | (simp [errW_none, errW_some] <;> rfl) | (simp [*, errW_none, errW_some] <;> rfl), by repeat (first | (with_reducible first | exact HB.out | apply below_alloc | apply pw_below_drewN | apply below_drew1) | exact HB.out | (with_reducible exact Below.refl _ _))⟩
    · rw [if_neg c5] at H
      have c5b0 : decide (40 < (l0.length : Int)) = false := decide_eq_false c5
      have c5b1 : decide (40 < l0.length) = false := decide_eq_false (by omega)
      clear c5
      by_cases c8 : 100 ≤ 281474976710656
      · rw [if_pos c8] at H
        have c8b0 := eq_true c8
        have c8b1 : decide (100 ≤ 281474976710656) = true := decide_eq_true c8
        clear c8
        obtain ⟨y127, hy127⟩ : ∃ y_ : List Bool, y_ = (List.replicate 100 false) := ⟨_, rfl⟩
        replace H : (halterlaw23_PidsTurn.l0 k l0 (wrap64 (2 + (wrap64 (Int.tmod (IntKind.u64.wrap (a1)) 30)))) (wrap64 (1 + (wrap64 (Int.tmod (IntKind.u64.wrap (a2)) (IntKind.u64.wrap (wrap64 (2 + (wrap64 (Int.tmod (IntKind.u64.wrap (a1)) 30))))))))) y127 (wrap64 ((wrap64 (2 + (wrap64 (Int.tmod (IntKind.u64.wrap (a1)) 30)))) - 1)) 0) = some r := by first | (rw [hy127]; with_reducible exact H) | (have H2_ := (Option.bind_some _ _).symm.trans H; rw [hy127]; with_reducible exact H2_) | (have H2_ := (Option.bind_some _ _).symm.trans H; with_reducible exact H2_) | with_reducible exact H | (rw [hy127]; exact H) | exact H
        have Ny127 := Aside0.mk hy127
        clear hy127
        have H' := Aside0.mk H
        clear H
        go_enter Tryd.func4, Tryd.ntmps4
        go_wp2_with (first | ((with_reducible refine gate_dst (N := 34) rfl ?_); refine Kd.R_make Kd.bool _ 4 rfl (N := 34) rfl 34 _ _ rfl 100 rfl rfl Tryd.underlying34 (.bool false) 1 info4 rfl (by decide) (by omega) false (ok := fun _ => True) (okp := fun _ => True) rfl (fun _ hk => hk) trivial (by omega) (by omega) (Below.refl _ _) (Nat.le_refl _) ?_; intro v128 w9 ho10 hb hg_ hnew_; clear hg_ hnew_; (first | rw [← Ny127.out] at ho10 | (simp only [Int.reduceToNat] at ho10; rw [← Ny127.out] at ho10)); have n0_ := Aside0.mk (Kd.R_lower ho10 (below_size (by repeat (first | (with_reducible first | exact HB.out | apply below_alloc | apply pw_below_drewN | apply below_drew1) | exact HB.out | (with_reducible exact Below.refl _ _))))); have n1_ := Aside0.mk (below_step (by repeat (first | (with_reducible first | exact HB.out | apply below_alloc | apply pw_below_drewN | apply below_drew1) | exact HB.out | (with_reducible exact Below.refl _ _))) hb); clear HB; have HO129 := n0_; have HB := n1_; clear n0_ n1_; clear hb ho10))
        go_loopg [10, 11] k (fun kq v10 v11 w' => ∃ (x9_1 : List Bool) (x10_1 : Int) (x11_1 : Int), v10 = .int .i64 x10_1 ∧ v11 = .int .i64 x11_1 ∧ Aside0 (halterlaw23_PidsTurn.l0 kq l0 (wrap64 (2 + (wrap64 (Int.tmod (IntKind.u64.wrap (a1)) 30)))) (wrap64 (1 + (wrap64 (Int.tmod (IntKind.u64.wrap (a2)) (IntKind.u64.wrap (wrap64 (2 + (wrap64 (Int.tmod (IntKind.u64.wrap (a1)) 30))))))))) x9_1 x10_1 x11_1 = some r) ∧ Aside0 (kq ≤ k) ∧ Aside0 (Kd.R Kd.bool 4 w' w.heap.size (fun _ => True) v128 x9_1) ∧ Aside0 (Below w.heap.size w w'))
        case atStart => exact ⟨(y127), (wrap64 ((wrap64 (2 + (wrap64 (Int.tmod (IntKind.u64.wrap (a1)) 30)))) - 1)), (0), (by first | rfl | (simp; done) | (simp [*]; done)), (by first | rfl | (simp; done) | (simp [*]; done)), H', ⟨Nat.le_refl _⟩, ⟨by (with_reducible repeat (first | apply Kd.R_alloc | apply Kd.R_drewN | apply Kd.R_drew)); exact HO129.out⟩, ⟨by repeat (first | (with_reducible first | exact HB.out | apply below_alloc | apply pw_below_drewN | apply below_drew1) | exact HB.out | (with_reducible exact Below.refl _ _))⟩⟩
        case round =>
          clear H'
          try clear p2
          try clear c4
          try clear c4b0
          try clear c4b1
          try clear c5
          try clear c5b0
          try clear c5b1
          try clear p6
          try clear c8
          try clear c8b0
          try clear c8b1
          obtain ⟨x9_1, x10_1, x11_1, rfl, rfl, HA, HK1, HO_9, HB⟩ := hrel
          cases gk with
          | zero => exact absurd HA.out (by simp [halterlaw23_PidsTurn.l0])
          | succ k1 =>
            have H := HA.out
            clear HA
            simp only [halterlaw23_PidsTurn.l0] at H
            by_cases c11 : x11_1 < (l0.length : Int)
            · rw [if_pos c11] at H
              have c11b0 : decide (x11_1 < (l0.length : Int)) = true := decide_eq_true c11
              clear c11
              by_cases c12 : 0 ≤ x11_1
              · rw [if_pos c12] at H
                have c12b0 : decide (0 ≤ x11_1) = true := decide_eq_true c12
                clear c12
                by_cases c13 : (rd l0 x11_1) ≥ 2
                · rw [if_pos c13] at H
                  have c13b0 : decide (2 ≤ (rd l0 x11_1)) = true := decide_eq_true c13
                  clear c13
                  by_cases c14 : (rd l0 x11_1) ≤ (wrap64 (2 + (wrap64 (Int.tmod (IntKind.u64.wrap (a1)) 30))))
                  · rw [if_pos c14] at H
                    have c14b0 : decide ((rd l0 x11_1) ≤ (wrap64 (2 + (wrap64 (Int.tmod (IntKind.u64.wrap (a1)) 30))))) = true := decide_eq_true c14
                    clear c14
                    by_cases c15 : 0 ≤ (rd l0 x11_1)
                    · rw [if_pos c15] at H
                      have c15b0 : decide (0 ≤ (rd l0 x11_1)) = true := decide_eq_true c15
                      clear c15
                      by_cases c16 : (rd l0 x11_1) < (x9_1.length : Int)
                      · rw [if_pos c16] at H
                        have c16b0 : decide ((rd l0 x11_1) < (x9_1.length : Int)) = true := decide_eq_true c16
                        clear c16
                        obtain ⟨bq17, hbq17⟩ : ∃ b_ : Bool, b_ = (rdOf false x9_1 (rd l0 x11_1)) := ⟨_, rfl⟩
                        replace H : (if (bq17 = true) then (halterlaw23_PidsTurn.l0 k1 l0 (wrap64 (2 + (wrap64 (Int.tmod (IntKind.u64.wrap (a1)) 30)))) (wrap64 (1 + (wrap64 (Int.tmod (IntKind.u64.wrap (a2)) (IntKind.u64.wrap (wrap64 (2 + (wrap64 (Int.tmod (IntKind.u64.wrap (a1)) 30))))))))) x9_1 x10_1 (wrap64 (x11_1 + 1))) else (halterlaw23_PidsTurn.l0 k1 l0 (wrap64 (2 + (wrap64 (Int.tmod (IntKind.u64.wrap (a1)) 30)))) (wrap64 (1 + (wrap64 (Int.tmod (IntKind.u64.wrap (a2)) (IntKind.u64.wrap (wrap64 (2 + (wrap64 (Int.tmod (IntKind.u64.wrap (a1)) 30))))))))) (x9_1.set ((rd l0 x11_1) : Int).toNat true) (wrap64 (x10_1 - 1)) (wrap64 (x11_1 + 1)))) = some r := by rw [← hbq17] at H; exact H
                        have Nbq17 := Aside0.mk hbq17
                        clear hbq17
                        by_cases c18 : (bq17 = true)
                        · subst c18
                          have H1 : (halterlaw23_PidsTurn.l0 k1 l0 (wrap64 (2 + (wrap64 (Int.tmod (IntKind.u64.wrap (a1)) 30)))) (wrap64 (1 + (wrap64 (Int.tmod (IntKind.u64.wrap (a2)) (IntKind.u64.wrap (wrap64 (2 + (wrap64 (Int.tmod (IntKind.u64.wrap (a1)) 30))))))))) x9_1 x10_1 (wrap64 (x11_1 + 1))) = some r := by rw [if_pos rfl] at H; exact H
                          clear H
                          have H := H1
                          clear H1
                          have H' := Aside0.mk H
                          clear H
                          have p130 : 0 ≤ (x11_1 : Int) := of_decide_eq_true (by first | (with_reducible assumption) | assumption)
                          have q130 : x11_1 < (l0.length : Int) := of_decide_eq_true (by first | (with_reducible assumption) | assumption)
                          obtain ⟨ad130, e130, hx130_0⟩ := Kd.at_int HR0.out x11_1 p130 q130
                          cases e130
                          replace hx130_0 := (HB.out.cell (World.block_lt_of_cell? w _ hx130_0)).trans hx130_0
                          replace p130 := eq_true p130
                          replace q130 := eq_true q130
                          have p131 : 0 ≤ (x11_1 : Int) := of_decide_eq_true (by first | (with_reducible assumption) | assumption)
                          have q131 : x11_1 < (l0.length : Int) := of_decide_eq_true (by first | (with_reducible assumption) | assumption)
                          obtain ⟨ad131, e131, hx131_0⟩ := Kd.at_int HR0.out x11_1 p131 q131
                          obtain rfl : ad130 = ad131 := (by injection e131)
                          replace hx131_0 := (HB.out.cell (World.block_lt_of_cell? w _ hx131_0)).trans hx131_0
                          replace p131 := eq_true p131
                          replace q131 := eq_true q131
                          have p132 : 0 ≤ (x11_1 : Int) := of_decide_eq_true (by first | (with_reducible assumption) | assumption)
                          have q132 : x11_1 < (l0.length : Int) := of_decide_eq_true (by first | (with_reducible assumption) | assumption)
                          obtain ⟨ad132, e132, hx132_0⟩ := Kd.at_int HR0.out x11_1 p132 q132
                          obtain rfl : ad130 = ad132 := (by injection e132)
                          replace hx132_0 := (HB.out.cell (World.block_lt_of_cell? w _ hx132_0)).trans hx132_0
                          replace p132 := eq_true p132
                          replace q132 := eq_true q132
                          obtain ⟨Ao19, co19, eo19⟩ := Kd.R_slice HO_9.out
                          subst eo19
                          have p133 : 0 ≤ ((rd l0 x11_1) : Int) := of_decide_eq_true (by first | (with_reducible assumption) | assumption)
                          have q133 : (rd l0 x11_1) < (x9_1.length : Int) := of_decide_eq_true (by first | (with_reducible assumption) | assumption)
                          obtain ⟨ad133, e133, hx133_0⟩ := Kd.at_bool (Kd.R_reads' HO_9.out).2.2 (rd l0 x11_1) p133 q133
                          (try rw [← Nbq17.out] at hx133_0)
                          cases e133
                          replace p133 := eq_true p133
                          replace q133 := eq_true q133
                          go_wp2
                          go_roundg k1
                          case measure => have := HK1.out; omega
                          case rel => exact ⟨(x9_1), (x10_1), (wrap64 (x11_1 + 1)), (by first | rfl | (simp; done) | (simp [*]; done)), (by first | rfl | (simp; done) | (simp [*]; done)), H', ⟨by have := HK1.out; omega⟩, ⟨by (with_reducible repeat (first | apply Kd.R_alloc | apply Kd.R_drewN | apply Kd.R_drew)); exact HO_9.out⟩, ⟨by repeat (first | (with_reducible first | exact HB.out | apply below_alloc | apply pw_below_drewN | apply below_drew1) | exact HB.out | (with_reducible exact Below.refl _ _))⟩⟩
                        · replace c18 := Bool.eq_false_iff.mpr c18
                          subst c18
                          have H1 : (halterlaw23_PidsTurn.l0 k1 l0 (wrap64 (2 + (wrap64 (Int.tmod (IntKind.u64.wrap (a1)) 30)))) (wrap64 (1 + (wrap64 (Int.tmod (IntKind.u64.wrap (a2)) (IntKind.u64.wrap (wrap64 (2 + (wrap64 (Int.tmod (IntKind.u64.wrap (a1)) 30))))))))) (x9_1.set ((rd l0 x11_1) : Int).toNat true) (wrap64 (x10_1 - 1)) (wrap64 (x11_1 + 1))) = some r := by rw [if_neg (show ¬ (false = true) by decide)] at H; exact H
                          clear H
                          have H := H1
                          clear H1
                          obtain ⟨y135, hy135⟩ : ∃ y_ : List Bool, y_ = (x9_1.set ((rd l0 x11_1) : Int).toNat true) := ⟨_, rfl⟩
                          replace H : (halterlaw23_PidsTurn.l0 k1 l0 (wrap64 (2 + (wrap64 (Int.tmod (IntKind.u64.wrap (a1)) 30)))) (wrap64 (1 + (wrap64 (Int.tmod (IntKind.u64.wrap (a2)) (IntKind.u64.wrap (wrap64 (2 + (wrap64 (Int.tmod (IntKind.u64.wrap (a1)) 30))))))))) y135 (wrap64 (x10_1 - 1)) (wrap64 (x11_1 + 1))) = some r := by first | (rw [hy135]; with_reducible exact H) | (have H2_ := (Option.bind_some _ _).symm.trans H; rw [hy135]; with_reducible exact H2_) | (have H2_ := (Option.bind_some _ _).symm.trans H; with_reducible exact H2_) | with_reducible exact H | (rw [hy135]; exact H) | exact H
                          have Ny135 := Aside0.mk hy135
                          clear hy135
                          have H' := Aside0.mk H
                          clear H
                          have p130 : 0 ≤ (x11_1 : Int) := of_decide_eq_true (by first | (with_reducible assumption) | assumption)
                          have q130 : x11_1 < (l0.length : Int) := of_decide_eq_true (by first | (with_reducible assumption) | assumption)
                          obtain ⟨ad130, e130, hx130_0⟩ := Kd.at_int HR0.out x11_1 p130 q130
                          cases e130
                          replace hx130_0 := (HB.out.cell (World.block_lt_of_cell? w _ hx130_0)).trans hx130_0
                          replace p130 := eq_true p130
                          replace q130 := eq_true q130
                          have p131 : 0 ≤ (x11_1 : Int) := of_decide_eq_true (by first | (with_reducible assumption) | assumption)
                          have q131 : x11_1 < (l0.length : Int) := of_decide_eq_true (by first | (with_reducible assumption) | assumption)
                          obtain ⟨ad131, e131, hx131_0⟩ := Kd.at_int HR0.out x11_1 p131 q131
                          obtain rfl : ad130 = ad131 := (by injection e131)
                          replace hx131_0 := (HB.out.cell (World.block_lt_of_cell? w _ hx131_0)).trans hx131_0
                          replace p131 := eq_true p131
                          replace q131 := eq_true q131
                          have p132 : 0 ≤ (x11_1 : Int) := of_decide_eq_true (by first | (with_reducible assumption) | assumption)
                          have q132 : x11_1 < (l0.length : Int) := of_decide_eq_true (by first | (with_reducible assumption) | assumption)
                          obtain ⟨ad132, e132, hx132_0⟩ := Kd.at_int HR0.out x11_1 p132 q132
                          obtain rfl : ad130 = ad132 := (by injection e132)
                          replace hx132_0 := (HB.out.cell (World.block_lt_of_cell? w _ hx132_0)).trans hx132_0
                          replace p132 := eq_true p132
                          replace q132 := eq_true q132
                          obtain ⟨Ao21, co21, eo21⟩ := Kd.R_slice HO_9.out
                          subst eo21
                          have p133 : 0 ≤ ((rd l0 x11_1) : Int) := of_decide_eq_true (by first | (with_reducible assumption) | assumption)
                          have q133 : (rd l0 x11_1) < (x9_1.length : Int) := of_decide_eq_true (by first | (with_reducible assumption) | assumption)
                          obtain ⟨ad133, e133, hx133_0⟩ := Kd.at_bool (Kd.R_reads' HO_9.out).2.2 (rd l0 x11_1) p133 q133
                          (try rw [← Nbq17.out] at hx133_0)
                          cases e133
                          replace p133 := eq_true p133
                          replace q133 := eq_true q133
                          have p134 : 0 ≤ (x11_1 : Int) := of_decide_eq_true (by first | (with_reducible assumption) | assumption)
                          have q134 : x11_1 < (l0.length : Int) := of_decide_eq_true (by first | (with_reducible assumption) | assumption)
                          obtain ⟨ad134, e134, hx134_0⟩ := Kd.at_int HR0.out x11_1 p134 q134
                          obtain rfl : ad130 = ad134 := (by injection e134)
                          replace hx134_0 := (HB.out.cell (World.block_lt_of_cell? w _ hx134_0)).trans hx134_0
                          replace p134 := eq_true p134
                          replace q134 := eq_true q134
                          have p20 : 0 ≤ ((rd l0 x11_1) : Int) := of_decide_eq_true (by first | (with_reducible assumption) | assumption)
                          have q20 : ((rd l0 x11_1) : Int) < ((x9_1.length : Int) : Int) := of_decide_eq_true (by first | (with_reducible assumption) | assumption)
                          obtain ⟨go20, co20, eo20, gb20, gl20, cl20, HG20⟩ := Kd.R_form HO_9.out (by omega)
                          (first | cases eo20 | (injection eo20 with ea_ en_ ec_; (first | subst ea_ | (injection ea_ with ea_; subst ea_)); subst ec_; clear en_))
                          have GB20 := Aside0.mk gb20
                          have GG20 := Aside0.mk HG20
                          clear gb20 gl20 HG20
                          (first | simp only [add_plain] at hx133_0 | skip)
                          obtain ⟨hx20_0, hf20_0⟩ := Kd.R_celln false HO_9.out ((rd l0 x11_1) : Int) p20 q20
                          replace p20 := eq_true p20
                          replace q20 := eq_true q20
                          have HP22 := Kd.R_putg HO_9.out ((rd l0 x11_1) : Int) true
                          go_wp2_with (first | ((with_reducible refine gate_store (t := 4) (p := 71) rfl ?_); refine store_event (t := 4) (p := 71) (v := ?vo_w23) (w1 := (wr.setCell ⟨go20, ((rd l0 x11_1) : Int).toNat, none⟩ (.bool true))) ?hg ?ho ?hn ?hr ?_; (case ho => rfl); (case hg => rfl); (case hn => rfl); (case hr => first | (go_simp; done) | (go_simp; rfl)); intro w23 hw; have hg : wr.grownBy w23 (some go20) := (by rw [hw]; exact HP22.2); have hp_ : Kd.R Kd.bool 4 w23 w.heap.size (fun _ => True) (.slice (some ⟨go20, 0, none⟩) x9_1.length co21) y135 := (by rw [hw, Ny135.out]; exact HP22.1); clear HP22; have n0_ := Aside0.mk (hp_); have n1_ := Aside0.mk ((by rw [hw]; exact below_set (HB.out) GB20.out : Below w.heap.size w w23)); clear HO_9; clear HB; have HO_9 := n0_; have HB := n1_; clear n0_ n1_; clear hg hw hp_))
                          go_roundg k1
                          case measure => have := HK1.out; omega
                          case rel => exact ⟨(y135), (wrap64 (x10_1 - 1)), (wrap64 (x11_1 + 1)), (by first | rfl | (simp; done) | (simp [*]; done)), (by first | rfl | (simp; done) | (simp [*]; done)), H', ⟨by have := HK1.out; omega⟩, ⟨by (with_reducible repeat (first | apply Kd.R_alloc | apply Kd.R_drewN | apply Kd.R_drew)); exact HO_9.out⟩, ⟨by repeat (first | (with_reducible first | exact HB.out | apply below_alloc | apply pw_below_drewN | apply below_drew1) | exact HB.out | (with_reducible exact Below.refl _ _))⟩⟩
                      · rw [if_neg c16] at H
                        exact absurd H (by simp)
                    · rw [if_neg c15] at H
                      exact absurd H (by simp)
                  · rw [if_neg c14] at H
                    have c14b0 : decide ((rd l0 x11_1) ≤ (wrap64 (2 + (wrap64 (Int.tmod (IntKind.u64.wrap (a1)) 30))))) = false := decide_eq_false c14
                    clear c14
                    have H' := Aside0.mk H
                    clear H
                    have p130 : 0 ≤ (x11_1 : Int) := of_decide_eq_true (by first | (with_reducible assumption) | assumption)
                    have q130 : x11_1 < (l0.length : Int) := of_decide_eq_true (by first | (with_reducible assumption) | assumption)
                    obtain ⟨ad130, e130, hx130_0⟩ := Kd.at_int HR0.out x11_1 p130 q130
                    cases e130
                    replace hx130_0 := (HB.out.cell (World.block_lt_of_cell? w _ hx130_0)).trans hx130_0
                    replace p130 := eq_true p130
                    replace q130 := eq_true q130
                    have p131 : 0 ≤ (x11_1 : Int) := of_decide_eq_true (by first | (with_reducible assumption) | assumption)
                    have q131 : x11_1 < (l0.length : Int) := of_decide_eq_true (by first | (with_reducible assumption) | assumption)
                    obtain ⟨ad131, e131, hx131_0⟩ := Kd.at_int HR0.out x11_1 p131 q131
                    obtain rfl : ad130 = ad131 := (by injection e131)
                    replace hx131_0 := (HB.out.cell (World.block_lt_of_cell? w _ hx131_0)).trans hx131_0
                    replace p131 := eq_true p131
                    replace q131 := eq_true q131
                    go_wp2
                    go_roundg k1
                    case measure => have := HK1.out; omega
                    case rel => exact ⟨(x9_1), (x10_1), (wrap64 (x11_1 + 1)), (by first | rfl | (simp; done) | (simp [*]; done)), (by first | rfl | (simp; done) | (simp [*]; done)), H', ⟨by have := HK1.out; omega⟩, ⟨by (with_reducible repeat (first | apply Kd.R_alloc | apply Kd.R_drewN | apply Kd.R_drew)); exact HO_9.out⟩, ⟨by repeat (first | (with_reducible first | exact HB.out | apply below_alloc | apply pw_below_drewN | apply below_drew1) | exact HB.out | (with_reducible exact Below.refl _ _))⟩⟩
                · rw [if_neg c13] at H
                  have c13b0 : decide (2 ≤ (rd l0 x11_1)) = false := decide_eq_false c13
                  clear c13
                  have H' := Aside0.mk H
                  clear H
                  have p130 : 0 ≤ (x11_1 : Int) := of_decide_eq_true (by first | (with_reducible assumption) | assumption)
                  have q130 : x11_1 < (l0.length : Int) := of_decide_eq_true (by first | (with_reducible assumption) | assumption)
                  obtain ⟨ad130, e130, hx130_0⟩ := Kd.at_int HR0.out x11_1 p130 q130
                  cases e130
                  replace hx130_0 := (HB.out.cell (World.block_lt_of_cell? w _ hx130_0)).trans hx130_0
                  replace p130 := eq_true p130
                  replace q130 := eq_true q130
                  go_wp2
                  go_roundg k1
                  case measure => have := HK1.out; omega
                  case rel => exact ⟨(x9_1), (x10_1), (wrap64 (x11_1 + 1)), (by first | rfl | (simp; done) | (simp [*]; done)), (by first | rfl | (simp; done) | (simp [*]; done)), H', ⟨by have := HK1.out; omega⟩, ⟨by (with_reducible repeat (first | apply Kd.R_alloc | apply Kd.R_drewN | apply Kd.R_drew)); exact HO_9.out⟩, ⟨by repeat (first | (with_reducible first | exact HB.out | apply below_alloc | apply pw_below_drewN | apply below_drew1) | exact HB.out | (with_reducible exact Below.refl _ _))⟩⟩
              · rw [if_neg c12] at H
                exact absurd H (by simp)
            · rw [if_neg c11] at H
              have c11b0 : decide (x11_1 < (l0.length : Int)) = false := decide_eq_false c11
              clear c11
              by_cases c24 : 100 ≤ 281474976710656
              · rw [if_pos c24] at H
                have c24b0 := eq_true c24
                have c24b1 : decide (100 ≤ 281474976710656) = true := decide_eq_true c24
                clear c24
                obtain ⟨y136, hy136⟩ : ∃ y_ : List Bool, y_ = (List.replicate 100 false) := ⟨_, rfl⟩
                replace H : (halterlaw23_PidsTurn.l1 k1 l0 (wrap64 (2 + (wrap64 (Int.tmod (IntKind.u64.wrap (a1)) 30)))) (wrap64 (1 + (wrap64 (Int.tmod (IntKind.u64.wrap (a2)) (IntKind.u64.wrap (wrap64 (2 + (wrap64 (Int.tmod (IntKind.u64.wrap (a1)) 30))))))))) x9_1 x10_1 y136 0) = some r := by first | (rw [hy136]; with_reducible exact H) | (have H2_ := (Option.bind_some _ _).symm.trans H; rw [hy136]; with_reducible exact H2_) | (have H2_ := (Option.bind_some _ _).symm.trans H; with_reducible exact H2_) | with_reducible exact H | (rw [hy136]; exact H) | exact H
                have Ny136 := Aside0.mk hy136
                clear hy136
                have H' := Aside0.mk H
                clear H
                go_wp2_with (first | ((with_reducible refine gate_dst (N := 74) rfl ?_); refine Kd.R_make Kd.bool _ 4 rfl (N := 74) rfl 34 _ _ rfl 100 rfl rfl Tryd.underlying34 (.bool false) 1 info4 rfl (by decide) (by omega) false (ok := fun _ => True) (okp := fun _ => True) rfl (fun _ hk => hk) trivial (by omega) (by omega) (Below.refl _ _) (Nat.le_refl _) ?_; intro v137 w25 ho26 hb hg_ hnew_; clear hg_ hnew_; (first | rw [← Ny136.out] at ho26 | (simp only [Int.reduceToNat] at ho26; rw [← Ny136.out] at ho26)); have n0_ := Aside0.mk (Kd.R_elder' (by (with_reducible repeat (first | apply Kd.R_alloc | apply Kd.R_drewN | apply Kd.R_drew)); exact HO_9.out) (Kd.R_base ho26) hb); have n1_ := Aside0.mk (Kd.R_lower (Kd.R_new' ho26 (Kd.R_lt (by (with_reducible repeat (first | apply Kd.R_alloc | apply Kd.R_drewN | apply Kd.R_drew)); exact HO_9.out))) (below_size (by repeat (first | (with_reducible first | exact HB.out | apply below_alloc | apply pw_below_drewN | apply below_drew1) | exact HB.out | (with_reducible exact Below.refl _ _))))); have n2_ := Aside0.mk (below_step (by repeat (first | (with_reducible first | exact HB.out | apply below_alloc | apply pw_below_drewN | apply below_drew1) | exact HB.out | (with_reducible exact Below.refl _ _))) hb); clear HO_9; clear HB; have HO_9 := n0_; have HO138 := n1_; have HB := n2_; clear n0_ n1_ n2_; clear hb ho26))
                go_loopg [8, 13] k1 (fun kq v8 v13 w' => ∃ (x8_2 : Int) (x12_2 : List Bool) (x13_2 : Int), v8 = .int .i64 x8_2 ∧ v13 = .int .i64 x13_2 ∧ Aside0 (halterlaw23_PidsTurn.l1 kq l0 (wrap64 (2 + (wrap64 (Int.tmod (IntKind.u64.wrap (a1)) 30)))) x8_2 x9_1 x10_1 x12_2 x13_2 = some r) ∧ Aside0 (kq ≤ k1) ∧ Aside0 (Kd.R Kd.bool 4 w' w.heap.size (fun k_ => some k_ ≠ (v137 : Value).ownBlock) v128 x9_1) ∧ Aside0 (Kd.R Kd.bool 4 w' w.heap.size (fun k_ => some k_ ≠ (v128 : Value).ownBlock) v137 x12_2) ∧ Aside0 (Below w.heap.size w w'))
                case atStart => exact ⟨((wrap64 (1 + (wrap64 (Int.tmod (IntKind.u64.wrap (a2)) (IntKind.u64.wrap (wrap64 (2 + (wrap64 (Int.tmod (IntKind.u64.wrap (a1)) 30)))))))))), (y136), (0), (by first | rfl | (simp; done) | (simp [*]; done)), (by first | rfl | (simp; done) | (simp [*]; done)), H', ⟨Nat.le_refl _⟩, ⟨by (with_reducible repeat (first | apply Kd.R_alloc | apply Kd.R_drewN | apply Kd.R_drew)); exact Kd.R_mono HO_9.out (fun _ hk => hk.2)⟩, ⟨by (with_reducible repeat (first | apply Kd.R_alloc | apply Kd.R_drewN | apply Kd.R_drew)); exact Kd.R_mono HO138.out (fun _ hk => hk.2)⟩, ⟨by repeat (first | (with_reducible first | exact HB.out | apply below_alloc | apply pw_below_drewN | apply below_drew1) | exact HB.out | (with_reducible exact Below.refl _ _))⟩⟩
                case round =>
                  clear H'
                  try clear c1
                  try clear p1
                  try clear q1
                  try clear hx1
                  try clear c2
                  try clear p2
                  try clear q2
                  try clear hx2
                  try clear c4
                  try clear c4b0
                  try clear c4b1
                  try clear c5
                  try clear c5b0
                  try clear c5b1
                  try clear p6
                  try clear c8
                  try clear c8b0
                  try clear c8b1
                  try clear c11
                  try clear c11b0
                  try clear c12
                  try clear c12b0
                  try clear c13
                  try clear c13b0
                  try clear p13
                  try clear q13
                  try clear hx13
                  try clear c14
                  try clear c14b0
                  try clear c15
                  try clear c15b0
                  try clear c16
                  try clear c16b0
                  try clear q17
                  try clear c18
                  try clear p20
                  try clear q20
                  try clear hx20
                  try clear hf20
                  try clear c24
                  try clear c24b0
                  try clear c24b1
                  try clear hx130_0
                  try clear hx131_0
                  try clear hx132_0
                  try clear hx133_0
                  try clear hx134_0
                  try clear hx20_0
                  try clear p130
                  try clear p131
                  try clear p132
                  try clear p133
                  try clear p134
                  try clear p2
                  try clear p20
                  try clear p6
                  try clear q130
                  try clear q131
                  try clear q132
                  try clear q133
                  try clear q134
                  try clear q20
                  obtain ⟨x8_2, x12_2, x13_2, rfl, rfl, HA, HK2, HO_9, HO_12, HB⟩ := hrel
                  cases gk with
                  | zero => exact absurd HA.out (by simp [halterlaw23_PidsTurn.l1])
                  | succ k2 =>
                    have H := HA.out
                    clear HA
                    simp only [halterlaw23_PidsTurn.l1] at H
                    by_cases c27 : x13_2 < x10_1
                    · rw [if_pos c27] at H
                      have c27b0 : decide (x13_2 < x10_1) = true := decide_eq_true c27
                      clear c27
                      replace H := Option.bind_eq_some_iff.mp H
                      obtain ⟨⟨t139, t140⟩, A280, H⟩ := H
                      replace H : (if t140.isNone = true then (if t139 < 2 then (some false) else (if t139 > (wrap64 (2 + (wrap64 (Int.tmod (IntKind.u64.wrap (a1)) 30)))) then (some false) else (if 0 ≤ t139 then (if t139 < (x9_1.length : Int) then (if rdOf false x9_1 t139 = true then (some false) else (if t139 < (x12_2.length : Int) then (if rdOf false x12_2 t139 = true then (some false) else (halterlaw23_PidsTurn.l1 k2 l0 (wrap64 (2 + (wrap64 (Int.tmod (IntKind.u64.wrap (a1)) 30)))) t139 x9_1 x10_1 (x12_2.set (t139 : Int).toNat true) (wrap64 (x13_2 + 1)))) else (none))) else (none)) else (none)))) else (some false)) = some r := H
                      have A28 := Aside0.mk A280
                      clear A280
                      rcases t140 with _ | q141
                      · have H1 : (if t139 < 2 then (some false) else (if t139 > (wrap64 (2 + (wrap64 (Int.tmod (IntKind.u64.wrap (a1)) 30)))) then (some false) else (if 0 ≤ t139 then (if t139 < (x9_1.length : Int) then (if rdOf false x9_1 t139 = true then (some false) else (if t139 < (x12_2.length : Int) then (if rdOf false x12_2 t139 = true then (some false) else (halterlaw23_PidsTurn.l1 k2 l0 (wrap64 (2 + (wrap64 (Int.tmod (IntKind.u64.wrap (a1)) 30)))) t139 x9_1 x10_1 (x12_2.set (t139 : Int).toNat true) (wrap64 (x13_2 + 1)))) else (none))) else (none)) else (none)))) = some r := by rw [if_pos (show (none : Option Int).isNone = true by rfl)] at H; exact H
                        clear H
                        have H := H1
                        clear H1
                        try simp only [errW_none, errW_some]
                        by_cases c29 : t139 < 2
                        · rw [if_pos c29] at H
                          have c29b0 : decide (t139 < 2) = true := decide_eq_true c29
                          clear c29
                          obtain rfl := Option.some.inj H
                          go_wp2_with (first | ((with_reducible refine gate_callee (f := 6) rfl ?_); refine goesL_ (some 84) rfl rfl Tryd.func6 (by kernel_rfl) rfl #[.slice A0 l0.length c0, .int .i64 x8_2, .int .i64 (wrap64 (2 + (wrap64 (Int.tmod (IntKind.u64.wrap (a1)) 30))))] rfl (by (try simp only [List.map_toArray, List.map_cons, List.map_nil]); first | done | rfl | (simp only [List.length_drop, List.length_take]; rfl)) ?_; (with_reducible refine (pids_Next.calls k2 _ _ l0 x8_2 (wrap64 (2 + (wrap64 (Int.tmod (IntKind.u64.wrap (a1)) 30)))) t139 none _ ?side1 ?side2 A28.out).mono ?_); (case side1 => repeat (first | exact (Kd.C_below HR0.out HB.out) | (with_reducible refine Kd.C_alloc ?_ _) | (with_reducible refine Kd.C_drewN ?_ _) | (with_reducible refine Kd.C_drew ?_))); (case side2 => exact HC0.out); rintro e w' ⟨rfl, ⟨nd, rfl⟩⟩; refine ⟨_, rfl, ?_⟩; (try simp only [errW_none, errW_some])))
                          go_ret
                          exact ⟨by first | rfl | (simp [errW_none, errW_some] <;> rfl) | (simp [*, errW_none, errW_some] <;> rfl), by repeat (first | (with_reducible first | exact HB.out | apply below_alloc | apply pw_below_drewN | apply below_drew1) | exact HB.out | (with_reducible exact Below.refl _ _))⟩
                        · rw [if_neg c29] at H
                          have c29b0 : decide (t139 < 2) = false := decide_eq_false c29
                          clear c29
                          by_cases c30 : t139 > (wrap64 (2 + (wrap64 (Int.tmod (IntKind.u64.wrap (a1)) 30))))
                          · rw [if_pos c30] at H
                            have c30b0 : decide ((wrap64 (2 + (wrap64 (Int.tmod (IntKind.u64.wrap (a1)) 30)))) < t139) = true := decide_eq_true c30
                            clear c30
                            obtain rfl := Option.some.inj H
                            go_wp2_with (first | ((with_reducible refine gate_callee (f := 6) rfl ?_); refine goesL_ (some 84) rfl rfl Tryd.func6 (by kernel_rfl) rfl #[.slice A0 l0.length c0, .int .i64 x8_2, .int .i64 (wrap64 (2 + (wrap64 (Int.tmod (IntKind.u64.wrap (a1)) 30))))] rfl (by (try simp only [List.map_toArray, List.map_cons, List.map_nil]); first | done | rfl | (simp only [List.length_drop, List.length_take]; rfl)) ?_; (with_reducible refine (pids_Next.calls k2 _ _ l0 x8_2 (wrap64 (2 + (wrap64 (Int.tmod (IntKind.u64.wrap (a1)) 30)))) t139 none _ ?side1 ?side2 A28.out).mono ?_); (case side1 => repeat (first | exact (Kd.C_below HR0.out HB.out) | (with_reducible refine Kd.C_alloc ?_ _) | (with_reducible refine Kd.C_drewN ?_ _) | (with_reducible refine Kd.C_drew ?_))); (case side2 => exact HC0.out); rintro e w' ⟨rfl, ⟨nd, rfl⟩⟩; refine ⟨_, rfl, ?_⟩; (try simp only [errW_none, errW_some])))
                            go_ret
                            exact ⟨by first | rfl | (simp [errW_none, errW_some] <;> rfl) | (simp [*, errW_none, errW_some] <;> rfl), by repeat (first | (with_reducible first | exact HB.out | apply below_alloc | apply pw_below_drewN | apply below_drew1) | exact HB.out | (with_reducible exact Below.refl _ _))⟩
                          · rw [if_neg c30] at H
                            have c30b0 : decide ((wrap64 (2 + (wrap64 (Int.tmod (IntKind.u64.wrap (a1)) 30)))) < t139) = false := decide_eq_false c30
                            clear c30
                            by_cases c31 : 0 ≤ t139
                            · rw [if_pos c31] at H
                              have c31b0 : decide (0 ≤ t139) = true := decide_eq_true c31
                              clear c31
                              by_cases c32 : t139 < (x9_1.length : Int)
                              · rw [if_pos c32] at H
                                have c32b0 : decide (t139 < (x9_1.length : Int)) = true := decide_eq_true c32
                                clear c32
                                obtain ⟨bq33, hbq33⟩ : ∃ b_ : Bool, b_ = (rdOf false x9_1 t139) := ⟨_, rfl⟩
                                replace H : (if bq33 = true then (some false) else (if t139 < (x12_2.length : Int) then (if rdOf false x12_2 t139 = true then (some false) else (halterlaw23_PidsTurn.l1 k2 l0 (wrap64 (2 + (wrap64 (Int.tmod (IntKind.u64.wrap (a1)) 30)))) t139 x9_1 x10_1 (x12_2.set (t139 : Int).toNat true) (wrap64 (x13_2 + 1)))) else (none))) = some r := by rw [← hbq33] at H; exact H
                                have Nbq33 := Aside0.mk hbq33
                                clear hbq33
                                by_cases c34 : bq33 = true
                                · subst c34
                                  have H1 : (some false) = some r := by rw [if_pos rfl] at H; exact H
                                  clear H
                                  have H := H1
                                  clear H1
                                  obtain rfl := Option.some.inj H
                                  go_wp2_with (first | ((with_reducible refine gate_callee (f := 6) rfl ?_); refine goesL_ (some 84) rfl rfl Tryd.func6 (by kernel_rfl) rfl #[.slice A0 l0.length c0, .int .i64 x8_2, .int .i64 (wrap64 (2 + (wrap64 (Int.tmod (IntKind.u64.wrap (a1)) 30))))] rfl (by (try simp only [List.map_toArray, List.map_cons, List.map_nil]); first | done | rfl | (simp only [List.length_drop, List.length_take]; rfl)) ?_; (with_reducible refine (pids_Next.calls k2 _ _ l0 x8_2 (wrap64 (2 + (wrap64 (Int.tmod (IntKind.u64.wrap (a1)) 30)))) t139 none _ ?side1 ?side2 A28.out).mono ?_); (case side1 => repeat (first | exact (Kd.C_below HR0.out HB.out) | (with_reducible refine Kd.C_alloc ?_ _) | (with_reducible refine Kd.C_drewN ?_ _) | (with_reducible refine Kd.C_drew ?_))); (case side2 => exact HC0.out); rintro e w' ⟨rfl, ⟨nd, rfl⟩⟩; refine ⟨_, rfl, ?_⟩; (try simp only [errW_none, errW_some]); obtain ⟨Ao35, co35, eo35⟩ := Kd.R_slice HO_9.out; subst eo35; have p142 : 0 ≤ (t139 : Int) := of_decide_eq_true (by first | (with_reducible assumption) | assumption); have q142 : t139 < (x9_1.length : Int) := of_decide_eq_true (by first | (with_reducible assumption) | assumption); obtain ⟨ad142, e142, hx142_0⟩ := Kd.at_bool (Kd.R_reads' HO_9.out).2.2 t139 p142 q142; (try rw [← Nbq33.out] at hx142_0); cases e142; replace p142 := eq_true p142; replace q142 := eq_true q142))
                                  go_ret
                                  exact ⟨by first | rfl | (simp [errW_none, errW_some] <;> rfl) | (simp [*, errW_none, errW_some] <;> rfl), by repeat (first | (with_reducible first | exact HB.out | apply below_alloc | apply pw_below_drewN | apply below_drew1) | exact HB.out | (with_reducible exact Below.refl _ _))⟩
                                · replace c34 := Bool.eq_false_iff.mpr c34
                                  subst c34
                                  have H1 : (if t139 < (x12_2.length : Int) then (if rdOf false x12_2 t139 = true then (some false) else (halterlaw23_PidsTurn.l1 k2 l0 (wrap64 (2 + (wrap64 (Int.tmod (IntKind.u64.wrap (a1)) 30)))) t139 x9_1 x10_1 (x12_2.set (t139 : Int).toNat true) (wrap64 (x13_2 + 1)))) else (none)) = some r := by rw [if_neg (show ¬ (false = true) by decide)] at H; exact H
                                  clear H
                                  have H := H1
                                  clear H1
                                  by_cases c36 : t139 < (x12_2.length : Int)
                                  · rw [if_pos c36] at H
                                    have c36b0 : decide (t139 < (x12_2.length : Int)) = true := decide_eq_true c36
                                    clear c36
                                    obtain ⟨bq37, hbq37⟩ : ∃ b_ : Bool, b_ = (rdOf false x12_2 t139) := ⟨_, rfl⟩
                                    replace H : (if bq37 = true then (some false) else (halterlaw23_PidsTurn.l1 k2 l0 (wrap64 (2 + (wrap64 (Int.tmod (IntKind.u64.wrap (a1)) 30)))) t139 x9_1 x10_1 (x12_2.set (t139 : Int).toNat true) (wrap64 (x13_2 + 1)))) = some r := by rw [← hbq37] at H; exact H
                                    have Nbq37 := Aside0.mk hbq37
                                    clear hbq37
                                    by_cases c38 : bq37 = true
                                    · subst c38
                                      have H1 : (some false) = some r := by rw [if_pos rfl] at H; exact H
                                      clear H
                                      have H := H1
                                      clear H1
                                      obtain rfl := Option.some.inj H
                                      go_wp2_with (first | ((with_reducible refine gate_callee (f := 6) rfl ?_); refine goesL_ (some 84) rfl rfl Tryd.func6 (by kernel_rfl) rfl #[.slice A0 l0.length c0, .int .i64 x8_2, .int .i64 (wrap64 (2 + (wrap64 (Int.tmod (IntKind.u64.wrap (a1)) 30))))] rfl (by (try simp only [List.map_toArray, List.map_cons, List.map_nil]); first | done | rfl | (simp only [List.length_drop, List.length_take]; rfl)) ?_; (with_reducible refine (pids_Next.calls k2 _ _ l0 x8_2 (wrap64 (2 + (wrap64 (Int.tmod (IntKind.u64.wrap (a1)) 30)))) t139 none _ ?side1 ?side2 A28.out).mono ?_); (case side1 => repeat (first | exact (Kd.C_below HR0.out HB.out) | (with_reducible refine Kd.C_alloc ?_ _) | (with_reducible refine Kd.C_drewN ?_ _) | (with_reducible refine Kd.C_drew ?_))); (case side2 => exact HC0.out); rintro e w' ⟨rfl, ⟨nd, rfl⟩⟩; refine ⟨_, rfl, ?_⟩; (try simp only [errW_none, errW_some]); obtain ⟨Ao39, co39, eo39⟩ := Kd.R_slice HO_9.out; subst eo39; have p142 : 0 ≤ (t139 : Int) := of_decide_eq_true (by first | (with_reducible assumption) | assumption); have q142 : t139 < (x9_1.length : Int) := of_decide_eq_true (by first | (with_reducible assumption) | assumption); obtain ⟨ad142, e142, hx142_0⟩ := Kd.at_bool (Kd.R_reads' HO_9.out).2.2 t139 p142 q142; (try rw [← Nbq33.out] at hx142_0); (try rw [← Nbq37.out] at hx142_0); cases e142; replace p142 := eq_true p142; replace q142 := eq_true q142; obtain ⟨Ao40, co40, eo40⟩ := Kd.R_slice HO_12.out; subst eo40; have p143 : 0 ≤ (t139 : Int) := of_decide_eq_true (by first | (with_reducible assumption) | assumption); have q143 : t139 < (x12_2.length : Int) := of_decide_eq_true (by first | (with_reducible assumption) | assumption); obtain ⟨ad143, e143, hx143_0⟩ := Kd.at_bool (Kd.R_reads' HO_12.out).2.2 t139 p143 q143; (try rw [← Nbq33.out] at hx143_0); (try rw [← Nbq37.out] at hx143_0); cases e143; replace p143 := eq_true p143; replace q143 := eq_true q143))
                                      go_ret
                                      exact ⟨by first | rfl | (simp [errW_none, errW_some] <;> rfl) | (simp [*, errW_none, errW_some] <;> rfl), by repeat (first | (with_reducible first | exact HB.out | apply below_alloc | apply pw_below_drewN | apply below_drew1) | exact HB.out | (with_reducible exact Below.refl _ _))⟩
                                    · replace c38 := Bool.eq_false_iff.mpr c38
                                      subst c38
                                      have H1 : (halterlaw23_PidsTurn.l1 k2 l0 (wrap64 (2 + (wrap64 (Int.tmod (IntKind.u64.wrap (a1)) 30)))) t139 x9_1 x10_1 (x12_2.set (t139 : Int).toNat true) (wrap64 (x13_2 + 1))) = some r := by rw [if_neg (show ¬ (false = true) by decide)] at H; exact H
                                      clear H
                                      have H := H1
                                      clear H1
                                      obtain ⟨y144, hy144⟩ : ∃ y_ : List Bool, y_ = (x12_2.set (t139 : Int).toNat true) := ⟨_, rfl⟩
                                      replace H : (halterlaw23_PidsTurn.l1 k2 l0 (wrap64 (2 + (wrap64 (Int.tmod (IntKind.u64.wrap (a1)) 30)))) t139 x9_1 x10_1 y144 (wrap64 (x13_2 + 1))) = some r := by first | (rw [hy144]; with_reducible exact H) | (have H2_ := (Option.bind_some _ _).symm.trans H; rw [hy144]; with_reducible exact H2_) | (have H2_ := (Option.bind_some _ _).symm.trans H; with_reducible exact H2_) | with_reducible exact H | (rw [hy144]; exact H) | exact H
                                      have Ny144 := Aside0.mk hy144
                                      clear hy144
                                      have H' := Aside0.mk H
                                      clear H
                                      go_wp2_with (first | ((with_reducible refine gate_callee (f := 6) rfl ?_); refine goesL_ (some 84) rfl rfl Tryd.func6 (by kernel_rfl) rfl #[.slice A0 l0.length c0, .int .i64 x8_2, .int .i64 (wrap64 (2 + (wrap64 (Int.tmod (IntKind.u64.wrap (a1)) 30))))] rfl (by (try simp only [List.map_toArray, List.map_cons, List.map_nil]); first | done | rfl | (simp only [List.length_drop, List.length_take]; rfl)) ?_; (with_reducible refine (pids_Next.calls k2 _ _ l0 x8_2 (wrap64 (2 + (wrap64 (Int.tmod (IntKind.u64.wrap (a1)) 30)))) t139 none _ ?side1 ?side2 A28.out).mono ?_); (case side1 => repeat (first | exact (Kd.C_below HR0.out HB.out) | (with_reducible refine Kd.C_alloc ?_ _) | (with_reducible refine Kd.C_drewN ?_ _) | (with_reducible refine Kd.C_drew ?_))); (case side2 => exact HC0.out); rintro e w' ⟨rfl, ⟨nd, rfl⟩⟩; refine ⟨_, rfl, ?_⟩; (try simp only [errW_none, errW_some]); (try (rw [drewN_self wr]; generalize hq_ : World.drewN wr _ = wr; have n0_ : Aside0 (Kd.R Kd.bool 4 wr w.heap.size (fun k_ => some k_ ≠ (v128 : Value).ownBlock) v137 x12_2) := ⟨by rw [← hq_]; exact (by (with_reducible repeat (first | apply Kd.R_alloc | apply Kd.R_drewN | apply Kd.R_drew)); exact HO_12.out)⟩; have n1_ : Aside0 (Kd.R Kd.bool 4 wr w.heap.size (fun k_ => some k_ ≠ (v137 : Value).ownBlock) v128 x9_1) := ⟨by rw [← hq_]; exact (by (with_reducible repeat (first | apply Kd.R_alloc | apply Kd.R_drewN | apply Kd.R_drew)); exact HO_9.out)⟩; have n2_ : Aside0 (Below w.heap.size w wr) := ⟨by rw [← hq_]; exact (by repeat (first | (with_reducible first | exact HB.out | apply below_alloc | apply pw_below_drewN | apply below_drew1) | exact HB.out | (with_reducible exact Below.refl _ _)))⟩; clear HO_12 HO_9 HB hq_; have HO_12 := n0_; have HO_9 := n1_; have HB := n2_; clear n0_ n1_ n2_)); obtain ⟨Ao42, co42, eo42⟩ := Kd.R_slice HO_9.out; subst eo42; have p142 : 0 ≤ (t139 : Int) := of_decide_eq_true (by first | (with_reducible assumption) | assumption); have q142 : t139 < (x9_1.length : Int) := of_decide_eq_true (by first | (with_reducible assumption) | assumption); obtain ⟨ad142, e142, hx142_0⟩ := Kd.at_bool (Kd.R_reads' HO_9.out).2.2 t139 p142 q142; (try rw [← Nbq33.out] at hx142_0); (try rw [← Nbq37.out] at hx142_0); cases e142; replace p142 := eq_true p142; replace q142 := eq_true q142; obtain ⟨Ao43, co43, eo43⟩ := Kd.R_slice HO_12.out; subst eo43; have p143 : 0 ≤ (t139 : Int) := of_decide_eq_true (by first | (with_reducible assumption) | assumption); have q143 : t139 < (x12_2.length : Int) := of_decide_eq_true (by first | (with_reducible assumption) | assumption); obtain ⟨ad143, e143, hx143_0⟩ := Kd.at_bool (Kd.R_reads' HO_12.out).2.2 t139 p143 q143; (try rw [← Nbq33.out] at hx143_0); (try rw [← Nbq37.out] at hx143_0); cases e143; replace p143 := eq_true p143; replace q143 := eq_true q143; have p41 : 0 ≤ (t139 : Int) := of_decide_eq_true (by first | (with_reducible assumption) | assumption); have q41 : (t139 : Int) < ((x12_2.length : Int) : Int) := of_decide_eq_true (by first | (with_reducible assumption) | assumption); obtain ⟨go41, co41, eo41, gb41, gl41, cl41, HG41⟩ := Kd.R_form HO_12.out (by omega); (first | cases eo41 | (injection eo41 with ea_ en_ ec_; (first | subst ea_ | (injection ea_ with ea_; subst ea_)); subst ec_; clear en_)); have GB41 := Aside0.mk gb41; have GG41 := Aside0.mk HG41; clear gb41 gl41 HG41; (first | simp only [add_plain] at hx143_0 | skip); obtain ⟨hx41_0, hf41_0⟩ := Kd.R_celln false HO_12.out (t139 : Int) p41 q41; replace p41 := eq_true p41; replace q41 := eq_true q41; obtain ⟨hy44_, hz44_⟩ := Kd.R_celln false HO_12.out (t139 : Int) (of_decide_eq_true (by first | (with_reducible assumption) | assumption)) (of_decide_eq_true (by first | (with_reducible assumption) | assumption)); have HP44 := Kd.R_putg HO_12.out (t139 : Int) true) | ((with_reducible refine gate_store (t := 4) (p := 112) rfl ?_); refine store_event (t := 4) (p := 112) (v := ?vo_w45) (w1 := (wr.setCell ⟨go41, (t139 : Int).toNat, none⟩ (.bool true))) ?hg ?ho ?hn ?hr ?_; (case ho => rfl); (case hg => rfl); (case hn => rfl); (case hr => first | (go_simp; done) | (go_simp; rfl)); intro w45 hw; have hg : wr.grownBy w45 (some go41) := (by rw [hw]; exact HP44.2); have hp_ : Kd.R Kd.bool 4 w45 w.heap.size (fun k_ => some k_ ≠ (.slice (some ad142) x9_1.length co42 : Value).ownBlock) (.slice (some ⟨go41, 0, none⟩) x12_2.length co43) y144 := (by rw [hw, Ny144.out]; exact HP44.1); clear HP44; have n0_ := Aside0.mk (Kd.R_after (v := (.slice (some ⟨go41, 0, none⟩) x12_2.length co43)) (v1 := (.slice (some ⟨go41, 0, none⟩) x12_2.length co43)) (ok := (fun _ => True)) (by (with_reducible repeat (first | apply Kd.R_alloc | apply Kd.R_drewN | apply Kd.R_drew)); exact Kd.R_mono HO_9.out (fun _ hk => ⟨trivial, hk⟩)) hg (.inl rfl)); have n1_ := Aside0.mk (hp_); have n2_ := Aside0.mk ((by rw [hw]; exact below_set (HB.out) GB41.out : Below w.heap.size w w45)); clear HO_9; clear HO_12; clear HB; have HO_9 := n0_; have HO_12 := n1_; have HB := n2_; clear n0_ n1_ n2_; clear hg hw hp_))
                                      go_roundg k2
                                      case measure => have := HK1.out; have := HK2.out; omega
                                      case rel => exact ⟨(t139), (y144), (wrap64 (x13_2 + 1)), (by first | rfl | (simp; done) | (simp [*]; done)), (by first | rfl | (simp; done) | (simp [*]; done)), H', ⟨by have := HK1.out; have := HK2.out; omega⟩, ⟨by (with_reducible repeat (first | apply Kd.R_alloc | apply Kd.R_drewN | apply Kd.R_drew)); exact Kd.R_mono HO_9.out (fun _ hk => hk.2)⟩, ⟨by (with_reducible repeat (first | apply Kd.R_alloc | apply Kd.R_drewN | apply Kd.R_drew)); exact HO_12.out⟩, ⟨by repeat (first | (with_reducible first | exact HB.out | apply below_alloc | apply pw_below_drewN | apply below_drew1) | exact HB.out | (with_reducible exact Below.refl _ _))⟩⟩
                                  · rw [if_neg c36] at H
                                    exact absurd H (by simp)
                              · rw [if_neg c32] at H
                                exact absurd H (by simp)
                            · rw [if_neg c31] at H
                              exact absurd H (by simp)
                      · have H1 : (some false) = some r := by rw [if_neg (show ¬ (some q141).isNone = true by simp)] at H; exact H
                        clear H
                        have H := H1
                        clear H1
                        try simp only [errW_none, errW_some]
                        obtain rfl := Option.some.inj H
                        go_wp2_with (first | ((with_reducible refine gate_callee (f := 6) rfl ?_); refine goesL_ (some 84) rfl rfl Tryd.func6 (by kernel_rfl) rfl #[.slice A0 l0.length c0, .int .i64 x8_2, .int .i64 (wrap64 (2 + (wrap64 (Int.tmod (IntKind.u64.wrap (a1)) 30))))] rfl (by (try simp only [List.map_toArray, List.map_cons, List.map_nil]); first | done | rfl | (simp only [List.length_drop, List.length_take]; rfl)) ?_; (with_reducible refine (pids_Next.calls k2 _ _ l0 x8_2 (wrap64 (2 + (wrap64 (Int.tmod (IntKind.u64.wrap (a1)) 30)))) t139 (some q141) _ ?side1 ?side2 A28.out).mono ?_); (case side1 => repeat (first | exact (Kd.C_below HR0.out HB.out) | (with_reducible refine Kd.C_alloc ?_ _) | (with_reducible refine Kd.C_drewN ?_ _) | (with_reducible refine Kd.C_drew ?_))); (case side2 => exact HC0.out); rintro e w' ⟨rfl, ⟨nd, rfl⟩⟩; refine ⟨_, rfl, ?_⟩; (try simp only [errW_none, errW_some])))
                        go_ret
                        exact ⟨by first | rfl | (simp [errW_none, errW_some] <;> rfl) | (simp [*, errW_none, errW_some] <;> rfl), by repeat (first | (with_reducible first | exact HB.out | apply below_alloc | apply pw_below_drewN | apply below_drew1) | exact HB.out | (with_reducible exact Below.refl _ _))⟩
                    · rw [if_neg c27] at H
                      have c27b0 : decide (x13_2 < x10_1) = false := decide_eq_false c27
                      clear c27
                      replace H := Option.bind_eq_some_iff.mp H
                      obtain ⟨⟨t145, t146⟩, A460, H⟩ := H
                      replace H : (if t146.isNone = true then (if (true == (decide (x10_1 > 0))) = true then ((halterlaw23_sure.f k2).bind fun t148 => (some t148)) else (some false)) else (if (false == (decide (x10_1 > 0))) = true then ((halterlaw23_sure.f k2).bind fun t149 => (some t149)) else (some false))) = some r := H
                      have A46 := Aside0.mk A460
                      clear A460
                      rcases t146 with _ | q147
                      · have H1 : (if (true == (decide (x10_1 > 0))) = true then ((halterlaw23_sure.f k2).bind fun t148 => (some t148)) else (some false)) = some r := by rw [if_pos (show (none : Option Int).isNone = true by rfl)] at H; exact H
                        clear H
                        have H := H1
                        clear H1
                        try simp only [errW_none, errW_some]
                        by_cases c47 : (true == (decide (x10_1 > 0))) = true
                        · rw [if_pos c47] at H
                          have c47b0 : (true == (decide (x10_1 > 0))) = true := c47
                          (try (have c47b1 : decide (true = (decide (x10_1 > 0))) = true := by simpa using c47))
                          (try (have c47b2 : (true == (decide (x10_1 > 0))) = true := by simpa using c47))
                          clear c47
                          replace H := Option.bind_eq_some_iff.mp H
                          obtain ⟨t148, A480, H⟩ := H
                          replace H : (some t148) = some r := H
                          have A48 := Aside0.mk A480
                          clear A480
                          obtain rfl := Option.some.inj H
                          go_wp2_with (first | ((with_reducible refine gate_callee (f := 6) rfl ?_); refine goesL_ (some 118) rfl rfl Tryd.func6 (by kernel_rfl) rfl #[.slice A0 l0.length c0, .int .i64 x8_2, .int .i64 (wrap64 (2 + (wrap64 (Int.tmod (IntKind.u64.wrap (a1)) 30))))] rfl (by (try simp only [List.map_toArray, List.map_cons, List.map_nil]); first | done | rfl | (simp only [List.length_drop, List.length_take]; rfl)) ?_; (with_reducible refine (pids_Next.calls k2 _ _ l0 x8_2 (wrap64 (2 + (wrap64 (Int.tmod (IntKind.u64.wrap (a1)) 30)))) t145 none _ ?side1 ?side2 A46.out).mono ?_); (case side1 => repeat (first | exact (Kd.C_below HR0.out HB.out) | (with_reducible refine Kd.C_alloc ?_ _) | (with_reducible refine Kd.C_drewN ?_ _) | (with_reducible refine Kd.C_drew ?_))); (case side2 => exact HC0.out); rintro e w' ⟨rfl, ⟨nd, rfl⟩⟩; refine ⟨_, rfl, ?_⟩; (try simp only [errW_none, errW_some])) | (go_at_call 5; (with_reducible refine (halterlaw23_sure.calls k2  t148 _ ?side1 A48.out).mono ?_); (case side1 => refine GC.below hGC ?_; repeat (first | (with_reducible first | exact HB.out | apply below_alloc | apply pw_below_drewN | apply below_drew1) | exact HB.out | (with_reducible exact Below.refl _ _))); rintro e w49 ⟨rfl, hb⟩; have n0_ := Aside0.mk (Kd.R_below (by (with_reducible repeat (first | apply Kd.R_alloc | apply Kd.R_drewN | apply Kd.R_drew)); exact HO_9.out) hb); have n1_ := Aside0.mk (Kd.R_below (by (with_reducible repeat (first | apply Kd.R_alloc | apply Kd.R_drewN | apply Kd.R_drew)); exact HO_12.out) hb); have n2_ := Aside0.mk (below_step (by repeat (first | (with_reducible first | exact HB.out | apply below_alloc | apply pw_below_drewN | apply below_drew1) | exact HB.out | (with_reducible exact Below.refl _ _))) hb); clear HO_9; clear HO_12; clear HB; have HO_9 := n0_; have HO_12 := n1_; have HB := n2_; clear n0_ n1_ n2_; (try clear hb); (try clear hb2); (try clear hk); (try clear hi)))
                          go_ret
                          exact ⟨by first | rfl | (simp [errW_none, errW_some] <;> rfl) | (simp [*, errW_none, errW_some] <;> rfl), by repeat (first | (with_reducible first | exact HB.out | apply below_alloc | apply pw_below_drewN | apply below_drew1) | exact HB.out | (with_reducible exact Below.refl _ _))⟩
                        · rw [if_neg c47] at H
                          have c47b0 : (true == (decide (x10_1 > 0))) = false := by simpa using c47
                          (try (have c47b1 : decide (true = (decide (x10_1 > 0))) = false := by simpa using c47))
                          (try (have c47b2 : (true == (decide (x10_1 > 0))) = false := by simpa using c47))
                          (try (have c47b3 : ¬ (true = (decide (x10_1 > 0))) := by simpa using c47))
                          clear c47
                          obtain rfl := Option.some.inj H
                          go_wp2_with (first | ((with_reducible refine gate_callee (f := 6) rfl ?_); refine goesL_ (some 118) rfl rfl Tryd.func6 (by kernel_rfl) rfl #[.slice A0 l0.length c0, .int .i64 x8_2, .int .i64 (wrap64 (2 + (wrap64 (Int.tmod (IntKind.u64.wrap (a1)) 30))))] rfl (by (try simp only [List.map_toArray, List.map_cons, List.map_nil]); first | done | rfl | (simp only [List.length_drop, List.length_take]; rfl)) ?_; (with_reducible refine (pids_Next.calls k2 _ _ l0 x8_2 (wrap64 (2 + (wrap64 (Int.tmod (IntKind.u64.wrap (a1)) 30)))) t145 none _ ?side1 ?side2 A46.out).mono ?_); (case side1 => repeat (first | exact (Kd.C_below HR0.out HB.out) | (with_reducible refine Kd.C_alloc ?_ _) | (with_reducible refine Kd.C_drewN ?_ _) | (with_reducible refine Kd.C_drew ?_))); (case side2 => exact HC0.out); rintro e w' ⟨rfl, ⟨nd, rfl⟩⟩; refine ⟨_, rfl, ?_⟩; (try simp only [errW_none, errW_some])))
                          go_ret
                          exact ⟨by first | rfl | (simp [errW_none, errW_some] <;> rfl) | (simp [*, errW_none, errW_some] <;> rfl), by repeat (first | (with_reducible first | exact HB.out | apply below_alloc | apply pw_below_drewN | apply below_drew1) | exact HB.out | (with_reducible exact Below.refl _ _))⟩
                      · have H1 : (if (false == (decide (x10_1 > 0))) = true then ((halterlaw23_sure.f k2).bind fun t149 => (some t149)) else (some false)) = some r := by rw [if_neg (show ¬ (some q147).isNone = true by simp)] at H; exact H
                        clear H
                        have H := H1
                        clear H1
                        try simp only [errW_none, errW_some]
                        by_cases c50 : (false == (decide (x10_1 > 0))) = true
                        · rw [if_pos c50] at H
                          have c50b0 : (false == (decide (x10_1 > 0))) = true := c50
                          (try (have c50b1 : decide (false = (decide (x10_1 > 0))) = true := by simpa using c50))
                          (try (have c50b2 : (false == (decide (x10_1 > 0))) = true := by simpa using c50))
                          clear c50
                          replace H := Option.bind_eq_some_iff.mp H
                          obtain ⟨t149, A510, H⟩ := H
                          replace H : (some t149) = some r := H
                          have A51 := Aside0.mk A510
                          clear A510
                          obtain rfl := Option.some.inj H
                          go_wp2_with (first | ((with_reducible refine gate_callee (f := 6) rfl ?_); refine goesL_ (some 118) rfl rfl Tryd.func6 (by kernel_rfl) rfl #[.slice A0 l0.length c0, .int .i64 x8_2, .int .i64 (wrap64 (2 + (wrap64 (Int.tmod (IntKind.u64.wrap (a1)) 30))))] rfl (by (try simp only [List.map_toArray, List.map_cons, List.map_nil]); first | done | rfl | (simp only [List.length_drop, List.length_take]; rfl)) ?_; (with_reducible refine (pids_Next.calls k2 _ _ l0 x8_2 (wrap64 (2 + (wrap64 (Int.tmod (IntKind.u64.wrap (a1)) 30)))) t145 (some q147) _ ?side1 ?side2 A46.out).mono ?_); (case side1 => repeat (first | exact (Kd.C_below HR0.out HB.out) | (with_reducible refine Kd.C_alloc ?_ _) | (with_reducible refine Kd.C_drewN ?_ _) | (with_reducible refine Kd.C_drew ?_))); (case side2 => exact HC0.out); rintro e w' ⟨rfl, ⟨nd, rfl⟩⟩; refine ⟨_, rfl, ?_⟩; (try simp only [errW_none, errW_some])) | (go_at_call 5; (with_reducible refine (halterlaw23_sure.calls k2  t149 _ ?side1 A51.out).mono ?_); (case side1 => refine GC.below hGC ?_; repeat (first | (with_reducible first | exact HB.out | apply below_alloc | apply pw_below_drewN | apply below_drew1) | exact HB.out | (with_reducible exact Below.refl _ _))); rintro e w52 ⟨rfl, hb⟩; have n0_ := Aside0.mk (Kd.R_below (by (with_reducible repeat (first | apply Kd.R_alloc | apply Kd.R_drewN | apply Kd.R_drew)); exact HO_9.out) hb); have n1_ := Aside0.mk (Kd.R_below (by (with_reducible repeat (first | apply Kd.R_alloc | apply Kd.R_drewN | apply Kd.R_drew)); exact HO_12.out) hb); have n2_ := Aside0.mk (below_step (by repeat (first | (with_reducible first | exact HB.out | apply below_alloc | apply pw_below_drewN | apply below_drew1) | exact HB.out | (with_reducible exact Below.refl _ _))) hb); clear HO_9; clear HO_12; clear HB; have HO_9 := n0_; have HO_12 := n1_; have HB := n2_; clear n0_ n1_ n2_; (try clear hb); (try clear hb2); (try clear hk); (try clear hi)))
                          go_ret
                          exact ⟨by first | rfl | (simp [errW_none, errW_some] <;> rfl) | (simp [*, errW_none, errW_some] <;> rfl), by repeat (first | (with_reducible first | exact HB.out | apply below_alloc | apply pw_below_drewN | apply below_drew1) | exact HB.out | (with_reducible exact Below.refl _ _))⟩
                        · rw [if_neg c50] at H
                          have c50b0 : (false == (decide (x10_1 > 0))) = false := by simpa using c50
                          (try (have c50b1 : decide (false = (decide (x10_1 > 0))) = false := by simpa using c50))
                          (try (have c50b2 : (false == (decide (x10_1 > 0))) = false := by simpa using c50))
                          (try (have c50b3 : ¬ (false = (decide (x10_1 > 0))) := by simpa using c50))
                          clear c50
                          obtain rfl := Option.some.inj H
                          go_wp2_with (first | ((with_reducible refine gate_callee (f := 6) rfl ?_); refine goesL_ (some 118) rfl rfl Tryd.func6 (by kernel_rfl) rfl #[.slice A0 l0.length c0, .int .i64 x8_2, .int .i64 (wrap64 (2 + (wrap64 (Int.tmod (IntKind.u64.wrap (a1)) 30))))] rfl (by (try simp only [List.map_toArray, List.map_cons, List.map_nil]); first | done | rfl | (simp only [List.length_drop, List.length_take]; rfl)) ?_; (with_reducible refine (pids_Next.calls k2 _ _ l0 x8_2 (wrap64 (2 + (wrap64 (Int.tmod (IntKind.u64.wrap (a1)) 30)))) t145 (some q147) _ ?side1 ?side2 A46.out).mono ?_); (case side1 => repeat (first | exact (Kd.C_below HR0.out HB.out) | (with_reducible refine Kd.C_alloc ?_ _) | (with_reducible refine Kd.C_drewN ?_ _) | (with_reducible refine Kd.C_drew ?_))); (case side2 => exact HC0.out); rintro e w' ⟨rfl, ⟨nd, rfl⟩⟩; refine ⟨_, rfl, ?_⟩; (try simp only [errW_none, errW_some])))
                          go_ret
                          exact ⟨by first | rfl | (simp [errW_none, errW_some] <;> rfl) | (simp [*, errW_none, errW_some] <;> rfl), by repeat (first | (with_reducible first | exact HB.out | apply below_alloc | apply pw_below_drewN | apply below_drew1) | exact HB.out | (with_reducible exact Below.refl _ _))⟩
              · rw [if_neg c24] at H
                exact absurd H (by simp)
      · rw [if_neg c8] at H
        exact absurd H (by simp)

/-- THE ONE PURE STATEMENT of halterlaw23_PidsTurn: yours. -/
def halterlaw23_PidsTurn.Pure : Prop := ∀ (l0 : List Int) (a1 : Int) (a2 : Int), l0.length ≤ maxLen → l0.length * 8 ≤ 140737488351232 → (∀ x ∈ l0, (Lit.int .i64 x).wf = true) → (Lit.int .i64 a1).wf = true → (Lit.int .i64 a2).wf = true → ∃ k, halterlaw23_PidsTurn.f k l0 a1 a2 = some true
theorem halterlaw23_PidsTurn.walk (P : halterlaw23_PidsTurn.Pure) (a0 : Option Addr) (len0 cap0 : Nat) (z0 : List Int) (a1 : Int) (a2 : Int) (w : World) (w0 : (a0 = none ∧ len0 = 0 ∧ cap0 = 0 ∧ z0 = []) ∨ ∃ x, a0 = some x ∧ len0 ≤ cap0 ∧ cap0 ≤ maxLen ∧ z0.length = cap0 ∧ (∀ i, i < z0.length → w.cell? (x.add i) = some (.int .i64 (z0.getD i 0))) ∧ ∀ n ∈ z0, (Lit.int .i64 n).wf = true) (y0 : len0 * 8 ≤ 140737488351232) (w1 : (Lit.int .i64 a1).wf = true) (w2 : (Lit.int .i64 a2).wf = true) (hGC : GC w) :
    Calls Tryd.prog 4 #[.slice a0 len0 cap0, .int .i64 a1, .int .i64 a2] w fun e w' => e = .returned (.bool true) ∧ Below w.heap.size w w' := by
  obtain ⟨l0, rfl, hr0, hm0, hw0, hc0⟩ := ReadsInt.ofRowC w0
  obtain ⟨k, h⟩ := P l0 a1 a2 hm0 y0 hw0 w1 w2
  refine (halterlaw23_PidsTurn.calls k _ _ l0 a1 a2 true w (Kd.C_of_reads (d := (0 : Int)) (h1 := fun _ => rfl) hr0) hc0 hGC h).mono ?_
  rintro e w' ⟨rfl, hd⟩
  exact ⟨rfl, hd⟩

end Go.Proofs.YtccahdgnckilfaaDoor.PPidsTurn
