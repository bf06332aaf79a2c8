-- Laid by this session's own printer (pp.py in the repo's wip/pp).
import Derived.Test.YtgomfkjdffcbhaaPWordShiftsx0
import Derived.Test.YtgomfkjdffcbhaaPWordShiftsx1
import Derived.Test.YtgomfkjdffcbhaaPWordShiftsx2
namespace Go.Proofs.Ytgomfkjdffcbhaa.PWordShifts
open Go.RowKit Go.Proofs.YtgomfkjdffcbhaaW.PrintWords Go.Proofs.YtgomfkjdffcbhaaW.PrintLast Go.Proofs.YtgomfkjdffcbhaaW.PrintMore Go.Proofs.YtgomfkjdffcbhaaX
attribute [local go_sem] max2_int min2_int max_two min_two max_three min_three max_four min_four   -- for this text's walks alone
set_option linter.unusedVariables false
set_option linter.unusedSimpArgs false
set_option linter.unnecessarySimpa false

/-! ### halterlaw01_WordShifts: function 3 -/
def halterlaw01_WordShifts.f (k : Nat) (a0 : Int) (a1 : Int) (a2 : Int) : Option (Bool) := (word_Shift.f a0 a1).bind fun t150 => ((halterref01_Shift.f k a0 a1).bind fun t151 => (if t150 = t151 then ((word_Sar.f a0 a1).bind fun t152 => ((halterref01_Sar.f k a0 a1).bind fun t153 => (if t152 = t153 then ((word_Turn.f a0 a1).bind fun t154 => ((halterref01_Turn.f k a0 a1).bind fun t155 => (if t154 = t155 then ((word_Sext.f a0 a2).bind fun t156 => ((halterref01_Sext.f k a0 a2).bind fun t157 => (if t156 = t157 then ((word_Zeros.f a0).bind fun t158 => ((halterref01_Zeros.f k a0).bind fun t159 => (if t158 = t159 then ((halterlaw01_sure.f k).bind fun t160 => (some t160)) else (some false)))) else (some false)))) else (some false)))) else (some false)))) else (some false)))
theorem halterlaw01_WordShifts.mono : ∀ a0 a1 a2 k, LeO (halterlaw01_WordShifts.f k a0 a1 a2) (halterlaw01_WordShifts.f (k + 1) a0 a1 a2) := by
  intro a0 a1 a2 k
  unfold halterlaw01_WordShifts.f
  repeat' first
      | (with_reducible exact halterlaw01_sure.mono _)
      | (with_reducible exact halterref01_Sar.mono _ _ _)
      | (with_reducible exact halterref01_Sext.mono _ _ _)
      | (with_reducible exact halterref01_Shift.mono _ _ _)
      | (with_reducible exact halterref01_Turn.mono _ _ _)
      | (with_reducible exact halterref01_Zeros.mono _ _)
      | (with_reducible exact LeO.refl _)
      | (with_reducible exact LeO.none _)
      | (with_reducible refine LeO.ite ?_ ?_)
      | (with_reducible refine LeO.bind ?_ (fun _ => ?_))
      | exact halterlaw01_sure.mono _
      | exact halterref01_Sar.mono _ _ _
      | exact halterref01_Sext.mono _ _ _
      | exact halterref01_Shift.mono _ _ _
      | exact halterref01_Turn.mono _ _ _
      | exact halterref01_Zeros.mono _ _
      | exact LeO.none _
      | refine LeO.ite ?_ ?_
      | refine LeO.bind ?_ (fun _ => ?_)
set_option maxHeartbeats 8000000 in
set_option maxRecDepth 100000 in
theorem halterlaw01_WordShifts.calls (k : Nat) (a0 : Int) (a1 : Int) (a2 : Int) (r : Bool) (w : World) (h : halterlaw01_WordShifts.f k a0 a1 a2 = some r) :
    Calls Try.prog 3 #[.int .u32 a0, .int .i64 a1, .int .i64 a2] w fun e w' => e = .returned (.bool r) ∧ Below w.heap.size w w' := by
  have HB := Aside0.mk (Below.refl w.heap.size w)
  have H : ((word_Shift.f a0 a1).bind fun t150 => ((halterref01_Shift.f k a0 a1).bind fun t151 => (if t150 = t151 then ((word_Sar.f a0 a1).bind fun t152 => ((halterref01_Sar.f k a0 a1).bind fun t153 => (if t152 = t153 then ((word_Turn.f a0 a1).bind fun t154 => ((halterref01_Turn.f k a0 a1).bind fun t155 => (if t154 = t155 then ((word_Sext.f a0 a2).bind fun t156 => ((halterref01_Sext.f k a0 a2).bind fun t157 => (if t156 = t157 then ((word_Zeros.f a0).bind fun t158 => ((halterref01_Zeros.f k a0).bind fun t159 => (if t158 = t159 then ((halterlaw01_sure.f k).bind fun t160 => (some t160)) else (some false)))) else (some false)))) else (some false)))) else (some false)))) else (some false)))) = some r := h
  clear h
  replace H := Option.bind_eq_some_iff.mp H
  obtain ⟨t150, A40, H⟩ := H
  replace H : ((halterref01_Shift.f k a0 a1).bind fun t151 => (if t150 = t151 then ((word_Sar.f a0 a1).bind fun t152 => ((halterref01_Sar.f k a0 a1).bind fun t153 => (if t152 = t153 then ((word_Turn.f a0 a1).bind fun t154 => ((halterref01_Turn.f k a0 a1).bind fun t155 => (if t154 = t155 then ((word_Sext.f a0 a2).bind fun t156 => ((halterref01_Sext.f k a0 a2).bind fun t157 => (if t156 = t157 then ((word_Zeros.f a0).bind fun t158 => ((halterref01_Zeros.f k a0).bind fun t159 => (if t158 = t159 then ((halterlaw01_sure.f k).bind fun t160 => (some t160)) else (some false)))) else (some false)))) else (some false)))) else (some false)))) else (some false))) = some r := H
  have A4 := Aside0.mk A40
  clear A40
  replace H := Option.bind_eq_some_iff.mp H
  obtain ⟨t151, A50, H⟩ := H
  replace H : (if t150 = t151 then ((word_Sar.f a0 a1).bind fun t152 => ((halterref01_Sar.f k a0 a1).bind fun t153 => (if t152 = t153 then ((word_Turn.f a0 a1).bind fun t154 => ((halterref01_Turn.f k a0 a1).bind fun t155 => (if t154 = t155 then ((word_Sext.f a0 a2).bind fun t156 => ((halterref01_Sext.f k a0 a2).bind fun t157 => (if t156 = t157 then ((word_Zeros.f a0).bind fun t158 => ((halterref01_Zeros.f k a0).bind fun t159 => (if t158 = t159 then ((halterlaw01_sure.f k).bind fun t160 => (some t160)) else (some false)))) else (some false)))) else (some false)))) else (some false)))) else (some false)) = some r := H
  have A5 := Aside0.mk A50
  clear A50
  by_cases c6 : t150 = t151
  · rw [if_pos c6] at H
    have c6b0 : (t150 == t151) = true := beq_iff_eq.mpr c6
    have c6b1 : (t150 != t151) = false := bne_eq_false_iff_eq.mpr c6
    clear c6
    replace H := Option.bind_eq_some_iff.mp H
    obtain ⟨t152, A70, H⟩ := H
    replace H : ((halterref01_Sar.f k a0 a1).bind fun t153 => (if t152 = t153 then ((word_Turn.f a0 a1).bind fun t154 => ((halterref01_Turn.f k a0 a1).bind fun t155 => (if t154 = t155 then ((word_Sext.f a0 a2).bind fun t156 => ((halterref01_Sext.f k a0 a2).bind fun t157 => (if t156 = t157 then ((word_Zeros.f a0).bind fun t158 => ((halterref01_Zeros.f k a0).bind fun t159 => (if t158 = t159 then ((halterlaw01_sure.f k).bind fun t160 => (some t160)) else (some false)))) else (some false)))) else (some false)))) else (some false))) = some r := H
    have A7 := Aside0.mk A70
    clear A70
    replace H := Option.bind_eq_some_iff.mp H
    obtain ⟨t153, A80, H⟩ := H
    replace H : (if t152 = t153 then ((word_Turn.f a0 a1).bind fun t154 => ((halterref01_Turn.f k a0 a1).bind fun t155 => (if t154 = t155 then ((word_Sext.f a0 a2).bind fun t156 => ((halterref01_Sext.f k a0 a2).bind fun t157 => (if t156 = t157 then ((word_Zeros.f a0).bind fun t158 => ((halterref01_Zeros.f k a0).bind fun t159 => (if t158 = t159 then ((halterlaw01_sure.f k).bind fun t160 => (some t160)) else (some false)))) else (some false)))) else (some false)))) else (some false)) = some r := H
    have A8 := Aside0.mk A80
    clear A80
    by_cases c9 : t152 = t153
    · rw [if_pos c9] at H
      have c9b0 : (t152 == t153) = true := beq_iff_eq.mpr c9
      have c9b1 : (t152 != t153) = false := bne_eq_false_iff_eq.mpr c9
      clear c9
      replace H := Option.bind_eq_some_iff.mp H
      obtain ⟨t154, A100, H⟩ := H
      replace H : ((halterref01_Turn.f k a0 a1).bind fun t155 => (if t154 = t155 then ((word_Sext.f a0 a2).bind fun t156 => ((halterref01_Sext.f k a0 a2).bind fun t157 => (if t156 = t157 then ((word_Zeros.f a0).bind fun t158 => ((halterref01_Zeros.f k a0).bind fun t159 => (if t158 = t159 then ((halterlaw01_sure.f k).bind fun t160 => (some t160)) else (some false)))) else (some false)))) else (some false))) = some r := H
      have A10 := Aside0.mk A100
      clear A100
      replace H := Option.bind_eq_some_iff.mp H
      obtain ⟨t155, A110, H⟩ := H
      replace H : (if t154 = t155 then ((word_Sext.f a0 a2).bind fun t156 => ((halterref01_Sext.f k a0 a2).bind fun t157 => (if t156 = t157 then ((word_Zeros.f a0).bind fun t158 => ((halterref01_Zeros.f k a0).bind fun t159 => (if t158 = t159 then ((halterlaw01_sure.f k).bind fun t160 => (some t160)) else (some false)))) else (some false)))) else (some false)) = some r := H
      have A11 := Aside0.mk A110
      clear A110
      by_cases c12 : t154 = t155
      · rw [if_pos c12] at H
        have c12b0 : (t154 == t155) = true := beq_iff_eq.mpr c12
        have c12b1 : (t154 != t155) = false := bne_eq_false_iff_eq.mpr c12
        clear c12
        replace H := Option.bind_eq_some_iff.mp H
        obtain ⟨t156, A130, H⟩ := H
        replace H : ((halterref01_Sext.f k a0 a2).bind fun t157 => (if t156 = t157 then ((word_Zeros.f a0).bind fun t158 => ((halterref01_Zeros.f k a0).bind fun t159 => (if t158 = t159 then ((halterlaw01_sure.f k).bind fun t160 => (some t160)) else (some false)))) else (some false))) = some r := H
        have A13 := Aside0.mk A130
        clear A130
        replace H := Option.bind_eq_some_iff.mp H
        obtain ⟨t157, A140, H⟩ := H
        replace H : (if t156 = t157 then ((word_Zeros.f a0).bind fun t158 => ((halterref01_Zeros.f k a0).bind fun t159 => (if t158 = t159 then ((halterlaw01_sure.f k).bind fun t160 => (some t160)) else (some false)))) else (some false)) = some r := H
        have A14 := Aside0.mk A140
        clear A140
        by_cases c15 : t156 = t157
        · rw [if_pos c15] at H
          have c15b0 : (t156 == t157) = true := beq_iff_eq.mpr c15
          have c15b1 : (t156 != t157) = false := bne_eq_false_iff_eq.mpr c15
          clear c15
          replace H := Option.bind_eq_some_iff.mp H
          obtain ⟨t158, A160, H⟩ := H
          replace H : ((halterref01_Zeros.f k a0).bind fun t159 => (if t158 = t159 then ((halterlaw01_sure.f k).bind fun t160 => (some t160)) else (some false))) = some r := H
          have A16 := Aside0.mk A160
          clear A160
          replace H := Option.bind_eq_some_iff.mp H
          obtain ⟨t159, A170, H⟩ := H
          replace H : (if t158 = t159 then ((halterlaw01_sure.f k).bind fun t160 => (some t160)) else (some false)) = some r := H
          have A17 := Aside0.mk A170
          clear A170
          by_cases c18 : t158 = t159
          · rw [if_pos c18] at H
            have c18b0 : (t158 == t159) = true := beq_iff_eq.mpr c18
            have c18b1 : (t158 != t159) = false := bne_eq_false_iff_eq.mpr c18
            clear c18
            replace H := Option.bind_eq_some_iff.mp H
            obtain ⟨t160, A190, H⟩ := H
            replace H : (some t160) = some r := H
            have A19 := Aside0.mk A190
            clear A190
            obtain rfl := Option.some.inj H
            go_enter Try.func3, Try.ntmps3
            go_wp2_with (first | ((with_reducible refine gate_callee (f := 8) rfl ?_); refine goesL_ (some 9) rfl rfl Try.func8 (by kernel_rfl) rfl #[.int .u32 a0, .int .i64 a1] rfl (by (try simp only [List.map_toArray, List.map_cons, List.map_nil]); first | done | rfl | (simp only [List.length_drop, List.length_take]; rfl)) ?_; (with_reducible refine (word_Shift.calls a0 a1 t150 _ A4.out).mono ?_); rintro e w' ⟨rfl, ⟨nd, rfl⟩⟩; refine ⟨_, rfl, ?_⟩) | ((with_reducible refine gate_callee (f := 9) rfl ?_); refine goesL_ (some 12) rfl rfl Try.func9 (by kernel_rfl) rfl #[.int .u32 a0, .int .i64 a1] rfl (by (try simp only [List.map_toArray, List.map_cons, List.map_nil]); first | done | rfl | (simp only [List.length_drop, List.length_take]; rfl)) ?_; (with_reducible refine (halterref01_Shift.calls k a0 a1 t151 _ A5.out).mono ?_); rintro e w' ⟨rfl, ⟨nd, rfl⟩⟩; refine ⟨_, rfl, ?_⟩) | (go_at_call 10; (with_reducible refine (word_Sar.calls a0 a1 t152 _ A7.out).mono ?_); rintro e w' ⟨rfl, ⟨nd, rfl⟩⟩) | (go_at_call 11; (with_reducible refine (halterref01_Sar.calls k a0 a1 t153 _ A8.out).mono ?_); rintro e w' ⟨rfl, ⟨nd, rfl⟩⟩) | (go_at_call 12; (with_reducible refine (word_Turn.calls a0 a1 t154 _ A10.out).mono ?_); rintro e w' ⟨rfl, ⟨nd, rfl⟩⟩) | (go_at_call 13; (with_reducible refine (halterref01_Turn.calls k a0 a1 t155 _ A11.out).mono ?_); rintro e w' ⟨rfl, ⟨nd, rfl⟩⟩) | (go_at_call 14; (with_reducible refine (word_Sext.calls a0 a2 t156 _ A13.out).mono ?_); rintro e w' ⟨rfl, ⟨nd, rfl⟩⟩) | (go_at_call 15; (with_reducible refine (halterref01_Sext.calls k a0 a2 t157 _ A14.out).mono ?_); rintro e w' ⟨rfl, ⟨nd, rfl⟩⟩) | (go_at_call 16; (with_reducible refine (word_Zeros.calls a0 t158 _ A16.out).mono ?_); rintro e w' ⟨rfl, ⟨nd, rfl⟩⟩) | (go_at_call 17; (with_reducible refine (halterref01_Zeros.calls k a0 t159 _ A17.out).mono ?_); rintro e w' ⟨rfl, ⟨nd, rfl⟩⟩) | (go_at_call 18; (with_reducible refine (halterlaw01_sure.calls k  t160 _ A19.out).mono ?_); rintro e w20 ⟨rfl, hb⟩; have n0_ := Aside0.mk (below_step (by repeat (first | (with_reducible first | exact HB.out | apply below_alloc | apply pw_below_drewN | apply below_drew1) | exact HB.out | (with_reducible exact Below.refl _ _))) hb); clear HB; have HB := n0_; clear n0_; (try clear hb); (try clear hb2); (try clear hk); (try clear hi)))
            go_ret
            exact ⟨by first | rfl | (simp [errW_none, errW_some] <;> rfl) | (simp [*, errW_none, errW_some] <;> rfl), by repeat (first | (with_reducible first | exact HB.out | apply below_alloc | apply pw_below_drewN | apply below_drew1) | exact HB.out | (with_reducible exact Below.refl _ _))⟩
          · rw [if_neg c18] at H
            have c18b0 : (t158 == t159) = false := beq_eq_false_iff_ne.mpr c18
            have c18b1 : (t158 != t159) = true := bne_iff_ne.mpr c18
            obtain rfl := Option.some.inj H
            go_enter Try.func3, Try.ntmps3
            go_wp2_with (first | ((with_reducible refine gate_callee (f := 8) rfl ?_); refine goesL_ (some 9) rfl rfl Try.func8 (by kernel_rfl) rfl #[.int .u32 a0, .int .i64 a1] rfl (by (try simp only [List.map_toArray, List.map_cons, List.map_nil]); first | done | rfl | (simp only [List.length_drop, List.length_take]; rfl)) ?_; (with_reducible refine (word_Shift.calls a0 a1 t150 _ A4.out).mono ?_); rintro e w' ⟨rfl, ⟨nd, rfl⟩⟩; refine ⟨_, rfl, ?_⟩) | ((with_reducible refine gate_callee (f := 9) rfl ?_); refine goesL_ (some 12) rfl rfl Try.func9 (by kernel_rfl) rfl #[.int .u32 a0, .int .i64 a1] rfl (by (try simp only [List.map_toArray, List.map_cons, List.map_nil]); first | done | rfl | (simp only [List.length_drop, List.length_take]; rfl)) ?_; (with_reducible refine (halterref01_Shift.calls k a0 a1 t151 _ A5.out).mono ?_); rintro e w' ⟨rfl, ⟨nd, rfl⟩⟩; refine ⟨_, rfl, ?_⟩) | (go_at_call 10; (with_reducible refine (word_Sar.calls a0 a1 t152 _ A7.out).mono ?_); rintro e w' ⟨rfl, ⟨nd, rfl⟩⟩) | (go_at_call 11; (with_reducible refine (halterref01_Sar.calls k a0 a1 t153 _ A8.out).mono ?_); rintro e w' ⟨rfl, ⟨nd, rfl⟩⟩) | (go_at_call 12; (with_reducible refine (word_Turn.calls a0 a1 t154 _ A10.out).mono ?_); rintro e w' ⟨rfl, ⟨nd, rfl⟩⟩) | (go_at_call 13; (with_reducible refine (halterref01_Turn.calls k a0 a1 t155 _ A11.out).mono ?_); rintro e w' ⟨rfl, ⟨nd, rfl⟩⟩) | (go_at_call 14; (with_reducible refine (word_Sext.calls a0 a2 t156 _ A13.out).mono ?_); rintro e w' ⟨rfl, ⟨nd, rfl⟩⟩) | (go_at_call 15; (with_reducible refine (halterref01_Sext.calls k a0 a2 t157 _ A14.out).mono ?_); rintro e w' ⟨rfl, ⟨nd, rfl⟩⟩) | (go_at_call 16; (with_reducible refine (word_Zeros.calls a0 t158 _ A16.out).mono ?_); rintro e w' ⟨rfl, ⟨nd, rfl⟩⟩) | (go_at_call 17; (with_reducible refine (halterref01_Zeros.calls k a0 t159 _ A17.out).mono ?_); rintro e w' ⟨rfl, ⟨nd, rfl⟩⟩))
            go_ret
            exact ⟨by first | rfl | (simp [errW_none, errW_some] <;> rfl) | (simp [*, errW_none, errW_some] <;> rfl), by repeat (first | (with_reducible first | exact HB.out | apply below_alloc | apply pw_below_drewN | apply below_drew1) | exact HB.out | (with_reducible exact Below.refl _ _))⟩
        · rw [if_neg c15] at H
          have c15b0 : (t156 == t157) = false := beq_eq_false_iff_ne.mpr c15
          have c15b1 : (t156 != t157) = true := bne_iff_ne.mpr c15
          obtain rfl := Option.some.inj H
          go_enter Try.func3, Try.ntmps3
          go_wp2_with (first | ((with_reducible refine gate_callee (f := 8) rfl ?_); refine goesL_ (some 9) rfl rfl Try.func8 (by kernel_rfl) rfl #[.int .u32 a0, .int .i64 a1] rfl (by (try simp only [List.map_toArray, List.map_cons, List.map_nil]); first | done | rfl | (simp only [List.length_drop, List.length_take]; rfl)) ?_; (with_reducible refine (word_Shift.calls a0 a1 t150 _ A4.out).mono ?_); rintro e w' ⟨rfl, ⟨nd, rfl⟩⟩; refine ⟨_, rfl, ?_⟩) | ((with_reducible refine gate_callee (f := 9) rfl ?_); refine goesL_ (some 12) rfl rfl Try.func9 (by kernel_rfl) rfl #[.int .u32 a0, .int .i64 a1] rfl (by (try simp only [List.map_toArray, List.map_cons, List.map_nil]); first | done | rfl | (simp only [List.length_drop, List.length_take]; rfl)) ?_; (with_reducible refine (halterref01_Shift.calls k a0 a1 t151 _ A5.out).mono ?_); rintro e w' ⟨rfl, ⟨nd, rfl⟩⟩; refine ⟨_, rfl, ?_⟩) | (go_at_call 10; (with_reducible refine (word_Sar.calls a0 a1 t152 _ A7.out).mono ?_); rintro e w' ⟨rfl, ⟨nd, rfl⟩⟩) | (go_at_call 11; (with_reducible refine (halterref01_Sar.calls k a0 a1 t153 _ A8.out).mono ?_); rintro e w' ⟨rfl, ⟨nd, rfl⟩⟩) | (go_at_call 12; (with_reducible refine (word_Turn.calls a0 a1 t154 _ A10.out).mono ?_); rintro e w' ⟨rfl, ⟨nd, rfl⟩⟩) | (go_at_call 13; (with_reducible refine (halterref01_Turn.calls k a0 a1 t155 _ A11.out).mono ?_); rintro e w' ⟨rfl, ⟨nd, rfl⟩⟩) | (go_at_call 14; (with_reducible refine (word_Sext.calls a0 a2 t156 _ A13.out).mono ?_); rintro e w' ⟨rfl, ⟨nd, rfl⟩⟩) | (go_at_call 15; (with_reducible refine (halterref01_Sext.calls k a0 a2 t157 _ A14.out).mono ?_); rintro e w' ⟨rfl, ⟨nd, rfl⟩⟩))
          go_ret
          exact ⟨by first | rfl | (simp [errW_none, errW_some] <;> rfl) | (simp [*, errW_none, errW_some] <;> rfl), by repeat (first | (with_reducible first | exact HB.out | apply below_alloc | apply pw_below_drewN | apply below_drew1) | exact HB.out | (with_reducible exact Below.refl _ _))⟩
      · rw [if_neg c12] at H
        have c12b0 : (t154 == t155) = false := beq_eq_false_iff_ne.mpr c12
        have c12b1 : (t154 != t155) = true := bne_iff_ne.mpr c12
        obtain rfl := Option.some.inj H
        go_enter Try.func3, Try.ntmps3
        go_wp2_with (first | ((with_reducible refine gate_callee (f := 8) rfl ?_); refine goesL_ (some 9) rfl rfl Try.func8 (by kernel_rfl) rfl #[.int .u32 a0, .int .i64 a1] rfl (by (try simp only [List.map_toArray, List.map_cons, List.map_nil]); first | done | rfl | (simp only [List.length_drop, List.length_take]; rfl)) ?_; (with_reducible refine (word_Shift.calls a0 a1 t150 _ A4.out).mono ?_); rintro e w' ⟨rfl, ⟨nd, rfl⟩⟩; refine ⟨_, rfl, ?_⟩) | ((with_reducible refine gate_callee (f := 9) rfl ?_); refine goesL_ (some 12) rfl rfl Try.func9 (by kernel_rfl) rfl #[.int .u32 a0, .int .i64 a1] rfl (by (try simp only [List.map_toArray, List.map_cons, List.map_nil]); first | done | rfl | (simp only [List.length_drop, List.length_take]; rfl)) ?_; (with_reducible refine (halterref01_Shift.calls k a0 a1 t151 _ A5.out).mono ?_); rintro e w' ⟨rfl, ⟨nd, rfl⟩⟩; refine ⟨_, rfl, ?_⟩) | (go_at_call 10; (with_reducible refine (word_Sar.calls a0 a1 t152 _ A7.out).mono ?_); rintro e w' ⟨rfl, ⟨nd, rfl⟩⟩) | (go_at_call 11; (with_reducible refine (halterref01_Sar.calls k a0 a1 t153 _ A8.out).mono ?_); rintro e w' ⟨rfl, ⟨nd, rfl⟩⟩) | (go_at_call 12; (with_reducible refine (word_Turn.calls a0 a1 t154 _ A10.out).mono ?_); rintro e w' ⟨rfl, ⟨nd, rfl⟩⟩) | (go_at_call 13; (with_reducible refine (halterref01_Turn.calls k a0 a1 t155 _ A11.out).mono ?_); rintro e w' ⟨rfl, ⟨nd, rfl⟩⟩))
        go_ret
        exact ⟨by first | rfl | (simp [errW_none, errW_some] <;> rfl) | (simp [*, errW_none, errW_some] <;> rfl), by repeat (first | (with_reducible first | exact HB.out | apply below_alloc | apply pw_below_drewN | apply below_drew1) | exact HB.out | (with_reducible exact Below.refl _ _))⟩
    · rw [if_neg c9] at H
      have c9b0 : (t152 == t153) = false := beq_eq_false_iff_ne.mpr c9
      have c9b1 : (t152 != t153) = true := bne_iff_ne.mpr c9
      obtain rfl := Option.some.inj H
      go_enter Try.func3, Try.ntmps3
      go_wp2_with (first | ((with_reducible refine gate_callee (f := 8) rfl ?_); refine goesL_ (some 9) rfl rfl Try.func8 (by kernel_rfl) rfl #[.int .u32 a0, .int .i64 a1] rfl (by (try simp only [List.map_toArray, List.map_cons, List.map_nil]); first | done | rfl | (simp only [List.length_drop, List.length_take]; rfl)) ?_; (with_reducible refine (word_Shift.calls a0 a1 t150 _ A4.out).mono ?_); rintro e w' ⟨rfl, ⟨nd, rfl⟩⟩; refine ⟨_, rfl, ?_⟩) | ((with_reducible refine gate_callee (f := 9) rfl ?_); refine goesL_ (some 12) rfl rfl Try.func9 (by kernel_rfl) rfl #[.int .u32 a0, .int .i64 a1] rfl (by (try simp only [List.map_toArray, List.map_cons, List.map_nil]); first | done | rfl | (simp only [List.length_drop, List.length_take]; rfl)) ?_; (with_reducible refine (halterref01_Shift.calls k a0 a1 t151 _ A5.out).mono ?_); rintro e w' ⟨rfl, ⟨nd, rfl⟩⟩; refine ⟨_, rfl, ?_⟩) | (go_at_call 10; (with_reducible refine (word_Sar.calls a0 a1 t152 _ A7.out).mono ?_); rintro e w' ⟨rfl, ⟨nd, rfl⟩⟩) | (go_at_call 11; (with_reducible refine (halterref01_Sar.calls k a0 a1 t153 _ A8.out).mono ?_); rintro e w' ⟨rfl, ⟨nd, rfl⟩⟩))
      go_ret
      exact ⟨by first | rfl | (simp [errW_none, errW_some] <;> rfl) | (simp [*, errW_none, errW_some] <;> rfl), by repeat (first | (with_reducible first | exact HB.out | apply below_alloc | apply pw_below_drewN | apply below_drew1) | exact HB.out | (with_reducible exact Below.refl _ _))⟩
  · rw [if_neg c6] at H
    have c6b0 : (t150 == t151) = false := beq_eq_false_iff_ne.mpr c6
    have c6b1 : (t150 != t151) = true := bne_iff_ne.mpr c6
    obtain rfl := Option.some.inj H
    go_enter Try.func3, Try.ntmps3
    go_wp2_with (first | ((with_reducible refine gate_callee (f := 8) rfl ?_); refine goesL_ (some 9) rfl rfl Try.func8 (by kernel_rfl) rfl #[.int .u32 a0, .int .i64 a1] rfl (by (try simp only [List.map_toArray, List.map_cons, List.map_nil]); first | done | rfl | (simp only [List.length_drop, List.length_take]; rfl)) ?_; (with_reducible refine (word_Shift.calls a0 a1 t150 _ A4.out).mono ?_); rintro e w' ⟨rfl, ⟨nd, rfl⟩⟩; refine ⟨_, rfl, ?_⟩) | ((with_reducible refine gate_callee (f := 9) rfl ?_); refine goesL_ (some 12) rfl rfl Try.func9 (by kernel_rfl) rfl #[.int .u32 a0, .int .i64 a1] rfl (by (try simp only [List.map_toArray, List.map_cons, List.map_nil]); first | done | rfl | (simp only [List.length_drop, List.length_take]; rfl)) ?_; (with_reducible refine (halterref01_Shift.calls k a0 a1 t151 _ A5.out).mono ?_); rintro e w' ⟨rfl, ⟨nd, rfl⟩⟩; refine ⟨_, rfl, ?_⟩))
    go_ret
    exact ⟨by first | rfl | (simp [errW_none, errW_some] <;> rfl) | (simp [*, errW_none, errW_some] <;> rfl), by repeat (first | (with_reducible first | exact HB.out | apply below_alloc | apply pw_below_drewN | apply below_drew1) | exact HB.out | (with_reducible exact Below.refl _ _))⟩

/-- THE ONE PURE STATEMENT of halterlaw01_WordShifts: yours. -/
def halterlaw01_WordShifts.Pure : Prop := ∀ (a0 : Int) (a1 : Int) (a2 : Int), (Lit.int .u32 a0).wf = true → (Lit.int .i64 a1).wf = true → (Lit.int .i64 a2).wf = true → ∃ k, halterlaw01_WordShifts.f k a0 a1 a2 = some true
theorem halterlaw01_WordShifts.walk (P : halterlaw01_WordShifts.Pure) (a0 : Int) (a1 : Int) (a2 : Int) (w : World) (w0 : (Lit.int .u32 a0).wf = true) (w1 : (Lit.int .i64 a1).wf = true) (w2 : (Lit.int .i64 a2).wf = true) :
    Calls Try.prog 3 #[.int .u32 a0, .int .i64 a1, .int .i64 a2] w fun e w' => e = .returned (.bool true) ∧ Below w.heap.size w w' := by
  obtain ⟨k, h⟩ := P a0 a1 a2 w0 w1 w2
  refine (halterlaw01_WordShifts.calls k a0 a1 a2 true w h).mono ?_
  rintro e w' ⟨rfl, hd⟩
  exact ⟨rfl, hd⟩

end Go.Proofs.Ytgomfkjdffcbhaa.PWordShifts
