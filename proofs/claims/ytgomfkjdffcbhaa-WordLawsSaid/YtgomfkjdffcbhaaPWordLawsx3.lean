-- Laid by this session's own printer (pp.py in the repo's wip/pp).
import Derived.Test.YtgomfkjdffcbhaaPWordLawsx0
import Derived.Test.YtgomfkjdffcbhaaPWordLawsx1
import Derived.Test.YtgomfkjdffcbhaaPWordLawsx2
namespace Go.Proofs.Ytgomfkjdffcbhaa.PWordLaws
open Go.RowKit Go.Proofs.YtgomfkjdffcbhaaW.PrintWords Go.Proofs.YtgomfkjdffcbhaaW.PrintLast Go.Proofs.YtgomfkjdffcbhaaW.PrintMore Go.Proofs.YtgomfkjdffcbhaaX
attribute [local go_sem] max2_int min2_int max_two min_two max_three min_three max_four min_four   -- for this text's walks alone
set_option linter.unusedVariables false
set_option linter.unusedSimpArgs false
set_option linter.unnecessarySimpa false

/-! ### halterlaw01_WordLaws: function 7 -/
mutual
def halterlaw01_WordLaws.j0 : Nat → Int → Int → Int → Bool → Option (Bool)
  | 0, _, _, _, _ => none
  | k + 1, x0, x1, x2, x55 => if x55 = true then (some false) else ((word_Store.f k x0 4).bind fun bt150 => ((word_Load.f k bt150.1).bind fun bt154 => (if bt150.2.isNone = true then (if bt154.2.isNone = true then (halterlaw01_WordLaws.j1 k x0 x1 x2 (bt154.1 != x0)) else (halterlaw01_WordLaws.j1 k x0 x1 x2 true)) else (halterlaw01_WordLaws.j1 k x0 x1 x2 true))))
def halterlaw01_WordLaws.j1 : Nat → Int → Int → Int → Bool → Option (Bool)
  | 0, _, _, _, _ => none
  | k + 1, x0, x1, x2, x76 => if x76 = true then (some false) else ((word_Turn.f x0 (wrap64 (Int.tmod (IntKind.u64.wrap (x2)) 32))).bind fun t158 => ((word_Turn.f t158 (wrap64 (32 - (wrap64 (Int.tmod (IntKind.u64.wrap (x2)) 32))))).bind fun t159 => (if t159 = x0 then ((word_Sext.f x0 (wrap64 (Int.tmod (IntKind.u64.wrap (x2)) 32))).bind fun t160 => ((word_Sext.f t160 (wrap64 (Int.tmod (IntKind.u64.wrap (x2)) 32))).bind fun t161 => ((word_Sext.f x0 (wrap64 (Int.tmod (IntKind.u64.wrap (x2)) 32))).bind fun t162 => (if t161 = t162 then ((word_Zeros.f x0).bind fun t163 => (if t163 < 0 then (halterlaw01_WordLaws.j2 k x0 x1 true) else ((word_Zeros.f x0).bind fun t164 => (halterlaw01_WordLaws.j2 k x0 x1 (decide (t164 > 32)))))) else (halterlaw01_WordLaws.j2 k x0 x1 true))))) else (halterlaw01_WordLaws.j2 k x0 x1 true))))
def halterlaw01_WordLaws.j2 : Nat → Int → Int → Bool → Option (Bool)
  | 0, _, _, _ => none
  | k + 1, x0, x1, x109 => if x109 = true then (some false) else (if x1 = 0 then ((halterlaw01_sure.f k).bind fun t165 => (some t165)) else ((word_Div.f x0 x1).bind fun bt166 => ((word_Mul.f bt166.1 x1).bind fun bt169 => ((word_Add.f k bt169.1 bt166.2.1 false).bind fun bt171 => ((word_Signed.f x0 x1).bind fun bt174 => ((word_Mul.f bt174.1 x1).bind fun bt177 => ((word_Add.f k bt177.1 bt174.2.1 false).bind fun bt179 => (if bt166.2.2.isNone = true then (if bt174.2.2.isNone = true then (if bt171.1 = x0 then (if bt166.2.1 < x1 then (if bt179.1 = x0 then ((halterlaw01_sure.f k).bind fun t184 => (some t184)) else (some false)) else (some false)) else (some false)) else (some false)) else (some false)))))))))
end
def halterlaw01_WordLaws.f (k : Nat) (a0 : Int) (a1 : Int) (a2 : Int) : Option (Bool) := (word_Add.f k a0 a1 false).bind fun bt144 => ((word_Sub.f bt144.1 a1).bind fun bt147 => (if bt147.1 = a0 then (halterlaw01_WordLaws.j0 k a0 a1 a2 (bt144.2.1 != bt147.2.1)) else (halterlaw01_WordLaws.j0 k a0 a1 a2 true)))
theorem halterlaw01_WordLaws.mono_l : ∀ k, (∀ y0 y1 y2 y3, LeO (halterlaw01_WordLaws.j0 k y0 y1 y2 y3) (halterlaw01_WordLaws.j0 (k + 1) y0 y1 y2 y3)) ∧ (∀ y0 y1 y2 y3, LeO (halterlaw01_WordLaws.j1 k y0 y1 y2 y3) (halterlaw01_WordLaws.j1 (k + 1) y0 y1 y2 y3)) ∧ (∀ y0 y1 y2, LeO (halterlaw01_WordLaws.j2 k y0 y1 y2) (halterlaw01_WordLaws.j2 (k + 1) y0 y1 y2))
  | 0 => ⟨fun _ _ _ _ r h => by simp [halterlaw01_WordLaws.j0] at h, fun _ _ _ _ r h => by simp [halterlaw01_WordLaws.j1] at h, fun _ _ _ r h => by simp [halterlaw01_WordLaws.j2] at h⟩
  | k + 1 => by
    obtain ⟨ih0, ih1, ih2⟩ := halterlaw01_WordLaws.mono_l k
    refine ⟨?_, ?_, ?_⟩
    · intro y0 y1 y2 y3
      unfold halterlaw01_WordLaws.j0
      repeat' first
      | (with_reducible exact ih0 _ _ _ _)
      | (with_reducible exact ih1 _ _ _ _)
      | (with_reducible exact ih2 _ _ _)
      | (with_reducible exact halterlaw01_sure.mono _)
      | (with_reducible exact word_Add.mono _ _ _ _)
      | (with_reducible exact word_Load.mono _ _)
      | (with_reducible exact word_Store.mono _ _ _)
      | (with_reducible exact LeO.refl _)
      | (with_reducible exact LeO.none _)
      | (with_reducible refine LeO.ite ?_ ?_)
      | (with_reducible refine LeO.bind ?_ (fun _ => ?_))
      | exact ih0 _ _ _ _
      | exact ih1 _ _ _ _
      | exact ih2 _ _ _
      | exact halterlaw01_sure.mono _
      | exact word_Add.mono _ _ _ _
      | exact word_Load.mono _ _
      | exact word_Store.mono _ _ _
      | exact LeO.none _
      | refine LeO.ite ?_ ?_
      | refine LeO.bind ?_ (fun _ => ?_)
    · intro y0 y1 y2 y3
      unfold halterlaw01_WordLaws.j1
      repeat' first
      | (with_reducible exact ih0 _ _ _ _)
      | (with_reducible exact ih1 _ _ _ _)
      | (with_reducible exact ih2 _ _ _)
      | (with_reducible exact halterlaw01_sure.mono _)
      | (with_reducible exact word_Add.mono _ _ _ _)
      | (with_reducible exact word_Load.mono _ _)
      | (with_reducible exact word_Store.mono _ _ _)
      | (with_reducible exact LeO.refl _)
      | (with_reducible exact LeO.none _)
      | (with_reducible refine LeO.ite ?_ ?_)
      | (with_reducible refine LeO.bind ?_ (fun _ => ?_))
      | exact ih0 _ _ _ _
      | exact ih1 _ _ _ _
      | exact ih2 _ _ _
      | exact halterlaw01_sure.mono _
      | exact word_Add.mono _ _ _ _
      | exact word_Load.mono _ _
      | exact word_Store.mono _ _ _
      | exact LeO.none _
      | refine LeO.ite ?_ ?_
      | refine LeO.bind ?_ (fun _ => ?_)
    · intro y0 y1 y2
      unfold halterlaw01_WordLaws.j2
      repeat' first
      | (with_reducible exact ih0 _ _ _ _)
      | (with_reducible exact ih1 _ _ _ _)
      | (with_reducible exact ih2 _ _ _)
      | (with_reducible exact halterlaw01_sure.mono _)
      | (with_reducible exact word_Add.mono _ _ _ _)
      | (with_reducible exact word_Load.mono _ _)
      | (with_reducible exact word_Store.mono _ _ _)
      | (with_reducible exact LeO.refl _)
      | (with_reducible exact LeO.none _)
      | (with_reducible refine LeO.ite ?_ ?_)
      | (with_reducible refine LeO.bind ?_ (fun _ => ?_))
      | exact ih0 _ _ _ _
      | exact ih1 _ _ _ _
      | exact ih2 _ _ _
      | exact halterlaw01_sure.mono _
      | exact word_Add.mono _ _ _ _
      | exact word_Load.mono _ _
      | exact word_Store.mono _ _ _
      | exact LeO.none _
      | refine LeO.ite ?_ ?_
      | refine LeO.bind ?_ (fun _ => ?_)
theorem halterlaw01_WordLaws.mono : ∀ a0 a1 a2 k, LeO (halterlaw01_WordLaws.f k a0 a1 a2) (halterlaw01_WordLaws.f (k + 1) a0 a1 a2) := by
  intro a0 a1 a2 k
  obtain ⟨ih0, ih1, ih2⟩ := halterlaw01_WordLaws.mono_l k
  unfold halterlaw01_WordLaws.f
  repeat' first
      | (with_reducible exact ih0 _ _ _ _)
      | (with_reducible exact ih1 _ _ _ _)
      | (with_reducible exact ih2 _ _ _)
      | (with_reducible exact halterlaw01_sure.mono _)
      | (with_reducible exact word_Add.mono _ _ _ _)
      | (with_reducible exact word_Load.mono _ _)
      | (with_reducible exact word_Store.mono _ _ _)
      | (with_reducible exact LeO.refl _)
      | (with_reducible exact LeO.none _)
      | (with_reducible refine LeO.ite ?_ ?_)
      | (with_reducible refine LeO.bind ?_ (fun _ => ?_))
      | exact ih0 _ _ _ _
      | exact ih1 _ _ _ _
      | exact ih2 _ _ _
      | exact halterlaw01_sure.mono _
      | exact word_Add.mono _ _ _ _
      | exact word_Load.mono _ _
      | exact word_Store.mono _ _ _
      | exact LeO.none _
      | refine LeO.ite ?_ ?_
      | refine LeO.bind ?_ (fun _ => ?_)
set_option maxHeartbeats 8000000 in
set_option maxRecDepth 100000 in
theorem halterlaw01_WordLaws.calls (k : Nat) (a0 : Int) (a1 : Int) (a2 : Int) (r : Bool) (w : World) (h : halterlaw01_WordLaws.f k a0 a1 a2 = some r) :
    Calls Try.prog 7 #[.int .u32 a0, .int .u32 a1, .int .i64 a2] w fun e w' => e = .returned (.bool r) ∧ Below w.heap.size w w' := by
  have hu29 := Try.underlying29
  have hu48 := Try.underlying48
  have HB := Aside0.mk (Below.refl w.heap.size w)
  have H : ((word_Add.f k a0 a1 false).bind fun bt144 => ((word_Sub.f bt144.1 a1).bind fun bt147 => (if bt147.1 = a0 then (halterlaw01_WordLaws.j0 k a0 a1 a2 (bt144.2.1 != bt147.2.1)) else (halterlaw01_WordLaws.j0 k a0 a1 a2 true)))) = some r := h
  clear h
  replace H := Option.bind_eq_some_iff.mp H
  obtain ⟨⟨t144, t145, t146⟩, A40, H⟩ := H
  replace H : ((word_Sub.f t144 a1).bind fun bt147 => (if bt147.1 = a0 then (halterlaw01_WordLaws.j0 k a0 a1 a2 (t145 != bt147.2.1)) else (halterlaw01_WordLaws.j0 k a0 a1 a2 true))) = some r := H
  have A4 := Aside0.mk A40
  clear A40
  replace H := Option.bind_eq_some_iff.mp H
  obtain ⟨⟨t147, t148, t149⟩, A50, H⟩ := H
  replace H : (if t147 = a0 then (halterlaw01_WordLaws.j0 k a0 a1 a2 (t145 != t148)) else (halterlaw01_WordLaws.j0 k a0 a1 a2 true)) = some r := H
  have A5 := Aside0.mk A50
  clear A50
  have HC6 := Aside0.mk H
  clear H
  go_enter Try.func7, Try.ntmps7
  go_upto_region 3 with (first | ((with_reducible refine gate_callee (f := 20) rfl ?_); refine goesL_ (some 37) rfl rfl Try.func20 (by kernel_rfl) rfl #[.int .u32 a0, .int .u32 a1, .bool false] rfl (by (try simp only [List.map_toArray, List.map_cons, List.map_nil]); first | done | rfl | (simp only [List.length_drop, List.length_take]; rfl)) ?_; (with_reducible refine (word_Add.calls k a0 a1 false t144 t145 t146 _ A4.out).mono ?_); rintro e w' ⟨rfl, ⟨nd, rfl⟩⟩; refine ⟨_, rfl, ?_⟩) | ((with_reducible refine gate_callee (f := 22) rfl ?_); refine goesL_ (some 44) rfl rfl Try.func22 (by kernel_rfl) rfl #[.int .u32 t144, .int .u32 a1] rfl (by (try simp only [List.map_toArray, List.map_cons, List.map_nil]); first | done | rfl | (simp only [List.length_drop, List.length_take]; rfl)) ?_; (with_reducible refine (word_Sub.calls t144 a1 t147 t148 t149 _ A5.out).mono ?_); rintro e w' ⟨rfl, ⟨nd, rfl⟩⟩; refine ⟨_, rfl, ?_⟩))
  (try simp only [Act.put, List.setIfInBounds_toArray, List.set_cons_zero, List.set_cons_succ])
  go_cut [55] (fun v55 wc => ∃ (kq : Nat) (x55_5 : Bool), v55 = .bool x55_5 ∧ Aside0 (halterlaw01_WordLaws.j0 kq a0 a1 a2 x55_5 = some r) ∧ Aside0 (kq ≤ k) ∧ Aside0 (Below w.heap.size w wc))
  case first =>
    have H := HC6.out
    clear HC6
    by_cases c7 : t147 = a0
    · rw [if_pos c7] at H
      have c7b0 : (t147 == a0) = true := beq_iff_eq.mpr c7
      have c7b1 : (t147 != a0) = false := bne_eq_false_iff_eq.mpr c7
      clear c7
      (first | rw [c7b0] | (simp only [i64_w, i32_w]; rw [c7b0]) | skip)
      have H' := Aside0.mk H
      clear H
      go_wp2
      go_meet
      case rel => exact ⟨_, ((t145 != t148)), (by first | rfl | (simp; done) | (simp [*]; done)), H', ⟨by first | omega | exact Nat.le_refl _⟩, ⟨by repeat (first | (with_reducible first | exact HB.out | apply below_alloc | apply pw_below_drewN | apply below_drew1) | exact HB.out | (with_reducible exact Below.refl _ _))⟩⟩
    · rw [if_neg c7] at H
      have c7b0 : (t147 == a0) = false := beq_eq_false_iff_ne.mpr c7
      have c7b1 : (t147 != a0) = true := bne_iff_ne.mpr c7
      (first | rw [c7b0] | (simp only [i64_w, i32_w]; rw [c7b0]) | skip)
      have H' := Aside0.mk H
      clear H
      go_wp2
      go_meet
      case rel => exact ⟨_, (true), (by first | rfl | (simp; done) | (simp [*]; done)), H', ⟨by first | omega | exact Nat.le_refl _⟩, ⟨by repeat (first | (with_reducible first | exact HB.out | apply below_alloc | apply pw_below_drewN | apply below_drew1) | exact HB.out | (with_reducible exact Below.refl _ _))⟩⟩
  case rest =>
    clear HC6
    try clear c2
    try clear p2
    try clear c7
    try clear c7b0
    try clear c7b1
    obtain ⟨kq, x55_5, rfl, HA, HJ5, HB⟩ := hcut
    cases kq with
    | zero => exact absurd HA.out (by simp [halterlaw01_WordLaws.j0])
    | succ kj5 =>
      have H := HA.out
      clear HA
      simp only [halterlaw01_WordLaws.j0] at H
      by_cases c8 : x55_5 = true
      · subst c8
        have H1 : (some false) = some r := by rw [if_pos rfl] at H; exact H
        clear H
        have H := H1
        clear H1
        obtain rfl := Option.some.inj H
        go_wp2
        go_ret
        exact ⟨by first | rfl | (simp [errW_none, errW_some] <;> rfl) | (simp [*, errW_none, errW_some] <;> rfl), by repeat (first | (with_reducible first | exact HB.out | apply below_alloc | apply pw_below_drewN | apply below_drew1) | exact HB.out | (with_reducible exact Below.refl _ _))⟩
      · replace c8 := Bool.eq_false_iff.mpr c8
        subst c8
        have H1 : ((word_Store.f kj5 a0 4).bind fun bt150 => ((word_Load.f kj5 bt150.1).bind fun bt154 => (if bt150.2.isNone = true then (if bt154.2.isNone = true then (halterlaw01_WordLaws.j1 kj5 a0 a1 a2 (bt154.1 != a0)) else (halterlaw01_WordLaws.j1 kj5 a0 a1 a2 true)) else (halterlaw01_WordLaws.j1 kj5 a0 a1 a2 true)))) = some r := by rw [if_neg (show ¬ (false = true) by decide)] at H; exact H
        clear H
        have H := H1
        clear H1
        replace H := Option.bind_eq_some_iff.mp H
        obtain ⟨⟨t150, t151⟩, A90, H⟩ := H
        replace H : ((word_Load.f kj5 t150).bind fun bt154 => (if t151.isNone = true then (if bt154.2.isNone = true then (halterlaw01_WordLaws.j1 kj5 a0 a1 a2 (bt154.1 != a0)) else (halterlaw01_WordLaws.j1 kj5 a0 a1 a2 true)) else (halterlaw01_WordLaws.j1 kj5 a0 a1 a2 true))) = some r := H
        have A9 := Aside0.mk A90
        clear A90
        replace H := Option.bind_eq_some_iff.mp H
        obtain ⟨⟨t154, t155⟩, A100, H⟩ := H
        replace H : (if t151.isNone = true then (if t155.isNone = true then (halterlaw01_WordLaws.j1 kj5 a0 a1 a2 (t154 != a0)) else (halterlaw01_WordLaws.j1 kj5 a0 a1 a2 true)) else (halterlaw01_WordLaws.j1 kj5 a0 a1 a2 true)) = some r := H
        have A10 := Aside0.mk A100
        clear A100
        have HC11 := Aside0.mk H
        clear H
        go_upto_region 7 with (first | ((with_reducible refine gate_callee (f := 26) rfl ?_); refine goesL_ (some 58) rfl rfl Try.func26 (by kernel_rfl) rfl #[.int .u32 a0, .int .i64 4] rfl (by (try simp only [List.map_toArray, List.map_cons, List.map_nil]); first | done | rfl | (simp only [List.length_drop, List.length_take]; rfl)) ?_; (with_reducible refine (word_Store.calls kj5 a0 4 t150 t151 _ A9.out).mono ?_); rintro e w12 ⟨v152, rfl, ho0, hb⟩; refine ⟨_, rfl, ?_⟩; have n0_ := Aside0.mk (Kd.R_lower ho0 (below_size (by repeat (first | (with_reducible first | exact HB.out | apply below_alloc | apply pw_below_drewN | apply below_drew1) | exact HB.out | (with_reducible exact Below.refl _ _))))); have n1_ := Aside0.mk (below_step (by repeat (first | (with_reducible first | exact HB.out | apply below_alloc | apply pw_below_drewN | apply below_drew1) | exact HB.out | (with_reducible exact Below.refl _ _))) hb); clear HB; have HO153 := n0_; have HB := n1_; clear n0_ n1_; (try clear hb); (try clear hb2); (try clear hk); (try clear hi); (try clear ho0); (try simp only [errW_none, errW_some]); obtain ⟨Ao13, co13, eo13⟩ := Kd.R_slice HO153.out; subst eo13) | ((with_reducible refine gate_callee (f := 27) rfl ?_); refine goesL_ (some 63) rfl rfl Try.func27 (by kernel_rfl) rfl #[.slice Ao13 t150.length co13] rfl (by (try simp only [List.map_toArray, List.map_cons, List.map_nil]); first | done | rfl | (simp only [List.length_drop, List.length_take]; rfl)) ?_; (with_reducible refine (word_Load.calls kj5 _ _ t150 t154 t155 _ ?side1 ?side2 A10.out).mono ?_); (case side1 => repeat (first | exact (Kd.R_reads' HO153.out).2.2 | (with_reducible refine Kd.C_alloc ?_ _) | (with_reducible refine Kd.C_drewN ?_ _) | (with_reducible refine Kd.C_drew ?_))); (case side2 => exact (Kd.R_reads' HO153.out).2.1); rintro e w' ⟨rfl, ⟨nd, rfl⟩⟩; refine ⟨_, rfl, ?_⟩; (try simp only [errW_none, errW_some])))
        (try simp only [Act.put, List.setIfInBounds_toArray, List.set_cons_zero, List.set_cons_succ])
        go_cut [76] (fun v76 wc => ∃ (kq : Nat) (x76_10 : Bool), v76 = .bool x76_10 ∧ Aside0 (halterlaw01_WordLaws.j1 kq a0 a1 a2 x76_10 = some r) ∧ Aside0 (kq ≤ kj5) ∧ Aside0 (Below w.heap.size w wc))
        case first =>
          have H := HC11.out
          clear HC11
          rcases t151 with _ | q156
          · have H1 : (if t155.isNone = true then (halterlaw01_WordLaws.j1 kj5 a0 a1 a2 (t154 != a0)) else (halterlaw01_WordLaws.j1 kj5 a0 a1 a2 true)) = some r := by rw [if_pos (show (none : Option Int).isNone = true by rfl)] at H; exact H
            clear H
            have H := H1
            clear H1
            try simp only [errW_none, errW_some]
            rcases t155 with _ | q157
            · have H1 : (halterlaw01_WordLaws.j1 kj5 a0 a1 a2 (t154 != a0)) = some r := by rw [if_pos (show (none : Option Int).isNone = true by rfl)] at H; exact H
              clear H
              have H := H1
              clear H1
              try simp only [errW_none, errW_some]
              have H' := Aside0.mk H
              clear H
              go_wp2
              go_meet
              case rel => exact ⟨_, ((t154 != a0)), (by first | rfl | (simp; done) | (simp [*]; done)), H', ⟨by have := HJ5.out; first | omega | exact Nat.le_refl _⟩, ⟨by repeat (first | (with_reducible first | exact HB.out | apply below_alloc | apply pw_below_drewN | apply below_drew1) | exact HB.out | (with_reducible exact Below.refl _ _))⟩⟩
            · have H1 : (halterlaw01_WordLaws.j1 kj5 a0 a1 a2 true) = some r := by rw [if_neg (show ¬ (some q157).isNone = true by simp)] at H; exact H
              clear H
              have H := H1
              clear H1
              try simp only [errW_none, errW_some]
              have H' := Aside0.mk H
              clear H
              go_wp2
              go_meet
              case rel => exact ⟨_, (true), (by first | rfl | (simp; done) | (simp [*]; done)), H', ⟨by have := HJ5.out; first | omega | exact Nat.le_refl _⟩, ⟨by repeat (first | (with_reducible first | exact HB.out | apply below_alloc | apply pw_below_drewN | apply below_drew1) | exact HB.out | (with_reducible exact Below.refl _ _))⟩⟩
          · have H1 : (halterlaw01_WordLaws.j1 kj5 a0 a1 a2 true) = some r := by rw [if_neg (show ¬ (some q156).isNone = true by simp)] at H; exact H
            clear H
            have H := H1
            clear H1
            try simp only [errW_none, errW_some]
            have H' := Aside0.mk H
            clear H
            go_wp2
            go_meet
            case rel => exact ⟨_, (true), (by first | rfl | (simp; done) | (simp [*]; done)), H', ⟨by have := HJ5.out; first | omega | exact Nat.le_refl _⟩, ⟨by repeat (first | (with_reducible first | exact HB.out | apply below_alloc | apply pw_below_drewN | apply below_drew1) | exact HB.out | (with_reducible exact Below.refl _ _))⟩⟩
        case rest =>
          clear HC11
          try clear q1
          try clear c2
          try clear p2
          try clear c7
          try clear c7b0
          try clear c7b1
          try clear c8
          try clear p2
          try clear q156
          try clear q157
          obtain ⟨kq, x76_10, rfl, HA, HJ10, HB⟩ := hcut
          cases kq with
          | zero => exact absurd HA.out (by simp [halterlaw01_WordLaws.j1])
          | succ kj10 =>
            have H := HA.out
            clear HA
            simp only [halterlaw01_WordLaws.j1] at H
            by_cases c14 : x76_10 = true
            · subst c14
              have H1 : (some false) = some r := by rw [if_pos rfl] at H; exact H
              clear H
              have H := H1
              clear H1
              obtain rfl := Option.some.inj H
              go_wp2
              go_ret
              exact ⟨by first | rfl | (simp [errW_none, errW_some] <;> rfl) | (simp [*, errW_none, errW_some] <;> rfl), by repeat (first | (with_reducible first | exact HB.out | apply below_alloc | apply pw_below_drewN | apply below_drew1) | exact HB.out | (with_reducible exact Below.refl _ _))⟩
            · replace c14 := Bool.eq_false_iff.mpr c14
              subst c14
              have H1 : ((word_Turn.f a0 (wrap64 (Int.tmod (IntKind.u64.wrap (a2)) 32))).bind fun t158 => ((word_Turn.f t158 (wrap64 (32 - (wrap64 (Int.tmod (IntKind.u64.wrap (a2)) 32))))).bind fun t159 => (if t159 = a0 then ((word_Sext.f a0 (wrap64 (Int.tmod (IntKind.u64.wrap (a2)) 32))).bind fun t160 => ((word_Sext.f t160 (wrap64 (Int.tmod (IntKind.u64.wrap (a2)) 32))).bind fun t161 => ((word_Sext.f a0 (wrap64 (Int.tmod (IntKind.u64.wrap (a2)) 32))).bind fun t162 => (if t161 = t162 then ((word_Zeros.f a0).bind fun t163 => (if t163 < 0 then (halterlaw01_WordLaws.j2 kj10 a0 a1 true) else ((word_Zeros.f a0).bind fun t164 => (halterlaw01_WordLaws.j2 kj10 a0 a1 (decide (t164 > 32)))))) else (halterlaw01_WordLaws.j2 kj10 a0 a1 true))))) else (halterlaw01_WordLaws.j2 kj10 a0 a1 true)))) = some r := by rw [if_neg (show ¬ (false = true) by decide)] at H; exact H
              clear H
              have H := H1
              clear H1
              have HC15 := Aside0.mk H
              clear H
              go_upto_region 10 with (fail)
              go_cut [109] (fun v109 wc => ∃ (kq : Nat) (x109_14 : Bool), v109 = .bool x109_14 ∧ Aside0 (halterlaw01_WordLaws.j2 kq a0 a1 x109_14 = some r) ∧ Aside0 (kq ≤ kj10) ∧ Aside0 (Below w.heap.size w wc))
              case first =>
                have H := HC15.out
                clear HC15
                replace H := Option.bind_eq_some_iff.mp H
                obtain ⟨t158, A160, H⟩ := H
                replace H : ((word_Turn.f t158 (wrap64 (32 - (wrap64 (Int.tmod (IntKind.u64.wrap (a2)) 32))))).bind fun t159 => (if t159 = a0 then ((word_Sext.f a0 (wrap64 (Int.tmod (IntKind.u64.wrap (a2)) 32))).bind fun t160 => ((word_Sext.f t160 (wrap64 (Int.tmod (IntKind.u64.wrap (a2)) 32))).bind fun t161 => ((word_Sext.f a0 (wrap64 (Int.tmod (IntKind.u64.wrap (a2)) 32))).bind fun t162 => (if t161 = t162 then ((word_Zeros.f a0).bind fun t163 => (if t163 < 0 then (halterlaw01_WordLaws.j2 kj10 a0 a1 true) else ((word_Zeros.f a0).bind fun t164 => (halterlaw01_WordLaws.j2 kj10 a0 a1 (decide (t164 > 32)))))) else (halterlaw01_WordLaws.j2 kj10 a0 a1 true))))) else (halterlaw01_WordLaws.j2 kj10 a0 a1 true))) = some r := H
                have A16 := Aside0.mk A160
                clear A160
                replace H := Option.bind_eq_some_iff.mp H
                obtain ⟨t159, A170, H⟩ := H
                replace H : (if t159 = a0 then ((word_Sext.f a0 (wrap64 (Int.tmod (IntKind.u64.wrap (a2)) 32))).bind fun t160 => ((word_Sext.f t160 (wrap64 (Int.tmod (IntKind.u64.wrap (a2)) 32))).bind fun t161 => ((word_Sext.f a0 (wrap64 (Int.tmod (IntKind.u64.wrap (a2)) 32))).bind fun t162 => (if t161 = t162 then ((word_Zeros.f a0).bind fun t163 => (if t163 < 0 then (halterlaw01_WordLaws.j2 kj10 a0 a1 true) else ((word_Zeros.f a0).bind fun t164 => (halterlaw01_WordLaws.j2 kj10 a0 a1 (decide (t164 > 32)))))) else (halterlaw01_WordLaws.j2 kj10 a0 a1 true))))) else (halterlaw01_WordLaws.j2 kj10 a0 a1 true)) = some r := H
                have A17 := Aside0.mk A170
                clear A170
                by_cases c18 : t159 = a0
                · rw [if_pos c18] at H
                  have c18b0 : (t159 == a0) = true := beq_iff_eq.mpr c18
                  have c18b1 : (t159 != a0) = false := bne_eq_false_iff_eq.mpr c18
                  clear c18
                  (first | rw [c18b0] | (simp only [i64_w, i32_w]; rw [c18b0]) | skip)
                  replace H := Option.bind_eq_some_iff.mp H
                  obtain ⟨t160, A190, H⟩ := H
                  replace H : ((word_Sext.f t160 (wrap64 (Int.tmod (IntKind.u64.wrap (a2)) 32))).bind fun t161 => ((word_Sext.f a0 (wrap64 (Int.tmod (IntKind.u64.wrap (a2)) 32))).bind fun t162 => (if t161 = t162 then ((word_Zeros.f a0).bind fun t163 => (if t163 < 0 then (halterlaw01_WordLaws.j2 kj10 a0 a1 true) else ((word_Zeros.f a0).bind fun t164 => (halterlaw01_WordLaws.j2 kj10 a0 a1 (decide (t164 > 32)))))) else (halterlaw01_WordLaws.j2 kj10 a0 a1 true)))) = some r := H
                  have A19 := Aside0.mk A190
                  clear A190
                  replace H := Option.bind_eq_some_iff.mp H
                  obtain ⟨t161, A200, H⟩ := H
                  replace H : ((word_Sext.f a0 (wrap64 (Int.tmod (IntKind.u64.wrap (a2)) 32))).bind fun t162 => (if t161 = t162 then ((word_Zeros.f a0).bind fun t163 => (if t163 < 0 then (halterlaw01_WordLaws.j2 kj10 a0 a1 true) else ((word_Zeros.f a0).bind fun t164 => (halterlaw01_WordLaws.j2 kj10 a0 a1 (decide (t164 > 32)))))) else (halterlaw01_WordLaws.j2 kj10 a0 a1 true))) = some r := H
                  have A20 := Aside0.mk A200
                  clear A200
                  replace H := Option.bind_eq_some_iff.mp H
                  obtain ⟨t162, A210, H⟩ := H
                  replace H : (if t161 = t162 then ((word_Zeros.f a0).bind fun t163 => (if t163 < 0 then (halterlaw01_WordLaws.j2 kj10 a0 a1 true) else ((word_Zeros.f a0).bind fun t164 => (halterlaw01_WordLaws.j2 kj10 a0 a1 (decide (t164 > 32)))))) else (halterlaw01_WordLaws.j2 kj10 a0 a1 true)) = some r := H
                  have A21 := Aside0.mk A210
                  clear A210
                  have E_ := Option.some.inj (A19.out.symm.trans A21.out)
                  subst E_
                  by_cases c22 : t161 = t160
                  · rw [if_pos c22] at H
                    have c22b0 : (t161 == t160) = true := beq_iff_eq.mpr c22
                    have c22b1 : (t161 != t160) = false := bne_eq_false_iff_eq.mpr c22
                    clear c22
                    replace H := Option.bind_eq_some_iff.mp H
                    obtain ⟨t163, A230, H⟩ := H
                    replace H : (if t163 < 0 then (halterlaw01_WordLaws.j2 kj10 a0 a1 true) else ((word_Zeros.f a0).bind fun t164 => (halterlaw01_WordLaws.j2 kj10 a0 a1 (decide (t164 > 32))))) = some r := H
                    have A23 := Aside0.mk A230
                    clear A230
                    by_cases c24 : t163 < 0
                    · rw [if_pos c24] at H
                      have c24b0 : decide (t163 < 0) = true := decide_eq_true c24
                      clear c24
                      have H' := Aside0.mk H
                      clear H
                      go_wp2_with (first | ((with_reducible refine gate_callee (f := 12) rfl ?_); refine goesL_ (some 83) rfl rfl Try.func12 (by kernel_rfl) rfl #[.int .u32 a0, .int .i64 (wrap64 (Int.tmod (IntKind.u64.wrap (a2)) 32))] rfl (by (try simp only [List.map_toArray, List.map_cons, List.map_nil]); first | done | rfl | (simp only [List.length_drop, List.length_take]; rfl)) ?_; (with_reducible refine (word_Turn.calls a0 (wrap64 (Int.tmod (IntKind.u64.wrap (a2)) 32)) t158 _ A16.out).mono ?_); rintro e w' ⟨rfl, ⟨nd, rfl⟩⟩; refine ⟨_, rfl, ?_⟩) | ((with_reducible refine gate_callee (f := 12) rfl ?_); refine goesL_ (some 86) rfl rfl Try.func12 (by kernel_rfl) rfl #[.int .u32 t158, .int .i64 (wrap64 (32 - (wrap64 (Int.tmod (IntKind.u64.wrap (a2)) 32))))] rfl (by (try simp only [List.map_toArray, List.map_cons, List.map_nil]); first | done | rfl | (simp only [List.length_drop, List.length_take]; rfl)) ?_; (with_reducible refine (word_Turn.calls t158 (wrap64 (32 - (wrap64 (Int.tmod (IntKind.u64.wrap (a2)) 32)))) t159 _ A17.out).mono ?_); rintro e w' ⟨rfl, ⟨nd, rfl⟩⟩; refine ⟨_, rfl, ?_⟩) | (go_at_call 14; (with_reducible refine (word_Sext.calls a0 (wrap64 (Int.tmod (IntKind.u64.wrap (a2)) 32)) t160 _ A19.out).mono ?_); rintro e w' ⟨rfl, ⟨nd, rfl⟩⟩) | (go_at_call 14; (with_reducible refine (word_Sext.calls t160 (wrap64 (Int.tmod (IntKind.u64.wrap (a2)) 32)) t161 _ A20.out).mono ?_); rintro e w' ⟨rfl, ⟨nd, rfl⟩⟩) | (go_at_call 14; (with_reducible refine (word_Sext.calls a0 (wrap64 (Int.tmod (IntKind.u64.wrap (a2)) 32)) t160 _ A21.out).mono ?_); rintro e w' ⟨rfl, ⟨nd, rfl⟩⟩) | (go_at_call 16; (with_reducible refine (word_Zeros.calls a0 t163 _ A23.out).mono ?_); rintro e w' ⟨rfl, ⟨nd, rfl⟩⟩))
                      go_meet
                      case rel => exact ⟨_, (true), (by first | rfl | (simp; done) | (simp [*]; done)), H', ⟨by have := HJ5.out; have := HJ10.out; first | omega | exact Nat.le_refl _⟩, ⟨by repeat (first | (with_reducible first | exact HB.out | apply below_alloc | apply pw_below_drewN | apply below_drew1) | exact HB.out | (with_reducible exact Below.refl _ _))⟩⟩
                    · rw [if_neg c24] at H
                      have c24b0 : decide (t163 < 0) = false := decide_eq_false c24
                      clear c24
                      replace H := Option.bind_eq_some_iff.mp H
                      obtain ⟨t164, A250, H⟩ := H
                      replace H : (halterlaw01_WordLaws.j2 kj10 a0 a1 (decide (t164 > 32))) = some r := H
                      have A25 := Aside0.mk A250
                      clear A250
                      have E_ := Option.some.inj (A23.out.symm.trans A25.out)
                      subst E_
                      have H' := Aside0.mk H
                      clear H
                      go_wp2_with (first | ((with_reducible refine gate_callee (f := 12) rfl ?_); refine goesL_ (some 83) rfl rfl Try.func12 (by kernel_rfl) rfl #[.int .u32 a0, .int .i64 (wrap64 (Int.tmod (IntKind.u64.wrap (a2)) 32))] rfl (by (try simp only [List.map_toArray, List.map_cons, List.map_nil]); first | done | rfl | (simp only [List.length_drop, List.length_take]; rfl)) ?_; (with_reducible refine (word_Turn.calls a0 (wrap64 (Int.tmod (IntKind.u64.wrap (a2)) 32)) t158 _ A16.out).mono ?_); rintro e w' ⟨rfl, ⟨nd, rfl⟩⟩; refine ⟨_, rfl, ?_⟩) | ((with_reducible refine gate_callee (f := 12) rfl ?_); refine goesL_ (some 86) rfl rfl Try.func12 (by kernel_rfl) rfl #[.int .u32 t158, .int .i64 (wrap64 (32 - (wrap64 (Int.tmod (IntKind.u64.wrap (a2)) 32))))] rfl (by (try simp only [List.map_toArray, List.map_cons, List.map_nil]); first | done | rfl | (simp only [List.length_drop, List.length_take]; rfl)) ?_; (with_reducible refine (word_Turn.calls t158 (wrap64 (32 - (wrap64 (Int.tmod (IntKind.u64.wrap (a2)) 32)))) t159 _ A17.out).mono ?_); rintro e w' ⟨rfl, ⟨nd, rfl⟩⟩; refine ⟨_, rfl, ?_⟩) | (go_at_call 14; (with_reducible refine (word_Sext.calls a0 (wrap64 (Int.tmod (IntKind.u64.wrap (a2)) 32)) t160 _ A19.out).mono ?_); rintro e w' ⟨rfl, ⟨nd, rfl⟩⟩) | (go_at_call 14; (with_reducible refine (word_Sext.calls t160 (wrap64 (Int.tmod (IntKind.u64.wrap (a2)) 32)) t161 _ A20.out).mono ?_); rintro e w' ⟨rfl, ⟨nd, rfl⟩⟩) | (go_at_call 14; (with_reducible refine (word_Sext.calls a0 (wrap64 (Int.tmod (IntKind.u64.wrap (a2)) 32)) t160 _ A21.out).mono ?_); rintro e w' ⟨rfl, ⟨nd, rfl⟩⟩) | (go_at_call 16; (with_reducible refine (word_Zeros.calls a0 t163 _ A23.out).mono ?_); rintro e w' ⟨rfl, ⟨nd, rfl⟩⟩) | (go_at_call 16; (with_reducible refine (word_Zeros.calls a0 t163 _ A25.out).mono ?_); rintro e w' ⟨rfl, ⟨nd, rfl⟩⟩))
                      go_meet
                      case rel => exact ⟨_, (decide (t163 > 32)), (by first | rfl | (simp; done) | (simp [*]; done)), H', ⟨by have := HJ5.out; have := HJ10.out; first | omega | exact Nat.le_refl _⟩, ⟨by repeat (first | (with_reducible first | exact HB.out | apply below_alloc | apply pw_below_drewN | apply below_drew1) | exact HB.out | (with_reducible exact Below.refl _ _))⟩⟩
                  · rw [if_neg c22] at H
                    have c22b0 : (t161 == t160) = false := beq_eq_false_iff_ne.mpr c22
                    have c22b1 : (t161 != t160) = true := bne_iff_ne.mpr c22
                    have H' := Aside0.mk H
                    clear H
                    go_wp2_with (first | ((with_reducible refine gate_callee (f := 12) rfl ?_); refine goesL_ (some 83) rfl rfl Try.func12 (by kernel_rfl) rfl #[.int .u32 a0, .int .i64 (wrap64 (Int.tmod (IntKind.u64.wrap (a2)) 32))] rfl (by (try simp only [List.map_toArray, List.map_cons, List.map_nil]); first | done | rfl | (simp only [List.length_drop, List.length_take]; rfl)) ?_; (with_reducible refine (word_Turn.calls a0 (wrap64 (Int.tmod (IntKind.u64.wrap (a2)) 32)) t158 _ A16.out).mono ?_); rintro e w' ⟨rfl, ⟨nd, rfl⟩⟩; refine ⟨_, rfl, ?_⟩) | ((with_reducible refine gate_callee (f := 12) rfl ?_); refine goesL_ (some 86) rfl rfl Try.func12 (by kernel_rfl) rfl #[.int .u32 t158, .int .i64 (wrap64 (32 - (wrap64 (Int.tmod (IntKind.u64.wrap (a2)) 32))))] rfl (by (try simp only [List.map_toArray, List.map_cons, List.map_nil]); first | done | rfl | (simp only [List.length_drop, List.length_take]; rfl)) ?_; (with_reducible refine (word_Turn.calls t158 (wrap64 (32 - (wrap64 (Int.tmod (IntKind.u64.wrap (a2)) 32)))) t159 _ A17.out).mono ?_); rintro e w' ⟨rfl, ⟨nd, rfl⟩⟩; refine ⟨_, rfl, ?_⟩) | (go_at_call 14; (with_reducible refine (word_Sext.calls a0 (wrap64 (Int.tmod (IntKind.u64.wrap (a2)) 32)) t160 _ A19.out).mono ?_); rintro e w' ⟨rfl, ⟨nd, rfl⟩⟩) | (go_at_call 14; (with_reducible refine (word_Sext.calls t160 (wrap64 (Int.tmod (IntKind.u64.wrap (a2)) 32)) t161 _ A20.out).mono ?_); rintro e w' ⟨rfl, ⟨nd, rfl⟩⟩) | (go_at_call 14; (with_reducible refine (word_Sext.calls a0 (wrap64 (Int.tmod (IntKind.u64.wrap (a2)) 32)) t160 _ A21.out).mono ?_); rintro e w' ⟨rfl, ⟨nd, rfl⟩⟩))
                    go_meet
                    case rel => exact ⟨_, (true), (by first | rfl | (simp; done) | (simp [*]; done)), H', ⟨by have := HJ5.out; have := HJ10.out; first | omega | exact Nat.le_refl _⟩, ⟨by repeat (first | (with_reducible first | exact HB.out | apply below_alloc | apply pw_below_drewN | apply below_drew1) | exact HB.out | (with_reducible exact Below.refl _ _))⟩⟩
                · rw [if_neg c18] at H
                  have c18b0 : (t159 == a0) = false := beq_eq_false_iff_ne.mpr c18
                  have c18b1 : (t159 != a0) = true := bne_iff_ne.mpr c18
                  (first | rw [c18b0] | (simp only [i64_w, i32_w]; rw [c18b0]) | skip)
                  have H' := Aside0.mk H
                  clear H
                  go_wp2_with (first | ((with_reducible refine gate_callee (f := 12) rfl ?_); refine goesL_ (some 83) rfl rfl Try.func12 (by kernel_rfl) rfl #[.int .u32 a0, .int .i64 (wrap64 (Int.tmod (IntKind.u64.wrap (a2)) 32))] rfl (by (try simp only [List.map_toArray, List.map_cons, List.map_nil]); first | done | rfl | (simp only [List.length_drop, List.length_take]; rfl)) ?_; (with_reducible refine (word_Turn.calls a0 (wrap64 (Int.tmod (IntKind.u64.wrap (a2)) 32)) t158 _ A16.out).mono ?_); rintro e w' ⟨rfl, ⟨nd, rfl⟩⟩; refine ⟨_, rfl, ?_⟩) | ((with_reducible refine gate_callee (f := 12) rfl ?_); refine goesL_ (some 86) rfl rfl Try.func12 (by kernel_rfl) rfl #[.int .u32 t158, .int .i64 (wrap64 (32 - (wrap64 (Int.tmod (IntKind.u64.wrap (a2)) 32))))] rfl (by (try simp only [List.map_toArray, List.map_cons, List.map_nil]); first | done | rfl | (simp only [List.length_drop, List.length_take]; rfl)) ?_; (with_reducible refine (word_Turn.calls t158 (wrap64 (32 - (wrap64 (Int.tmod (IntKind.u64.wrap (a2)) 32)))) t159 _ A17.out).mono ?_); rintro e w' ⟨rfl, ⟨nd, rfl⟩⟩; refine ⟨_, rfl, ?_⟩))
                  go_meet
                  case rel => exact ⟨_, (true), (by first | rfl | (simp; done) | (simp [*]; done)), H', ⟨by have := HJ5.out; have := HJ10.out; first | omega | exact Nat.le_refl _⟩, ⟨by repeat (first | (with_reducible first | exact HB.out | apply below_alloc | apply pw_below_drewN | apply below_drew1) | exact HB.out | (with_reducible exact Below.refl _ _))⟩⟩
              case rest =>
                clear HC15
                try clear c1
                try clear q1
                try clear c2
                try clear p2
                try clear p6
                try clear c7
                try clear c7b0
                try clear c7b1
                try clear c8
                try clear c12
                try clear c14
                try clear q15
                try clear c18
                try clear c18b0
                try clear c18b1
                try clear c20
                try clear c22
                try clear c22b0
                try clear c22b1
                try clear c24
                try clear c24b0
                try clear p2
                try clear q1
                try clear q156
                try clear q157
                obtain ⟨kq, x109_14, rfl, HA, HJ14, HB⟩ := hcut
                cases kq with
                | zero => exact absurd HA.out (by simp [halterlaw01_WordLaws.j2])
                | succ kj14 =>
                  have H := HA.out
                  clear HA
                  simp only [halterlaw01_WordLaws.j2] at H
                  by_cases c26 : x109_14 = true
                  · subst c26
                    have H1 : (some false) = some r := by rw [if_pos rfl] at H; exact H
                    clear H
                    have H := H1
                    clear H1
                    obtain rfl := Option.some.inj H
                    go_wp2
                    go_ret
                    exact ⟨by first | rfl | (simp [errW_none, errW_some] <;> rfl) | (simp [*, errW_none, errW_some] <;> rfl), by repeat (first | (with_reducible first | exact HB.out | apply below_alloc | apply pw_below_drewN | apply below_drew1) | exact HB.out | (with_reducible exact Below.refl _ _))⟩
                  · replace c26 := Bool.eq_false_iff.mpr c26
                    subst c26
                    have H1 : (if a1 = 0 then ((halterlaw01_sure.f kj14).bind fun t165 => (some t165)) else ((word_Div.f a0 a1).bind fun bt166 => ((word_Mul.f bt166.1 a1).bind fun bt169 => ((word_Add.f kj14 bt169.1 bt166.2.1 false).bind fun bt171 => ((word_Signed.f a0 a1).bind fun bt174 => ((word_Mul.f bt174.1 a1).bind fun bt177 => ((word_Add.f kj14 bt177.1 bt174.2.1 false).bind fun bt179 => (if bt166.2.2.isNone = true then (if bt174.2.2.isNone = true then (if bt171.1 = a0 then (if bt166.2.1 < a1 then (if bt179.1 = a0 then ((halterlaw01_sure.f kj14).bind fun t184 => (some t184)) else (some false)) else (some false)) else (some false)) else (some false)) else (some false))))))))) = some r := by rw [if_neg (show ¬ (false = true) by decide)] at H; exact H
                    clear H
                    have H := H1
                    clear H1
                    by_cases c27 : a1 = 0
                    · rw [if_pos c27] at H
                      have c27b0 : (a1 == 0) = true := beq_iff_eq.mpr c27
                      have c27b1 : (a1 != 0) = false := bne_eq_false_iff_eq.mpr c27
                      clear c27
                      replace H := Option.bind_eq_some_iff.mp H
                      obtain ⟨t165, A280, H⟩ := H
                      replace H : (some t165) = some r := H
                      have A28 := Aside0.mk A280
                      clear A280
                      obtain rfl := Option.some.inj H
                      go_wp2_with (first | ((with_reducible refine gate_callee (f := 18) rfl ?_); refine goesL_ (some 112) rfl rfl Try.func18 (by kernel_rfl) rfl #[] rfl (by (try simp only [List.map_toArray, List.map_cons, List.map_nil]); first | done | rfl | (simp only [List.length_drop, List.length_take]; rfl)) ?_; (with_reducible refine (halterlaw01_sure.calls kj14  t165 _ A28.out).mono ?_); rintro e w29 ⟨rfl, hb⟩; refine ⟨_, rfl, ?_⟩; have n0_ := Aside0.mk (below_step (by repeat (first | (with_reducible first | exact HB.out | apply below_alloc | apply pw_below_drewN | apply below_drew1) | exact HB.out | (with_reducible exact Below.refl _ _))) hb); clear HB; have HB := n0_; clear n0_; (try clear hb); (try clear hb2); (try clear hk); (try clear hi)))
                      go_ret
                      exact ⟨by first | rfl | (simp [errW_none, errW_some] <;> rfl) | (simp [*, errW_none, errW_some] <;> rfl), by repeat (first | (with_reducible first | exact HB.out | apply below_alloc | apply pw_below_drewN | apply below_drew1) | exact HB.out | (with_reducible exact Below.refl _ _))⟩
                    · rw [if_neg c27] at H
                      have c27b0 : (a1 == 0) = false := beq_eq_false_iff_ne.mpr c27
                      have c27b1 : (a1 != 0) = true := bne_iff_ne.mpr c27
                      replace H := Option.bind_eq_some_iff.mp H
                      obtain ⟨⟨t166, t167, t168⟩, A300, H⟩ := H
                      replace H : ((word_Mul.f t166 a1).bind fun bt169 => ((word_Add.f kj14 bt169.1 t167 false).bind fun bt171 => ((word_Signed.f a0 a1).bind fun bt174 => ((word_Mul.f bt174.1 a1).bind fun bt177 => ((word_Add.f kj14 bt177.1 bt174.2.1 false).bind fun bt179 => (if t168.isNone = true then (if bt174.2.2.isNone = true then (if bt171.1 = a0 then (if t167 < a1 then (if bt179.1 = a0 then ((halterlaw01_sure.f kj14).bind fun t184 => (some t184)) else (some false)) else (some false)) else (some false)) else (some false)) else (some false))))))) = some r := H
                      have A30 := Aside0.mk A300
                      clear A300
                      replace H := Option.bind_eq_some_iff.mp H
                      obtain ⟨⟨t169, t170⟩, A310, H⟩ := H
                      replace H : ((word_Add.f kj14 t169 t167 false).bind fun bt171 => ((word_Signed.f a0 a1).bind fun bt174 => ((word_Mul.f bt174.1 a1).bind fun bt177 => ((word_Add.f kj14 bt177.1 bt174.2.1 false).bind fun bt179 => (if t168.isNone = true then (if bt174.2.2.isNone = true then (if bt171.1 = a0 then (if t167 < a1 then (if bt179.1 = a0 then ((halterlaw01_sure.f kj14).bind fun t184 => (some t184)) else (some false)) else (some false)) else (some false)) else (some false)) else (some false)))))) = some r := H
                      have A31 := Aside0.mk A310
                      clear A310
                      replace H := Option.bind_eq_some_iff.mp H
                      obtain ⟨⟨t171, t172, t173⟩, A320, H⟩ := H
                      replace H : ((word_Signed.f a0 a1).bind fun bt174 => ((word_Mul.f bt174.1 a1).bind fun bt177 => ((word_Add.f kj14 bt177.1 bt174.2.1 false).bind fun bt179 => (if t168.isNone = true then (if bt174.2.2.isNone = true then (if t171 = a0 then (if t167 < a1 then (if bt179.1 = a0 then ((halterlaw01_sure.f kj14).bind fun t184 => (some t184)) else (some false)) else (some false)) else (some false)) else (some false)) else (some false))))) = some r := H
                      have A32 := Aside0.mk A320
                      clear A320
                      replace H := Option.bind_eq_some_iff.mp H
                      obtain ⟨⟨t174, t175, t176⟩, A330, H⟩ := H
                      replace H : ((word_Mul.f t174 a1).bind fun bt177 => ((word_Add.f kj14 bt177.1 t175 false).bind fun bt179 => (if t168.isNone = true then (if t176.isNone = true then (if t171 = a0 then (if t167 < a1 then (if bt179.1 = a0 then ((halterlaw01_sure.f kj14).bind fun t184 => (some t184)) else (some false)) else (some false)) else (some false)) else (some false)) else (some false)))) = some r := H
                      have A33 := Aside0.mk A330
                      clear A330
                      replace H := Option.bind_eq_some_iff.mp H
                      obtain ⟨⟨t177, t178⟩, A340, H⟩ := H
                      replace H : ((word_Add.f kj14 t177 t175 false).bind fun bt179 => (if t168.isNone = true then (if t176.isNone = true then (if t171 = a0 then (if t167 < a1 then (if bt179.1 = a0 then ((halterlaw01_sure.f kj14).bind fun t184 => (some t184)) else (some false)) else (some false)) else (some false)) else (some false)) else (some false))) = some r := H
                      have A34 := Aside0.mk A340
                      clear A340
                      replace H := Option.bind_eq_some_iff.mp H
                      obtain ⟨⟨t179, t180, t181⟩, A350, H⟩ := H
                      replace H : (if t168.isNone = true then (if t176.isNone = true then (if t171 = a0 then (if t167 < a1 then (if t179 = a0 then ((halterlaw01_sure.f kj14).bind fun t184 => (some t184)) else (some false)) else (some false)) else (some false)) else (some false)) else (some false)) = some r := H
                      have A35 := Aside0.mk A350
                      clear A350
                      rcases t168 with _ | q182
                      · have H1 : (if t176.isNone = true then (if t171 = a0 then (if t167 < a1 then (if t179 = a0 then ((halterlaw01_sure.f kj14).bind fun t184 => (some t184)) else (some false)) else (some false)) else (some false)) else (some false)) = some r := by rw [if_pos (show (none : Option Int).isNone = true by rfl)] at H; exact H
                        clear H
                        have H := H1
                        clear H1
                        try simp only [errW_none, errW_some]
                        rcases t176 with _ | q183
                        · have H1 : (if t171 = a0 then (if t167 < a1 then (if t179 = a0 then ((halterlaw01_sure.f kj14).bind fun t184 => (some t184)) else (some false)) else (some false)) else (some false)) = some r := by rw [if_pos (show (none : Option Int).isNone = true by rfl)] at H; exact H
                          clear H
                          have H := H1
                          clear H1
                          try simp only [errW_none, errW_some]
                          by_cases c36 : t171 = a0
                          · rw [if_pos c36] at H
                            have c36b0 : (t171 == a0) = true := beq_iff_eq.mpr c36
                            have c36b1 : (t171 != a0) = false := bne_eq_false_iff_eq.mpr c36
                            clear c36
                            by_cases c37 : t167 < a1
                            · rw [if_pos c37] at H
                              have c37b0 : decide (t167 < a1) = true := decide_eq_true c37
                              clear c37
                              by_cases c38 : t179 = a0
                              · rw [if_pos c38] at H
                                have c38b0 : (t179 == a0) = true := beq_iff_eq.mpr c38
                                have c38b1 : (t179 != a0) = false := bne_eq_false_iff_eq.mpr c38
                                clear c38
                                replace H := Option.bind_eq_some_iff.mp H
                                obtain ⟨t184, A390, H⟩ := H
                                replace H : (some t184) = some r := H
                                have A39 := Aside0.mk A390
                                clear A390
                                obtain rfl := Option.some.inj H
                                go_wp2_with (first | ((with_reducible refine gate_callee (f := 19) rfl ?_); refine goesL_ (some 116) rfl rfl Try.func19 (by kernel_rfl) rfl #[.int .u32 a0, .int .u32 a1] rfl (by (try simp only [List.map_toArray, List.map_cons, List.map_nil]); first | done | rfl | (simp only [List.length_drop, List.length_take]; rfl)) ?_; (with_reducible refine (word_Div.calls a0 a1 t166 t167 none _ A30.out).mono ?_); rintro e w' ⟨rfl, ⟨nd, rfl⟩⟩; refine ⟨_, rfl, ?_⟩; (try simp only [errW_none, errW_some])) | ((with_reducible refine gate_callee (f := 24) rfl ?_); refine goesL_ (some 123) rfl rfl Try.func24 (by kernel_rfl) rfl #[.int .u32 t166, .int .u32 a1] rfl (by (try simp only [List.map_toArray, List.map_cons, List.map_nil]); first | done | rfl | (simp only [List.length_drop, List.length_take]; rfl)) ?_; (with_reducible refine (word_Mul.calls t166 a1 t169 t170 _ A31.out).mono ?_); rintro e w' ⟨rfl, ⟨nd, rfl⟩⟩; refine ⟨_, rfl, ?_⟩) | ((with_reducible refine gate_callee (f := 20) rfl ?_); refine goesL_ (some 129) rfl rfl Try.func20 (by kernel_rfl) rfl #[.int .u32 t169, .int .u32 t167, .bool false] rfl (by (try simp only [List.map_toArray, List.map_cons, List.map_nil]); first | done | rfl | (simp only [List.length_drop, List.length_take]; rfl)) ?_; (with_reducible refine (word_Add.calls kj14 t169 t167 false t171 t172 t173 _ A32.out).mono ?_); rintro e w' ⟨rfl, ⟨nd, rfl⟩⟩; refine ⟨_, rfl, ?_⟩) | ((with_reducible refine gate_callee (f := 28) rfl ?_); refine goesL_ (some 136) rfl rfl Try.func28 (by kernel_rfl) rfl #[.int .u32 a0, .int .u32 a1] rfl (by (try simp only [List.map_toArray, List.map_cons, List.map_nil]); first | done | rfl | (simp only [List.length_drop, List.length_take]; rfl)) ?_; (with_reducible refine (word_Signed.calls a0 a1 t174 t175 none _ A33.out).mono ?_); rintro e w' ⟨rfl, ⟨nd, rfl⟩⟩; refine ⟨_, rfl, ?_⟩; (try simp only [errW_none, errW_some])) | ((with_reducible refine gate_callee (f := 24) rfl ?_); refine goesL_ (some 143) rfl rfl Try.func24 (by kernel_rfl) rfl #[.int .u32 t174, .int .u32 a1] rfl (by (try simp only [List.map_toArray, List.map_cons, List.map_nil]); first | done | rfl | (simp only [List.length_drop, List.length_take]; rfl)) ?_; (with_reducible refine (word_Mul.calls t174 a1 t177 t178 _ A34.out).mono ?_); rintro e w' ⟨rfl, ⟨nd, rfl⟩⟩; refine ⟨_, rfl, ?_⟩) | ((with_reducible refine gate_callee (f := 20) rfl ?_); refine goesL_ (some 149) rfl rfl Try.func20 (by kernel_rfl) rfl #[.int .u32 t177, .int .u32 t175, .bool false] rfl (by (try simp only [List.map_toArray, List.map_cons, List.map_nil]); first | done | rfl | (simp only [List.length_drop, List.length_take]; rfl)) ?_; (with_reducible refine (word_Add.calls kj14 t177 t175 false t179 t180 t181 _ A35.out).mono ?_); rintro e w' ⟨rfl, ⟨nd, rfl⟩⟩; refine ⟨_, rfl, ?_⟩) | (go_at_call 18; (with_reducible refine (halterlaw01_sure.calls kj14  t184 _ A39.out).mono ?_); rintro e w40 ⟨rfl, hb⟩; have n0_ := Aside0.mk (below_step (by repeat (first | (with_reducible first | exact HB.out | apply below_alloc | apply pw_below_drewN | apply below_drew1) | exact HB.out | (with_reducible exact Below.refl _ _))) hb); clear HB; have HB := n0_; clear n0_; (try clear hb); (try clear hb2); (try clear hk); (try clear hi)))
                                go_ret
                                exact ⟨by first | rfl | (simp [errW_none, errW_some] <;> rfl) | (simp [*, errW_none, errW_some] <;> rfl), by repeat (first | (with_reducible first | exact HB.out | apply below_alloc | apply pw_below_drewN | apply below_drew1) | exact HB.out | (with_reducible exact Below.refl _ _))⟩
                              · rw [if_neg c38] at H
                                have c38b0 : (t179 == a0) = false := beq_eq_false_iff_ne.mpr c38
                                have c38b1 : (t179 != a0) = true := bne_iff_ne.mpr c38
                                obtain rfl := Option.some.inj H
                                go_wp2_with (first | ((with_reducible refine gate_callee (f := 19) rfl ?_); refine goesL_ (some 116) rfl rfl Try.func19 (by kernel_rfl) rfl #[.int .u32 a0, .int .u32 a1] rfl (by (try simp only [List.map_toArray, List.map_cons, List.map_nil]); first | done | rfl | (simp only [List.length_drop, List.length_take]; rfl)) ?_; (with_reducible refine (word_Div.calls a0 a1 t166 t167 none _ A30.out).mono ?_); rintro e w' ⟨rfl, ⟨nd, rfl⟩⟩; refine ⟨_, rfl, ?_⟩; (try simp only [errW_none, errW_some])) | ((with_reducible refine gate_callee (f := 24) rfl ?_); refine goesL_ (some 123) rfl rfl Try.func24 (by kernel_rfl) rfl #[.int .u32 t166, .int .u32 a1] rfl (by (try simp only [List.map_toArray, List.map_cons, List.map_nil]); first | done | rfl | (simp only [List.length_drop, List.length_take]; rfl)) ?_; (with_reducible refine (word_Mul.calls t166 a1 t169 t170 _ A31.out).mono ?_); rintro e w' ⟨rfl, ⟨nd, rfl⟩⟩; refine ⟨_, rfl, ?_⟩) | ((with_reducible refine gate_callee (f := 20) rfl ?_); refine goesL_ (some 129) rfl rfl Try.func20 (by kernel_rfl) rfl #[.int .u32 t169, .int .u32 t167, .bool false] rfl (by (try simp only [List.map_toArray, List.map_cons, List.map_nil]); first | done | rfl | (simp only [List.length_drop, List.length_take]; rfl)) ?_; (with_reducible refine (word_Add.calls kj14 t169 t167 false t171 t172 t173 _ A32.out).mono ?_); rintro e w' ⟨rfl, ⟨nd, rfl⟩⟩; refine ⟨_, rfl, ?_⟩) | ((with_reducible refine gate_callee (f := 28) rfl ?_); refine goesL_ (some 136) rfl rfl Try.func28 (by kernel_rfl) rfl #[.int .u32 a0, .int .u32 a1] rfl (by (try simp only [List.map_toArray, List.map_cons, List.map_nil]); first | done | rfl | (simp only [List.length_drop, List.length_take]; rfl)) ?_; (with_reducible refine (word_Signed.calls a0 a1 t174 t175 none _ A33.out).mono ?_); rintro e w' ⟨rfl, ⟨nd, rfl⟩⟩; refine ⟨_, rfl, ?_⟩; (try simp only [errW_none, errW_some])) | ((with_reducible refine gate_callee (f := 24) rfl ?_); refine goesL_ (some 143) rfl rfl Try.func24 (by kernel_rfl) rfl #[.int .u32 t174, .int .u32 a1] rfl (by (try simp only [List.map_toArray, List.map_cons, List.map_nil]); first | done | rfl | (simp only [List.length_drop, List.length_take]; rfl)) ?_; (with_reducible refine (word_Mul.calls t174 a1 t177 t178 _ A34.out).mono ?_); rintro e w' ⟨rfl, ⟨nd, rfl⟩⟩; refine ⟨_, rfl, ?_⟩) | ((with_reducible refine gate_callee (f := 20) rfl ?_); refine goesL_ (some 149) rfl rfl Try.func20 (by kernel_rfl) rfl #[.int .u32 t177, .int .u32 t175, .bool false] rfl (by (try simp only [List.map_toArray, List.map_cons, List.map_nil]); first | done | rfl | (simp only [List.length_drop, List.length_take]; rfl)) ?_; (with_reducible refine (word_Add.calls kj14 t177 t175 false t179 t180 t181 _ A35.out).mono ?_); rintro e w' ⟨rfl, ⟨nd, rfl⟩⟩; refine ⟨_, rfl, ?_⟩))
                                go_ret
                                exact ⟨by first | rfl | (simp [errW_none, errW_some] <;> rfl) | (simp [*, errW_none, errW_some] <;> rfl), by repeat (first | (with_reducible first | exact HB.out | apply below_alloc | apply pw_below_drewN | apply below_drew1) | exact HB.out | (with_reducible exact Below.refl _ _))⟩
                            · rw [if_neg c37] at H
                              have c37b0 : decide (t167 < a1) = false := decide_eq_false c37
                              clear c37
                              obtain rfl := Option.some.inj H
                              go_wp2_with (first | ((with_reducible refine gate_callee (f := 19) rfl ?_); refine goesL_ (some 116) rfl rfl Try.func19 (by kernel_rfl) rfl #[.int .u32 a0, .int .u32 a1] rfl (by (try simp only [List.map_toArray, List.map_cons, List.map_nil]); first | done | rfl | (simp only [List.length_drop, List.length_take]; rfl)) ?_; (with_reducible refine (word_Div.calls a0 a1 t166 t167 none _ A30.out).mono ?_); rintro e w' ⟨rfl, ⟨nd, rfl⟩⟩; refine ⟨_, rfl, ?_⟩; (try simp only [errW_none, errW_some])) | ((with_reducible refine gate_callee (f := 24) rfl ?_); refine goesL_ (some 123) rfl rfl Try.func24 (by kernel_rfl) rfl #[.int .u32 t166, .int .u32 a1] rfl (by (try simp only [List.map_toArray, List.map_cons, List.map_nil]); first | done | rfl | (simp only [List.length_drop, List.length_take]; rfl)) ?_; (with_reducible refine (word_Mul.calls t166 a1 t169 t170 _ A31.out).mono ?_); rintro e w' ⟨rfl, ⟨nd, rfl⟩⟩; refine ⟨_, rfl, ?_⟩) | ((with_reducible refine gate_callee (f := 20) rfl ?_); refine goesL_ (some 129) rfl rfl Try.func20 (by kernel_rfl) rfl #[.int .u32 t169, .int .u32 t167, .bool false] rfl (by (try simp only [List.map_toArray, List.map_cons, List.map_nil]); first | done | rfl | (simp only [List.length_drop, List.length_take]; rfl)) ?_; (with_reducible refine (word_Add.calls kj14 t169 t167 false t171 t172 t173 _ A32.out).mono ?_); rintro e w' ⟨rfl, ⟨nd, rfl⟩⟩; refine ⟨_, rfl, ?_⟩) | ((with_reducible refine gate_callee (f := 28) rfl ?_); refine goesL_ (some 136) rfl rfl Try.func28 (by kernel_rfl) rfl #[.int .u32 a0, .int .u32 a1] rfl (by (try simp only [List.map_toArray, List.map_cons, List.map_nil]); first | done | rfl | (simp only [List.length_drop, List.length_take]; rfl)) ?_; (with_reducible refine (word_Signed.calls a0 a1 t174 t175 none _ A33.out).mono ?_); rintro e w' ⟨rfl, ⟨nd, rfl⟩⟩; refine ⟨_, rfl, ?_⟩; (try simp only [errW_none, errW_some])) | ((with_reducible refine gate_callee (f := 24) rfl ?_); refine goesL_ (some 143) rfl rfl Try.func24 (by kernel_rfl) rfl #[.int .u32 t174, .int .u32 a1] rfl (by (try simp only [List.map_toArray, List.map_cons, List.map_nil]); first | done | rfl | (simp only [List.length_drop, List.length_take]; rfl)) ?_; (with_reducible refine (word_Mul.calls t174 a1 t177 t178 _ A34.out).mono ?_); rintro e w' ⟨rfl, ⟨nd, rfl⟩⟩; refine ⟨_, rfl, ?_⟩) | ((with_reducible refine gate_callee (f := 20) rfl ?_); refine goesL_ (some 149) rfl rfl Try.func20 (by kernel_rfl) rfl #[.int .u32 t177, .int .u32 t175, .bool false] rfl (by (try simp only [List.map_toArray, List.map_cons, List.map_nil]); first | done | rfl | (simp only [List.length_drop, List.length_take]; rfl)) ?_; (with_reducible refine (word_Add.calls kj14 t177 t175 false t179 t180 t181 _ A35.out).mono ?_); rintro e w' ⟨rfl, ⟨nd, rfl⟩⟩; refine ⟨_, rfl, ?_⟩))
                              go_ret
                              exact ⟨by first | rfl | (simp [errW_none, errW_some] <;> rfl) | (simp [*, errW_none, errW_some] <;> rfl), by repeat (first | (with_reducible first | exact HB.out | apply below_alloc | apply pw_below_drewN | apply below_drew1) | exact HB.out | (with_reducible exact Below.refl _ _))⟩
                          · rw [if_neg c36] at H
                            have c36b0 : (t171 == a0) = false := beq_eq_false_iff_ne.mpr c36
                            have c36b1 : (t171 != a0) = true := bne_iff_ne.mpr c36
                            obtain rfl := Option.some.inj H
                            go_wp2_with (first | ((with_reducible refine gate_callee (f := 19) rfl ?_); refine goesL_ (some 116) rfl rfl Try.func19 (by kernel_rfl) rfl #[.int .u32 a0, .int .u32 a1] rfl (by (try simp only [List.map_toArray, List.map_cons, List.map_nil]); first | done | rfl | (simp only [List.length_drop, List.length_take]; rfl)) ?_; (with_reducible refine (word_Div.calls a0 a1 t166 t167 none _ A30.out).mono ?_); rintro e w' ⟨rfl, ⟨nd, rfl⟩⟩; refine ⟨_, rfl, ?_⟩; (try simp only [errW_none, errW_some])) | ((with_reducible refine gate_callee (f := 24) rfl ?_); refine goesL_ (some 123) rfl rfl Try.func24 (by kernel_rfl) rfl #[.int .u32 t166, .int .u32 a1] rfl (by (try simp only [List.map_toArray, List.map_cons, List.map_nil]); first | done | rfl | (simp only [List.length_drop, List.length_take]; rfl)) ?_; (with_reducible refine (word_Mul.calls t166 a1 t169 t170 _ A31.out).mono ?_); rintro e w' ⟨rfl, ⟨nd, rfl⟩⟩; refine ⟨_, rfl, ?_⟩) | ((with_reducible refine gate_callee (f := 20) rfl ?_); refine goesL_ (some 129) rfl rfl Try.func20 (by kernel_rfl) rfl #[.int .u32 t169, .int .u32 t167, .bool false] rfl (by (try simp only [List.map_toArray, List.map_cons, List.map_nil]); first | done | rfl | (simp only [List.length_drop, List.length_take]; rfl)) ?_; (with_reducible refine (word_Add.calls kj14 t169 t167 false t171 t172 t173 _ A32.out).mono ?_); rintro e w' ⟨rfl, ⟨nd, rfl⟩⟩; refine ⟨_, rfl, ?_⟩) | ((with_reducible refine gate_callee (f := 28) rfl ?_); refine goesL_ (some 136) rfl rfl Try.func28 (by kernel_rfl) rfl #[.int .u32 a0, .int .u32 a1] rfl (by (try simp only [List.map_toArray, List.map_cons, List.map_nil]); first | done | rfl | (simp only [List.length_drop, List.length_take]; rfl)) ?_; (with_reducible refine (word_Signed.calls a0 a1 t174 t175 none _ A33.out).mono ?_); rintro e w' ⟨rfl, ⟨nd, rfl⟩⟩; refine ⟨_, rfl, ?_⟩; (try simp only [errW_none, errW_some])) | ((with_reducible refine gate_callee (f := 24) rfl ?_); refine goesL_ (some 143) rfl rfl Try.func24 (by kernel_rfl) rfl #[.int .u32 t174, .int .u32 a1] rfl (by (try simp only [List.map_toArray, List.map_cons, List.map_nil]); first | done | rfl | (simp only [List.length_drop, List.length_take]; rfl)) ?_; (with_reducible refine (word_Mul.calls t174 a1 t177 t178 _ A34.out).mono ?_); rintro e w' ⟨rfl, ⟨nd, rfl⟩⟩; refine ⟨_, rfl, ?_⟩) | ((with_reducible refine gate_callee (f := 20) rfl ?_); refine goesL_ (some 149) rfl rfl Try.func20 (by kernel_rfl) rfl #[.int .u32 t177, .int .u32 t175, .bool false] rfl (by (try simp only [List.map_toArray, List.map_cons, List.map_nil]); first | done | rfl | (simp only [List.length_drop, List.length_take]; rfl)) ?_; (with_reducible refine (word_Add.calls kj14 t177 t175 false t179 t180 t181 _ A35.out).mono ?_); rintro e w' ⟨rfl, ⟨nd, rfl⟩⟩; refine ⟨_, rfl, ?_⟩))
                            go_ret
                            exact ⟨by first | rfl | (simp [errW_none, errW_some] <;> rfl) | (simp [*, errW_none, errW_some] <;> rfl), by repeat (first | (with_reducible first | exact HB.out | apply below_alloc | apply pw_below_drewN | apply below_drew1) | exact HB.out | (with_reducible exact Below.refl _ _))⟩
                        · have H1 : (some false) = some r := by rw [if_neg (show ¬ (some q183).isNone = true by simp)] at H; exact H
                          clear H
                          have H := H1
                          clear H1
                          try simp only [errW_none, errW_some]
                          obtain rfl := Option.some.inj H
                          go_wp2_with (first | ((with_reducible refine gate_callee (f := 19) rfl ?_); refine goesL_ (some 116) rfl rfl Try.func19 (by kernel_rfl) rfl #[.int .u32 a0, .int .u32 a1] rfl (by (try simp only [List.map_toArray, List.map_cons, List.map_nil]); first | done | rfl | (simp only [List.length_drop, List.length_take]; rfl)) ?_; (with_reducible refine (word_Div.calls a0 a1 t166 t167 none _ A30.out).mono ?_); rintro e w' ⟨rfl, ⟨nd, rfl⟩⟩; refine ⟨_, rfl, ?_⟩; (try simp only [errW_none, errW_some])) | ((with_reducible refine gate_callee (f := 24) rfl ?_); refine goesL_ (some 123) rfl rfl Try.func24 (by kernel_rfl) rfl #[.int .u32 t166, .int .u32 a1] rfl (by (try simp only [List.map_toArray, List.map_cons, List.map_nil]); first | done | rfl | (simp only [List.length_drop, List.length_take]; rfl)) ?_; (with_reducible refine (word_Mul.calls t166 a1 t169 t170 _ A31.out).mono ?_); rintro e w' ⟨rfl, ⟨nd, rfl⟩⟩; refine ⟨_, rfl, ?_⟩) | ((with_reducible refine gate_callee (f := 20) rfl ?_); refine goesL_ (some 129) rfl rfl Try.func20 (by kernel_rfl) rfl #[.int .u32 t169, .int .u32 t167, .bool false] rfl (by (try simp only [List.map_toArray, List.map_cons, List.map_nil]); first | done | rfl | (simp only [List.length_drop, List.length_take]; rfl)) ?_; (with_reducible refine (word_Add.calls kj14 t169 t167 false t171 t172 t173 _ A32.out).mono ?_); rintro e w' ⟨rfl, ⟨nd, rfl⟩⟩; refine ⟨_, rfl, ?_⟩) | ((with_reducible refine gate_callee (f := 28) rfl ?_); refine goesL_ (some 136) rfl rfl Try.func28 (by kernel_rfl) rfl #[.int .u32 a0, .int .u32 a1] rfl (by (try simp only [List.map_toArray, List.map_cons, List.map_nil]); first | done | rfl | (simp only [List.length_drop, List.length_take]; rfl)) ?_; (with_reducible refine (word_Signed.calls a0 a1 t174 t175 (some q183) _ A33.out).mono ?_); rintro e w' ⟨rfl, ⟨nd, rfl⟩⟩; refine ⟨_, rfl, ?_⟩; (try simp only [errW_none, errW_some])) | ((with_reducible refine gate_callee (f := 24) rfl ?_); refine goesL_ (some 143) rfl rfl Try.func24 (by kernel_rfl) rfl #[.int .u32 t174, .int .u32 a1] rfl (by (try simp only [List.map_toArray, List.map_cons, List.map_nil]); first | done | rfl | (simp only [List.length_drop, List.length_take]; rfl)) ?_; (with_reducible refine (word_Mul.calls t174 a1 t177 t178 _ A34.out).mono ?_); rintro e w' ⟨rfl, ⟨nd, rfl⟩⟩; refine ⟨_, rfl, ?_⟩) | ((with_reducible refine gate_callee (f := 20) rfl ?_); refine goesL_ (some 149) rfl rfl Try.func20 (by kernel_rfl) rfl #[.int .u32 t177, .int .u32 t175, .bool false] rfl (by (try simp only [List.map_toArray, List.map_cons, List.map_nil]); first | done | rfl | (simp only [List.length_drop, List.length_take]; rfl)) ?_; (with_reducible refine (word_Add.calls kj14 t177 t175 false t179 t180 t181 _ A35.out).mono ?_); rintro e w' ⟨rfl, ⟨nd, rfl⟩⟩; refine ⟨_, rfl, ?_⟩))
                          go_ret
                          exact ⟨by first | rfl | (simp [errW_none, errW_some] <;> rfl) | (simp [*, errW_none, errW_some] <;> rfl), by repeat (first | (with_reducible first | exact HB.out | apply below_alloc | apply pw_below_drewN | apply below_drew1) | exact HB.out | (with_reducible exact Below.refl _ _))⟩
                      · have H1 : (some false) = some r := by rw [if_neg (show ¬ (some q182).isNone = true by simp)] at H; exact H
                        clear H
                        have H := H1
                        clear H1
                        try simp only [errW_none, errW_some]
                        obtain rfl := Option.some.inj H
                        go_wp2_with (first | ((with_reducible refine gate_callee (f := 19) rfl ?_); refine goesL_ (some 116) rfl rfl Try.func19 (by kernel_rfl) rfl #[.int .u32 a0, .int .u32 a1] rfl (by (try simp only [List.map_toArray, List.map_cons, List.map_nil]); first | done | rfl | (simp only [List.length_drop, List.length_take]; rfl)) ?_; (with_reducible refine (word_Div.calls a0 a1 t166 t167 (some q182) _ A30.out).mono ?_); rintro e w' ⟨rfl, ⟨nd, rfl⟩⟩; refine ⟨_, rfl, ?_⟩; (try simp only [errW_none, errW_some])) | ((with_reducible refine gate_callee (f := 24) rfl ?_); refine goesL_ (some 123) rfl rfl Try.func24 (by kernel_rfl) rfl #[.int .u32 t166, .int .u32 a1] rfl (by (try simp only [List.map_toArray, List.map_cons, List.map_nil]); first | done | rfl | (simp only [List.length_drop, List.length_take]; rfl)) ?_; (with_reducible refine (word_Mul.calls t166 a1 t169 t170 _ A31.out).mono ?_); rintro e w' ⟨rfl, ⟨nd, rfl⟩⟩; refine ⟨_, rfl, ?_⟩) | ((with_reducible refine gate_callee (f := 20) rfl ?_); refine goesL_ (some 129) rfl rfl Try.func20 (by kernel_rfl) rfl #[.int .u32 t169, .int .u32 t167, .bool false] rfl (by (try simp only [List.map_toArray, List.map_cons, List.map_nil]); first | done | rfl | (simp only [List.length_drop, List.length_take]; rfl)) ?_; (with_reducible refine (word_Add.calls kj14 t169 t167 false t171 t172 t173 _ A32.out).mono ?_); rintro e w' ⟨rfl, ⟨nd, rfl⟩⟩; refine ⟨_, rfl, ?_⟩) | ((with_reducible refine gate_callee (f := 28) rfl ?_); refine goesL_ (some 136) rfl rfl Try.func28 (by kernel_rfl) rfl #[.int .u32 a0, .int .u32 a1] rfl (by (try simp only [List.map_toArray, List.map_cons, List.map_nil]); first | done | rfl | (simp only [List.length_drop, List.length_take]; rfl)) ?_; (with_reducible refine (word_Signed.calls a0 a1 t174 t175 t176 _ A33.out).mono ?_); rintro e w' ⟨rfl, ⟨nd, rfl⟩⟩; refine ⟨_, rfl, ?_⟩; (try simp only [errW_none, errW_some])) | ((with_reducible refine gate_callee (f := 24) rfl ?_); refine goesL_ (some 143) rfl rfl Try.func24 (by kernel_rfl) rfl #[.int .u32 t174, .int .u32 a1] rfl (by (try simp only [List.map_toArray, List.map_cons, List.map_nil]); first | done | rfl | (simp only [List.length_drop, List.length_take]; rfl)) ?_; (with_reducible refine (word_Mul.calls t174 a1 t177 t178 _ A34.out).mono ?_); rintro e w' ⟨rfl, ⟨nd, rfl⟩⟩; refine ⟨_, rfl, ?_⟩) | ((with_reducible refine gate_callee (f := 20) rfl ?_); refine goesL_ (some 149) rfl rfl Try.func20 (by kernel_rfl) rfl #[.int .u32 t177, .int .u32 t175, .bool false] rfl (by (try simp only [List.map_toArray, List.map_cons, List.map_nil]); first | done | rfl | (simp only [List.length_drop, List.length_take]; rfl)) ?_; (with_reducible refine (word_Add.calls kj14 t177 t175 false t179 t180 t181 _ A35.out).mono ?_); rintro e w' ⟨rfl, ⟨nd, rfl⟩⟩; refine ⟨_, rfl, ?_⟩))
                        go_ret
                        exact ⟨by first | rfl | (simp [errW_none, errW_some] <;> rfl) | (simp [*, errW_none, errW_some] <;> rfl), by repeat (first | (with_reducible first | exact HB.out | apply below_alloc | apply pw_below_drewN | apply below_drew1) | exact HB.out | (with_reducible exact Below.refl _ _))⟩

/-- THE ONE PURE STATEMENT of halterlaw01_WordLaws: yours. -/
def halterlaw01_WordLaws.Pure : Prop := ∀ (a0 : Int) (a1 : Int) (a2 : Int), (Lit.int .u32 a0).wf = true → (Lit.int .u32 a1).wf = true → (Lit.int .i64 a2).wf = true → ∃ k, halterlaw01_WordLaws.f k a0 a1 a2 = some true
theorem halterlaw01_WordLaws.walk (P : halterlaw01_WordLaws.Pure) (a0 : Int) (a1 : Int) (a2 : Int) (w : World) (w0 : (Lit.int .u32 a0).wf = true) (w1 : (Lit.int .u32 a1).wf = true) (w2 : (Lit.int .i64 a2).wf = true) :
    Calls Try.prog 7 #[.int .u32 a0, .int .u32 a1, .int .i64 a2] w fun e w' => e = .returned (.bool true) ∧ Below w.heap.size w w' := by
  obtain ⟨k, h⟩ := P a0 a1 a2 w0 w1 w2
  refine (halterlaw01_WordLaws.calls k a0 a1 a2 true w h).mono ?_
  rintro e w' ⟨rfl, hd⟩
  exact ⟨rfl, hd⟩

end Go.Proofs.Ytgomfkjdffcbhaa.PWordLaws
