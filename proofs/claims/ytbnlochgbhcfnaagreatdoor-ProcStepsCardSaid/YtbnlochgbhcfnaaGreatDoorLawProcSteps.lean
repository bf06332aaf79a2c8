import Derived.Test.YtbnlochgbhcfnaaGreatDoorCards
import Derived.Test.YtbnlochgbhcfnaaGreatDoorTie
import Derived.Test.YtbnlochgbhcfnaaGreatDoorE16
import Derived.Test.YtbnlochgbhcfnaaGreatDoorPureProcSteps
import Derived.WalkKit
import Derived.ChangeSame
import Derived.ChangeVars
import Derived.JoinedOf
import Derived.RowKit
import Derived.RowKitTokens
import Derived.LaidLaws
import Derived.LaidHandle
import Derived.Stop.Joined
import Derived.SevenTiedAt
import Derived.ProofKit
import Derived.OpenShut
import Derived.ShutString
import Derived.ChangeOld
import Derived.Below
import Derived.SizedLaws
set_option linter.unusedVariables false
namespace Go.Proofs.YtbnlochgbhcfnaaGreatDoor.procSteps
open Go.ChangeShapes Go.WideShapes Go.ChangeAt Go.RowKit Go.Proofs.YtbnlochgbhcfnaaGreatDoorE Go.Proofs.YtbnlochgbhcfnaaGreatDoorGProcSteps
theorem own : ownKnob Tryz.prog.godebug = none := by kernel_rfl
theorem laidOut : laidOutB Tryz.prog = true := by kernel_rfl
noncomputable abbrev X0 (W : World) : Cx := mkX cfg.E (fun b => b < W.heap.size) (fun _ => none) W []
theorem et : Tryz.prog.globalNamed "errors.errorType" = some 0 := by kernel_rfl
theorem rt : (Tryz.prog.cutTypes.find? (·.1 == "internal/reflectlite.rtype")).map (·.2) = some 120 := by kernel_rfl
theorem oneRow : ((List.range 193).filter fun t => Tryz.prog.rowNamed t [101, 114, 114, 111, 114]) = [49] := by kernel_rfl
theorem tsize : Tryz.prog.types.size = 193 := by kernel_rfl
theorem handle_of_laid {W : World} (h : laidMetH Tryz.prog [("math/bits.deBruijn32tab", Rows.laid_math_bits_deBruijn32tab), ("unicode/utf8.acceptRanges", Rows.laid_unicode_utf8_acceptRanges), ("errors.errorType", Rows.laid_errors_errorType), ("unicode/utf8.first", Rows.laid_unicode_utf8_first)] W) : W.cell? ⟨0, 0, none⟩ = some (.iface 120 (.agg #[.pointer (some ⟨5, 49, none⟩)])) := by
  have h' : laidMet Tryz.prog [("math/bits.deBruijn32tab", Rows.laid_math_bits_deBruijn32tab), ("unicode/utf8.acceptRanges", Rows.laid_unicode_utf8_acceptRanges), ("unicode/utf8.first", Rows.laid_unicode_utf8_first)] W ∧ handlesMet Tryz.prog [("errors.errorType", Rows.laid_errors_errorType)] W := h
  obtain ⟨name, u, ty, e1, e2, e3, e4, e5⟩ := h'.2 _ (List.mem_singleton.2 rfl)
  have en : name = [101, 114, 114, 111, 114] := (Option.some.inj e1).symm
  subst en
  obtain rfl := Option.some.inj (rt.symm.trans e2)
  have hm : ty ∈ (List.range 193).filter fun t => Tryz.prog.rowNamed t [101, 114, 114, 111, 114] := List.mem_filter.2 ⟨List.mem_range.2 (by rw [← tsize]; exact e3), e4⟩
  rw [oneRow] at hm
  obtain rfl := List.mem_singleton.1 hm
  have hh : typeHandle Tryz.prog 49 = .pointer (some ⟨5, 49, none⟩) := by kernel_rfl
  rw [hh] at e5
  simpa using World.var?_cell et e5 0
theorem tabs_of_laid {W : World} (h : laidMetH Tryz.prog [("math/bits.deBruijn32tab", Rows.laid_math_bits_deBruijn32tab), ("unicode/utf8.acceptRanges", Rows.laid_unicode_utf8_acceptRanges), ("errors.errorType", Rows.laid_errors_errorType), ("unicode/utf8.first", Rows.laid_unicode_utf8_first)] W) : (∀ j, j < tab1.length → W.cell? ⟨1, j, none⟩ = some (.int .u8 (tab1.getD j 0))) := by
  have h' : laidMet Tryz.prog [("math/bits.deBruijn32tab", Rows.laid_math_bits_deBruijn32tab), ("unicode/utf8.acceptRanges", Rows.laid_unicode_utf8_acceptRanges), ("unicode/utf8.first", Rows.laid_unicode_utf8_first)] W ∧ handlesMet Tryz.prog [("errors.errorType", Rows.laid_errors_errorType)] W := h
  obtain ⟨⟨ps, hl, _⟩, _⟩ := h'
  obtain ⟨g0, t0, cs0, f0, p0, q0, a0, b0, c0, d0, hl, _⟩ := hl
  obtain ⟨g1, t1, cs1, f1, p1, q1, a1, b1, c1, d1, hl, _⟩ := hl
  obtain ⟨g2, t2, cs2, f2, p2, q2, a2, b2, c2, d2, _, _⟩ := hl
  obtain rfl : g0 = 1 := Option.some.inj (a0.symm.trans (by kernel_rfl))
  have d0' : DataW.trod (fun _ => ()) Tryz.prog W 0 (fun _ => true) false f0 t0 cs0.toList = some (.agg (tab1.map fun v => .lit (.int .u8 v)), p0) := d0.trans (by rw [show (Rows.laid_math_bits_deBruijn32tab : DataW Unit) = .agg (tab1.map fun v => .lit (.int .u8 v)) by kernel_rfl])
  obtain rfl : t0 = 144 := Option.some.inj (b0.symm.trans (by kernel_rfl))
  exact tab_cells a0 c0 Tryz.underlying144 Tryz.underlying5 (by kernel_rfl) d0'
noncomputable def laidWorld (os : Os) : World :=
  let w0 := World.holding Tryz.prog os ⟨#[], #[], []⟩
  let w1 : World := { w0 with heap := w0.heap.modify 0 fun
        | .cells _ t frozen => .cells #[.iface 120 (.agg #[.pointer (some ⟨5, 49, none⟩)])] t frozen
        | o => o }
  let w2 : World := { w1 with heap := w1.heap.modify 1 fun
      | .cells _ t frozen => .cells (tab1.map (Value.int .u8)).toArray t frozen
      | o => o }
  let v0 : World := { w2 with heap := w2.heap.modify 3 fun
      | .cells _ t frozen => .cells #[.int .u8 128, .int .u8 191, .int .u8 160, .int .u8 191, .int .u8 128, .int .u8 159, .int .u8 144, .int .u8 191, .int .u8 128, .int .u8 143, .int .u8 0, .int .u8 0, .int .u8 0, .int .u8 0, .int .u8 0, .int .u8 0, .int .u8 0, .int .u8 0, .int .u8 0, .int .u8 0, .int .u8 0, .int .u8 0, .int .u8 0, .int .u8 0, .int .u8 0, .int .u8 0, .int .u8 0, .int .u8 0, .int .u8 0, .int .u8 0, .int .u8 0, .int .u8 0] t frozen
      | o => o }
  let v1 : World := { v0 with heap := v0.heap.modify 2 fun
      | .cells _ t frozen => .cells (Go.Pinned.utf8FirstZ.map fun (z : Nat) => Value.int .u8 z).toArray t frozen
      | o => o }
  v1
theorem laidWorld_met (os : Os) (args : Array Value) : laidMetH Tryz.prog [("math/bits.deBruijn32tab", Rows.laid_math_bits_deBruijn32tab), ("unicode/utf8.acceptRanges", Rows.laid_unicode_utf8_acceptRanges), ("errors.errorType", Rows.laid_errors_errorType), ("unicode/utf8.first", Rows.laid_unicode_utf8_first)] ((laidWorld os).forCall (fun _ _ => 0) ⟨#[], args, []⟩).memory :=
  laidMetH_of_parts (laidMet_of_run' 20 (by kernel_rfl) (by kernel_rfl)) (by kernel_rfl)
set_option maxRecDepth 100000 in
theorem lifted (os : Os) (started : os.Started) (H : Type) (enc : TypeId × Value → H) :
    ReturnsInHanded {} Tryz.checked os 3 .any (fun w args => (Rows.procStepsSpec.pre enc Tryz.prog Tryz.f3 [] false w args ∧ laidMetH Tryz.prog [("math/bits.deBruijn32tab", Rows.laid_math_bits_deBruijn32tab), ("unicode/utf8.acceptRanges", Rows.laid_unicode_utf8_acceptRanges), ("errors.errorType", Rows.laid_errors_errorType), ("unicode/utf8.first", Rows.laid_unicode_utf8_first)] w) ∧ sizedMet enc Tryz.prog Tryz.f3 (OpenSpec.ofChange Rows.procStepsSpec) false w args) (Rows.procStepsSpec.post enc Tryz.prog Tryz.f3 false true false false) := by
  refine returnsInHanded_of_change_and (C := Tryz.checked) (X := fun w _ => laidMetH Tryz.prog [("math/bits.deBruijn32tab", Rows.laid_math_bits_deBruijn32tab), ("unicode/utf8.acceptRanges", Rows.laid_unicode_utf8_acceptRanges), ("errors.errorType", Rows.laid_errors_errorType), ("unicode/utf8.first", Rows.laid_unicode_utf8_first)] w) (fun _ _ _ hh h => h.of_heap hh) own started (by kernel_rfl) Tryz.func3
    (ChangeSpec.witness_at (enc := enc) (C := Tryz.checked) (os := os) (X := fun w _ => laidMetH Tryz.prog [("math/bits.deBruijn32tab", Rows.laid_math_bits_deBruijn32tab), ("unicode/utf8.acceptRanges", Rows.laid_unicode_utf8_acceptRanges), ("errors.errorType", Rows.laid_errors_errorType), ("unicode/utf8.first", Rows.laid_unicode_utf8_first)] w) false (laidWorld os) #[.agg #[.int .i64 0, .int .i64 0, .string ⟨#[]⟩, .int .u32 0, .int .u32 0, .int .u32 0, .int .u32 0, .int .u32 0, .int .u32 0, .int .u32 0, .int .u32 0, .int .u32 0, .int .u32 0, .int .u32 0, .int .u32 0, .int .u32 0, .int .u32 0, .int .u32 0, .int .u32 0, .int .u32 0, .int .u32 0, .int .u64 0, .int .u64 0, .int .u64 0, .int .u64 0, .int .i64 0, .int .i64 0, .int .i64 0, .int .i64 0, .int .i64 0, .int .i64 0, .int .i64 0, .int .i64 0, .int .u32 0, .int .u32 0, .int .u32 0, .int .u32 0, .int .u32 0, .int .u32 0, .int .u32 0, .int .u32 0, .int .u32 0, .int .u32 0, .int .u32 0, .int .u32 0, .int .u32 0, .int .u32 0, .int .u32 0, .int .u32 0, .int .u32 0, .int .u32 0, .int .u32 0, .int .u32 0, .int .u32 0, .int .u32 0, .int .u32 0, .int .u32 0, .int .u32 0, .int .u32 0, .int .u32 0, .int .u32 0, .int .u32 0, .int .u32 0, .int .u32 0, .int .u32 0, .int .u32 0, .int .u32 0, .int .i64 0, .bool false, .int .u32 0, .int .i64 0, .int .i64 0, .bool false, .bool false, .bool false, .int .i64 0, .int .i64 0], .agg #[.int .i64 0, .int .i64 0, .int .i64 0], .int .u32 0] 8 rfl (by kernel_rfl) (by kernel_rfl) (by kernel_rfl) (by kernel_rfl) (by kernel_rfl) (laidWorld_met os _)) ?_
  intro W base args ds gs before hval0 hW hcnd hsz0 hL _
  have hG := handle_of_laid hL
  have hT := tabs_of_laid hL
  clear hL
  have hsz : (DataW.weightsEach Tryz.prog (Tryz.f3.params.toList ++ Rows.procStepsSpec.plain.varTypes Tryz.prog) (ds ++ gs)).all (· ≤ reachBytes) = true := hsz0
  have hval : ∀ (j : Nat) t v, Tryz.f3.params[j]? = some t → args[j]? = some v → Value.okWide Tryz.prog W .any base t v := hval0
  have hW' := hW
  obtain ⟨p, q, hA0, hV, rfl, hfz, hnd⟩ := hW
  have hA : DataW.TrodAll enc Tryz.prog W 0 (fun _ => true) true Tryz.f3.params.toList args.toList ds p := hA0
  rw [Tryz.params3] at hA hval hsz
  obtain ⟨v0, vs0, d0, ds0, p0, q0, hargs, rfl, rfl, h0, r0⟩ := trodAll_cons hA
  obtain ⟨v1, vs1, d1, ds1, p1, q1, rfl, rfl, rfl, h1, r1⟩ := trodAll_cons r0
  obtain ⟨v2, vs2, d2, ds2, p2, q2, rfl, rfl, rfl, h2, r2⟩ := trodAll_cons r1
  obtain ⟨rfl, rfl, rfl⟩ := trodAll_nil r2
  obtain rfl : args = #[v0, v1, v2] := by cases args; simp_all
  obtain ⟨rfl, rfl⟩ := trodVars_none hV
  have k0 := h0
  have lt0 : ∀ x ∈ p0, x.block < W.heap.size := by obtain ⟨m, hm⟩ := k0; exact DataW.trod_lt m _ _ _ hm
  have ok0 := hval 0 35 v0 rfl rfl
  simp only [Value.okWide, Tryz.underlying35] at ok0
  obtain ⟨c0, rfl, _, _⟩ := ok0
  obtain ⟨f0, hf0⟩ := h0
  obtain ⟨y0, r0_, g0⟩ := open_ty (X := X0 W) rfl (fun b h => h) 20 35 (.pair (.int .i64) (.pair (.int .i64) (.pair .str (.pair (.pair (.arr 16 (.int .u32)) (.pair (.int .u32) (.pair (.int .u32) (.arr 4 (.int .u64))))) (.pair (.arr 8 (.int .i64)) (.pair (.pair (.int .u32) (.pair (.int .u32) (.arr 32 (.int .u32)))) (.pair (.pair (.int .i64) (.pair .bool (.pair (.int .u32) (.pair (.int .i64) (.pair (.int .i64) .bool))))) (.pair .bool (.pair .bool (.pair (.int .i64) (.int .i64))))))))))) (by kernel_rfl) _ _ _ hf0
  have k1 := h1
  have lt1 : ∀ x ∈ p1, x.block < W.heap.size := by obtain ⟨m, hm⟩ := k1; exact DataW.trod_lt m _ _ _ hm
  have ok1 := hval 1 36 v1 rfl rfl
  simp only [Value.okWide, Tryz.underlying36] at ok1
  obtain ⟨c1, rfl, _, _⟩ := ok1
  obtain ⟨f1, hf1⟩ := h1
  obtain ⟨y1, r1_, g1⟩ := open_ty (X := X0 W) rfl (fun b h => h) 20 36 (.arr 3 (.int .i64)) (by kernel_rfl) _ _ _ hf1
  have k2 := h2
  have lt2 : ∀ x ∈ p2, x.block < W.heap.size := by obtain ⟨m, hm⟩ := k2; exact DataW.trod_lt m _ _ _ hm
  obtain ⟨s2, rfl⟩ := okWide_int Tryz.underlying22 (hval 2 22 v2 rfl rfl)
  obtain ⟨f2, hf2⟩ := h2
  obtain ⟨y2, r2_, g2⟩ := open_ty (X := X0 W) rfl (fun b h => h) 20 22 (.int .u32) (by kernel_rfl) _ _ _ hf2
  have e2 : s2 = y2 := by have h : [Value.int .u32 s2] = [Value.int .u32 y2] := r2_; exact (Value.int.inj (List.cons.inj h).1).2
  subst e2
  clear hA0 hval0 hsz0 hsz
  have hp := halterlaw33_ProcSteps.fun_ (Pure.ProcSteps (y0.1) (y0.2.1) (y0.2.2.1) (y0.2.2.2.1.1) (y0.2.2.2.1.2.1) (y0.2.2.2.1.2.2.1) (y0.2.2.2.1.2.2.2) (y0.2.2.2.2.1) (y0.2.2.2.2.2.1.1) (y0.2.2.2.2.2.1.2.1) (y0.2.2.2.2.2.1.2.2) (y0.2.2.2.2.2.2.1.1) (y0.2.2.2.2.2.2.1.2.1) (y0.2.2.2.2.2.2.1.2.2.1) (y0.2.2.2.2.2.2.1.2.2.2.1) (y0.2.2.2.2.2.2.1.2.2.2.2.1) (y0.2.2.2.2.2.2.1.2.2.2.2.2) (y0.2.2.2.2.2.2.2.1) (y0.2.2.2.2.2.2.2.2.1) (y0.2.2.2.2.2.2.2.2.2.1) (y0.2.2.2.2.2.2.2.2.2.2) y1 s2 (g0.1) (g0.2.1) (g0.2.2.1) (g0.2.2.2.1.1.1) (g0.2.2.2.1.1.2) (g0.2.2.2.1.2.1) (g0.2.2.2.1.2.2.1) (g0.2.2.2.1.2.2.2.1) (g0.2.2.2.1.2.2.2.2) (g0.2.2.2.2.1.1) (g0.2.2.2.2.1.2) (g0.2.2.2.2.2.1.1) (g0.2.2.2.2.2.1.2.1) (g0.2.2.2.2.2.1.2.2.1) (g0.2.2.2.2.2.1.2.2.2) (g0.2.2.2.2.2.2.1.1) (g0.2.2.2.2.2.2.1.2.2.1) (g0.2.2.2.2.2.2.1.2.2.2.1) (g0.2.2.2.2.2.2.1.2.2.2.2.1) (g0.2.2.2.2.2.2.2.2.2.1) (g0.2.2.2.2.2.2.2.2.2.2) (g1.1) (g1.2) g2)
  have hc := Fun.calls (C := cfg) Tryz.func3 rfl (by kernel_rfl) hp (W := W) (vs := [.agg c0, .agg c1, .int .u32 s2]) (fun g hg => by
    rcases List.mem_append.1 hg with hg | hg
    · obtain rfl := List.mem_singleton.1 hg
      exact hG
    · obtain ⟨x, hx, hy⟩ := List.mem_flatMap.1 hg
      simp only [tabs, List.mem_cons, List.not_mem_nil, or_false] at hx
      rcases hx with rfl
      · obtain ⟨j, hj, rfl⟩ := List.mem_map.1 hy
        exact hT j (List.mem_range.1 hj)) ⟨_, _, rfl, arg_agg r0_, _, _, rfl, arg_agg r1_, _, _, rfl, ⟨⟨rfl, rfl⟩, rfl⟩, rfl⟩
  refine hc.mono fun e W' ⟨⟨v, X', he, hr⟩, bel⟩ => ?_
  obtain rfl : v = .bool true := hr.1.1
  subst he
  exact ⟨_, rfl, _, _, _, [], _, [], hW', trodAll_mk1 (shut_bool Tryz.underlying4 _), (trodAll_cons_mk (Below.trod laidOut (by kernel_rfl) (of_decide_eq_true (by kernel_rfl)) k0 bel lt0) (trodAll_cons_mk (Below.trod laidOut (by kernel_rfl) (of_decide_eq_true (by kernel_rfl)) k1 bel lt1) (trodAll_cons_mk (Below.trod laidOut (by kernel_rfl) (of_decide_eq_true (by kernel_rfl)) k2 bel lt2) trodAll_mk0))), rfl, bel.frame _, fun h => by cases h⟩
theorem over : Rows.procStepsRow.holds Tryz.pinned (OpenSpec.ofChange Rows.procStepsSpec) :=
  OpenClaim.holds_of_wide 3 Tryz.f3 rfl rfl rfl rfl rfl rfl rfl ⟨rfl, rfl, rfl, rfl, rfl⟩ rfl rfl rfl rfl rfl (by kernel_rfl) Tryz.func3 (by kernel_rfl)
    (of_decide_eq_true (by kernel_rfl)) (by unfold Func.isWrapper; first | (rw [if_pos (by decide +kernel)]; kernel_rfl) | (rw [if_neg (by decide +kernel)]; exact ⟨rfl, rfl⟩))
    (fun os started H enc _ => lifted os started H enc)
theorem proved : Rows.ProcStepsSaid := over
theorem card : Rows.ProcStepsCardSaid :=
  Claim7.holds_tied_plain_at .later [] [.data, .data, .handle, .pinned] true (true, "7d0663ef206caa373f70bb852128f130945ebddf7223debc219579664bf8e7ae") true
    proved (fun _ h => by cases h) (by kernel_rfl) (fun _ h => by cases h) procSteps_row_tie rfl ⟨rfl, rfl⟩ (by kernel_rfl) rfl
    (fun f fn hf hfn => by
      obtain rfl : f = 3 := Option.some.inj ((show Tryz.prog.funcNamed "halter/halterlaw33.ProcSteps" = some 3 by kernel_rfl).symm.trans hf) |>.symm
      obtain rfl : fn = Tryz.f3 := (Option.some.inj (Tryz.func3.symm.trans hfn)).symm
      exact ⟨by kernel_rfl, fun j t ht => by
        rw [Tryz.params3] at ht
        rcases j with _ | _ | _ | j
        · obtain rfl : 35 = t := by simpa using ht
          exact (show Tryz.prog.wantsStandIn 35 = false by kernel_rfl)
        · obtain rfl : 36 = t := by simpa using ht
          exact (show Tryz.prog.wantsStandIn 36 = false by kernel_rfl)
        · obtain rfl : 22 = t := by simpa using ht
          exact (show Tryz.prog.wantsStandIn 22 = false by kernel_rfl)
        · simp at ht⟩)
    (by kernel_rfl)
#print axioms card
end Go.Proofs.YtbnlochgbhcfnaaGreatDoor.procSteps
namespace Go.Proofs.YtbnlochgbhcfnaaGreatDoor
theorem procSteps_holds : Rows.ProcStepsCardSaid := procSteps.card
end Go.Proofs.YtbnlochgbhcfnaaGreatDoor
