/- The law's row, joined. -/
import Derived.Test.YtndjiebeihcbgaaDoorCards
import Derived.Test.YtndjiebeihcbgaaDoorTie
import Derived.Test.YtndjiebeihcbgaaDoorE16
import Derived.Test.YtndjiebeihcbgaaDoorPureSetTexts
import Derived.WalkKit
import Derived.ChangeSame
import Derived.ChangeVars
import Derived.JoinedOf
import Derived.RowKit
import Derived.RowKitTokens
import Derived.LaidLaws
import Derived.LaidHandle
import Derived.Stop.Joined
import Derived.SevenTiedAt
import Derived.ProofKit
import Derived.OpenShut
import Derived.ShutString
import Derived.ChangeOld
import Derived.Below
import Derived.SizedLaws
set_option linter.unusedVariables false
namespace Go.Proofs.YtndjiebeihcbgaaDoor.setTexts
open Go.ChangeShapes Go.WideShapes Go.ChangeAt Go.RowKit Go.Proofs.YtndjiebeihcbgaaDoorE Go.Proofs.YtndjiebeihcbgaaDoorGSetTexts
theorem own : ownKnob Tryd.prog.godebug = none := by kernel_rfl
theorem laidOut : laidOutB Tryd.prog = true := by kernel_rfl
noncomputable abbrev X0 (W : World) : Cx := mkX cfg.E (fun b => b < W.heap.size) (fun _ => none) W []
theorem et : Tryd.prog.globalNamed "errors.errorType" = some 1 := by kernel_rfl
theorem rt : (Tryd.prog.cutTypes.find? (·.1 == "internal/reflectlite.rtype")).map (·.2) = some 79 := by kernel_rfl
theorem oneRow : ((List.range 142).filter fun t => Tryd.prog.rowNamed t [101, 114, 114, 111, 114]) = [38] := by kernel_rfl
theorem tsize : Tryd.prog.types.size = 142 := by kernel_rfl
/-- What the condition gives: the variable's one cell. -/
theorem handle_of_laid {W : World} (h : laidMetH Tryd.prog [("math/bits.deBruijn32tab", Rows.laid_math_bits_deBruijn32tab), ("math/bits.deBruijn64tab", Rows.laid_math_bits_deBruijn64tab), ("internal/strconv.uint64pow10", Rows.laid_internal_strconv_uint64pow10), ("errors.errorType", Rows.laid_errors_errorType), ("strconv.ErrRange", Rows.laid_strconv_ErrRange), ("strconv.ErrSyntax", Rows.laid_strconv_ErrSyntax)] W) : W.cell? ⟨1, 0, none⟩ = some (.iface 79 (.agg #[.pointer (some ⟨6, 38, none⟩)])) := by
  have h' : laidMet Tryd.prog [("math/bits.deBruijn32tab", Rows.laid_math_bits_deBruijn32tab), ("math/bits.deBruijn64tab", Rows.laid_math_bits_deBruijn64tab), ("internal/strconv.uint64pow10", Rows.laid_internal_strconv_uint64pow10), ("strconv.ErrRange", Rows.laid_strconv_ErrRange), ("strconv.ErrSyntax", Rows.laid_strconv_ErrSyntax)] W ∧ handlesMet Tryd.prog [("errors.errorType", Rows.laid_errors_errorType)] W := h
  obtain ⟨name, u, ty, e1, e2, e3, e4, e5⟩ := h'.2 _ (List.mem_singleton.2 rfl)
  have en : name = [101, 114, 114, 111, 114] := (Option.some.inj e1).symm
  subst en
  obtain rfl := Option.some.inj (rt.symm.trans e2)
  have hm : ty ∈ (List.range 142).filter fun t => Tryd.prog.rowNamed t [101, 114, 114, 111, 114] := List.mem_filter.2 ⟨List.mem_range.2 (by rw [← tsize]; exact e3), e4⟩
  rw [oneRow] at hm
  obtain rfl := List.mem_singleton.1 hm
  have hh : typeHandle Tryd.prog 38 = .pointer (some ⟨6, 38, none⟩) := by kernel_rfl
  rw [hh] at e5
  simpa using World.var?_cell et e5 0
theorem tabs_of_laid {W : World} (h : laidMetH Tryd.prog [("math/bits.deBruijn32tab", Rows.laid_math_bits_deBruijn32tab), ("math/bits.deBruijn64tab", Rows.laid_math_bits_deBruijn64tab), ("internal/strconv.uint64pow10", Rows.laid_internal_strconv_uint64pow10), ("errors.errorType", Rows.laid_errors_errorType), ("strconv.ErrRange", Rows.laid_strconv_ErrRange), ("strconv.ErrSyntax", Rows.laid_strconv_ErrSyntax)] W) : (∀ j, j < tab0.length → W.cell? ⟨0, j, none⟩ = some (.int .u8 (tab0.getD j 0))) ∧ (∀ j, j < tab5.length → W.cell? ⟨5, j, none⟩ = some (.int .u8 (tab5.getD j 0))) ∧ (∀ j, j < tab4.length → W.cell? ⟨4, j, none⟩ = some (.int .u64 (tab4.getD j 0))) := by
  have h' : laidMet Tryd.prog [("math/bits.deBruijn32tab", Rows.laid_math_bits_deBruijn32tab), ("math/bits.deBruijn64tab", Rows.laid_math_bits_deBruijn64tab), ("internal/strconv.uint64pow10", Rows.laid_internal_strconv_uint64pow10), ("strconv.ErrRange", Rows.laid_strconv_ErrRange), ("strconv.ErrSyntax", Rows.laid_strconv_ErrSyntax)] W ∧ handlesMet Tryd.prog [("errors.errorType", Rows.laid_errors_errorType)] W := h
  obtain ⟨⟨ps, hl, _⟩, _⟩ := h'
  obtain ⟨g0, t0, cs0, f0, p0, q0, a0, b0, c0, d0, hl, _⟩ := hl
  obtain ⟨g1, t1, cs1, f1, p1, q1, a1, b1, c1, d1, hl, _⟩ := hl
  obtain ⟨g2, t2, cs2, f2, p2, q2, a2, b2, c2, d2, hl, _⟩ := hl
  obtain ⟨g3, t3, cs3, f3, p3, q3, a3, b3, c3, d3, hl, _⟩ := hl
  obtain ⟨g4, t4, cs4, f4, p4, q4, a4, b4, c4, d4, _, _⟩ := hl
  obtain rfl : g0 = 0 := Option.some.inj (a0.symm.trans (by kernel_rfl))
  have d0' : DataW.trod (fun _ => ()) Tryd.prog W 0 (fun _ => true) false f0 t0 cs0.toList = some (.agg (tab0.map fun v => .lit (.int .u8 v)), p0) := d0.trans (by rw [show (Rows.laid_math_bits_deBruijn32tab : DataW Unit) = .agg (tab0.map fun v => .lit (.int .u8 v)) by kernel_rfl])
  obtain rfl : t0 = 58 := Option.some.inj (b0.symm.trans (by kernel_rfl))
  obtain rfl : g1 = 5 := Option.some.inj (a1.symm.trans (by kernel_rfl))
  have d1' : DataW.trod (fun _ => ()) Tryd.prog W 0 (fun _ => true) false f1 t1 cs1.toList = some (.agg (tab5.map fun v => .lit (.int .u8 v)), p1) := d1.trans (by rw [show (Rows.laid_math_bits_deBruijn64tab : DataW Unit) = .agg (tab5.map fun v => .lit (.int .u8 v)) by kernel_rfl])
  obtain rfl : t1 = 113 := Option.some.inj (b1.symm.trans (by kernel_rfl))
  obtain rfl : g2 = 4 := Option.some.inj (a2.symm.trans (by kernel_rfl))
  have d2' : DataW.trod (fun _ => ()) Tryd.prog W 0 (fun _ => true) false f2 t2 cs2.toList = some (.agg (tab4.map fun v => .lit (.int .u64 v)), p2) := d2.trans (by rw [show (Rows.laid_internal_strconv_uint64pow10 : DataW Unit) = .agg (tab4.map fun v => .lit (.int .u64 v)) by kernel_rfl])
  obtain rfl : t2 = 109 := Option.some.inj (b2.symm.trans (by kernel_rfl))
  exact ⟨tab_cells a0 c0 Tryd.underlying58 Tryd.underlying5 (by kernel_rfl) d0', tab_cells a1 c1 Tryd.underlying113 Tryd.underlying5 (by kernel_rfl) d1', tab_cells a2 c2 Tryd.underlying109 Tryd.underlying52 (by kernel_rfl) d2'⟩
theorem syn_of_laid {W : World} (h : laidMetH Tryd.prog [("math/bits.deBruijn32tab", Rows.laid_math_bits_deBruijn32tab), ("math/bits.deBruijn64tab", Rows.laid_math_bits_deBruijn64tab), ("internal/strconv.uint64pow10", Rows.laid_internal_strconv_uint64pow10), ("errors.errorType", Rows.laid_errors_errorType), ("strconv.ErrRange", Rows.laid_strconv_ErrRange), ("strconv.ErrSyntax", Rows.laid_strconv_ErrSyntax)] W) : globOK (W.cell? ⟨2, 0, none⟩) (.tuple #[]) := by
  have h' : laidMet Tryd.prog [("math/bits.deBruijn32tab", Rows.laid_math_bits_deBruijn32tab), ("math/bits.deBruijn64tab", Rows.laid_math_bits_deBruijn64tab), ("internal/strconv.uint64pow10", Rows.laid_internal_strconv_uint64pow10), ("strconv.ErrRange", Rows.laid_strconv_ErrRange), ("strconv.ErrSyntax", Rows.laid_strconv_ErrSyntax)] W ∧ handlesMet Tryd.prog [("errors.errorType", Rows.laid_errors_errorType)] W := h
  obtain ⟨⟨ps, hl, _⟩, _⟩ := h'
  obtain ⟨g0, t0, cs0, f0, p0, q0, a0, b0, c0, d0, hl, _⟩ := hl
  obtain ⟨g1, t1, cs1, f1, p1, q1, a1, b1, c1, d1, hl, _⟩ := hl
  obtain ⟨g2, t2, cs2, f2, p2, q2, a2, b2, c2, d2, hl, _⟩ := hl
  obtain ⟨g3, t3, cs3, f3, p3, q3, a3, b3, c3, d3, hl, _⟩ := hl
  obtain ⟨g4, t4, cs4, f4, p4, q4, a4, b4, c4, d4, _, _⟩ := hl
  obtain rfl : g4 = 2 := Option.some.inj (a4.symm.trans (by kernel_rfl))
  obtain rfl : t4 = 38 := Option.some.inj (b4.symm.trans (by kernel_rfl))
  exact syn_cell a4 c4 Tryd.underlying38 d4
/-- A world that meets the condition: the settled one, the variable's cell laid. -/
noncomputable def laidWorld (os : Os) : World :=
  let w0 := World.holding Tryd.prog os ⟨#[], #[], []⟩
  let w1 : World := { w0 with heap := w0.heap.modify 1 fun
        | .cells _ t frozen => .cells #[.iface 79 (.agg #[.pointer (some ⟨6, 38, none⟩)])] t frozen
        | o => o }
  let w2 : World := { w1 with heap := w1.heap.modify 0 fun
      | .cells _ t frozen => .cells (tab0.map (Value.int .u8)).toArray t frozen
      | o => o }
  let w3 : World := { w2 with heap := w2.heap.modify 4 fun
      | .cells _ t frozen => .cells (tab4.map (Value.int .u64)).toArray t frozen
      | o => o }
  let w4 : World := { w3 with heap := w3.heap.modify 5 fun
      | .cells _ t frozen => .cells (tab5.map (Value.int .u8)).toArray t frozen
      | o => o }
  let v0 : World := { w4 with heap := (w4.heap.modify 3 fun | .cells _ t frozen => .cells #[.iface 98 (.pointer (some ⟨w4.heap.size, 0, none⟩))] t frozen | o => o).push (.cells #[.string ⟨#[118, 97, 108, 117, 101, 32, 111, 117, 116, 32, 111, 102, 32, 114, 97, 110, 103, 101]⟩] 100) }
  let v1 : World := { v0 with heap := (v0.heap.modify 2 fun | .cells _ t frozen => .cells #[.iface 98 (.pointer (some ⟨v0.heap.size, 0, none⟩))] t frozen | o => o).push (.cells #[.string ⟨#[105, 110, 118, 97, 108, 105, 100, 32, 115, 121, 110, 116, 97, 120]⟩] 100) }
  v1
theorem laidWorld_met (os : Os) (args : Array Value) : laidMetH Tryd.prog [("math/bits.deBruijn32tab", Rows.laid_math_bits_deBruijn32tab), ("math/bits.deBruijn64tab", Rows.laid_math_bits_deBruijn64tab), ("internal/strconv.uint64pow10", Rows.laid_internal_strconv_uint64pow10), ("errors.errorType", Rows.laid_errors_errorType), ("strconv.ErrRange", Rows.laid_strconv_ErrRange), ("strconv.ErrSyntax", Rows.laid_strconv_ErrSyntax)] ((laidWorld os).forCall (fun _ _ => 0) ⟨#[], args, []⟩).memory :=
  laidMetH_of_parts (laidMet_of_run' 20 (by kernel_rfl) (by kernel_rfl)) (by kernel_rfl)
set_option maxRecDepth 100000 in
theorem lifted (os : Os) (started : os.Started) (H : Type) (enc : TypeId × Value → H) :
    ReturnsInHanded {} Tryd.checked os 6 .any (fun w args => (Rows.setTextsSpec.pre enc Tryd.prog Tryd.f6 [] false w args ∧ laidMetH Tryd.prog [("math/bits.deBruijn32tab", Rows.laid_math_bits_deBruijn32tab), ("math/bits.deBruijn64tab", Rows.laid_math_bits_deBruijn64tab), ("internal/strconv.uint64pow10", Rows.laid_internal_strconv_uint64pow10), ("errors.errorType", Rows.laid_errors_errorType), ("strconv.ErrRange", Rows.laid_strconv_ErrRange), ("strconv.ErrSyntax", Rows.laid_strconv_ErrSyntax)] w) ∧ sizedMet enc Tryd.prog Tryd.f6 (OpenSpec.ofChange Rows.setTextsSpec) false w args) (Rows.setTextsSpec.post enc Tryd.prog Tryd.f6 false true false false) := by
  refine returnsInHanded_of_change_and (C := Tryd.checked) (X := fun w _ => laidMetH Tryd.prog [("math/bits.deBruijn32tab", Rows.laid_math_bits_deBruijn32tab), ("math/bits.deBruijn64tab", Rows.laid_math_bits_deBruijn64tab), ("internal/strconv.uint64pow10", Rows.laid_internal_strconv_uint64pow10), ("errors.errorType", Rows.laid_errors_errorType), ("strconv.ErrRange", Rows.laid_strconv_ErrRange), ("strconv.ErrSyntax", Rows.laid_strconv_ErrSyntax)] w) (fun _ _ _ hh h => h.of_heap hh) own started (by kernel_rfl) Tryd.func6
    (ChangeSpec.witness_at (enc := enc) (C := Tryd.checked) (os := os) (X := fun w _ => laidMetH Tryd.prog [("math/bits.deBruijn32tab", Rows.laid_math_bits_deBruijn32tab), ("math/bits.deBruijn64tab", Rows.laid_math_bits_deBruijn64tab), ("internal/strconv.uint64pow10", Rows.laid_internal_strconv_uint64pow10), ("errors.errorType", Rows.laid_errors_errorType), ("strconv.ErrRange", Rows.laid_strconv_ErrRange), ("strconv.ErrSyntax", Rows.laid_strconv_ErrSyntax)] w) false (laidWorld os) #[.int .u32 0, .string ⟨#[]⟩] 8 rfl (by kernel_rfl) (by kernel_rfl) (by kernel_rfl) (by kernel_rfl) (by kernel_rfl) (laidWorld_met os _)) ?_
  intro W base args ds gs before hval0 hW hcnd hsz0 hL _
  have hG := handle_of_laid hL
  have hT := tabs_of_laid hL
  have hSyn := syn_of_laid hL
  clear hL
  have hsz : (DataW.weightsEach Tryd.prog (Tryd.f6.params.toList ++ Rows.setTextsSpec.plain.varTypes Tryd.prog) (ds ++ gs)).all (· ≤ reachBytes) = true := hsz0
  have hval : ∀ (j : Nat) t v, Tryd.f6.params[j]? = some t → args[j]? = some v → Value.okWide Tryd.prog W .any base t v := hval0
  have hW' := hW
  obtain ⟨p, q, hA0, hV, rfl, hfz, hnd⟩ := hW
  have hA : DataW.TrodAll enc Tryd.prog W 0 (fun _ => true) true Tryd.f6.params.toList args.toList ds p := hA0
  rw [Tryd.params6] at hA hval hsz
  obtain ⟨v0, vs0, d0, ds0, p0, q0, hargs, rfl, rfl, h0, r0⟩ := trodAll_cons hA
  obtain ⟨v1, vs1, d1, ds1, p1, q1, rfl, rfl, rfl, h1, r1⟩ := trodAll_cons r0
  obtain ⟨rfl, rfl, rfl⟩ := trodAll_nil r1
  obtain rfl : args = #[v0, v1] := by cases args; simp_all
  obtain ⟨rfl, rfl⟩ := trodVars_none hV
  have k0 := h0
  have lt0 : ∀ x ∈ p0, x.block < W.heap.size := by obtain ⟨m, hm⟩ := k0; exact DataW.trod_lt m _ _ _ hm
  obtain ⟨s0, rfl⟩ := okWide_int Tryd.underlying22 (hval 0 22 v0 rfl rfl)
  obtain ⟨f0, hf0⟩ := h0
  obtain ⟨y0, r0_, g0⟩ := open_ty (X := X0 W) rfl (fun b h => h) 20 22 (.int .u32) (by kernel_rfl) _ _ _ hf0
  have e0 : s0 = y0 := by have h : [Value.int .u32 s0] = [Value.int .u32 y0] := r0_; exact (Value.int.inj (List.cons.inj h).1).2
  subst e0
  have k1 := h1
  have lt1 : ∀ x ∈ p1, x.block < W.heap.size := by obtain ⟨m, hm⟩ := k1; exact DataW.trod_lt m _ _ _ hm
  obtain ⟨s1, rfl⟩ := okWide_string Tryd.underlying9 (hval 1 9 v1 rfl rfl)
  obtain ⟨f1, hf1⟩ := h1
  obtain ⟨y1, r1_, g1⟩ := open_ty (X := X0 W) rfl (fun b h => h) 20 9 .str (by kernel_rfl) _ _ _ hf1
  have e1 : s1 = y1 := by have h : [Value.string s1] = [Value.string y1] := r1_; exact Value.string.inj (List.cons.inj h).1
  subst e1
  have z1 : ByteArray.size s1 ≤ reachBytes := sized_str hsz (j := 1) Tryd.underlying9 hf1 rfl rfl
  clear hA0 hval0 hsz0 hsz
  have hp := halterlaw03_SetTexts.fun_ (Pure.SetTexts s0 s1 g0 z1)
  have hc := Fun.calls (C := cfg) Tryd.func6 rfl (by kernel_rfl) hp (W := W) (vs := [.int .u32 s0, .string s1]) (fun g hg => by
    rcases List.mem_append.1 hg with hg | hg
    · rcases List.mem_cons.1 hg with rfl | hg
      · exact hG
      · obtain rfl := List.mem_singleton.1 hg
        exact hSyn
    · obtain ⟨x, hx, hy⟩ := List.mem_flatMap.1 hg
      simp only [tabs, List.mem_cons, List.not_mem_nil, or_false] at hx
      rcases hx with rfl | rfl | rfl
      · obtain ⟨j, hj, rfl⟩ := List.mem_map.1 hy
        exact hT.1 j (List.mem_range.1 hj)
      · obtain ⟨j, hj, rfl⟩ := List.mem_map.1 hy
        exact hT.2.2 j (List.mem_range.1 hj)
      · obtain ⟨j, hj, rfl⟩ := List.mem_map.1 hy
        exact hT.2.1 j (List.mem_range.1 hj)) ⟨_, _, rfl, ⟨⟨rfl, rfl⟩, rfl⟩, _, _, rfl, ⟨⟨rfl, rfl⟩, rfl⟩, rfl⟩
  refine hc.mono fun e W' ⟨⟨v, X', he, hr⟩, bel⟩ => ?_
  obtain rfl : v = .bool true := hr.1.1
  subst he
  exact ⟨_, rfl, _, _, _, [], _, [], hW', trodAll_mk1 (shut_bool Tryd.underlying4 _), (trodAll_cons_mk (Below.trod laidOut (by kernel_rfl) (of_decide_eq_true (by kernel_rfl)) k0 bel lt0) (trodAll_cons_mk (Below.trod laidOut (by kernel_rfl) (of_decide_eq_true (by kernel_rfl)) k1 bel lt1) trodAll_mk0)), rfl, bel.frame _, fun h => by cases h⟩
theorem over : Rows.setTextsRow.holds Tryd.pinned (OpenSpec.ofChange Rows.setTextsSpec) :=
  OpenClaim.holds_of_wide 6 Tryd.f6 rfl rfl rfl rfl rfl rfl rfl ⟨rfl, rfl, rfl, rfl, rfl⟩ rfl rfl rfl rfl rfl (by kernel_rfl) Tryd.func6 (by kernel_rfl)
    (of_decide_eq_true (by kernel_rfl)) (by unfold Func.isWrapper; first | (rw [if_pos (by decide +kernel)]; kernel_rfl) | (rw [if_neg (by decide +kernel)]; exact ⟨rfl, rfl⟩))
    (fun os started H enc _ => lifted os started H enc)
theorem proved : Rows.SetTextsSaid := over
theorem card : Rows.SetTextsCardSaid :=
  Claim7.holds_tied_plain_at .later [] [.data, .data, .data, .handle, .sentinel, .sentinel] true (true, "25d88f0fbedafc4eda8127f33461274f98724a86a3b18322bbb8b04e9b4a6ae0") true
    proved (fun _ h => by cases h) (by kernel_rfl) (fun _ h => by cases h) setTexts_row_tie rfl ⟨rfl, rfl⟩ (by kernel_rfl) rfl
    (fun f fn hf hfn => by
      obtain rfl : f = 6 := Option.some.inj ((show Tryd.prog.funcNamed "halter/halterlaw03.SetTexts" = some 6 by kernel_rfl).symm.trans hf) |>.symm
      obtain rfl : fn = Tryd.f6 := (Option.some.inj (Tryd.func6.symm.trans hfn)).symm
      exact ⟨by kernel_rfl, fun j t ht => by
        rw [Tryd.params6] at ht
        rcases j with _ | _ | j
        · obtain rfl : 22 = t := by simpa using ht
          exact (show Tryd.prog.wantsStandIn 22 = false by kernel_rfl)
        · obtain rfl : 9 = t := by simpa using ht
          exact (show Tryd.prog.wantsStandIn 9 = false by kernel_rfl)
        · simp at ht⟩)
    (by kernel_rfl)
#print axioms card
end Go.Proofs.YtndjiebeihcbgaaDoor.setTexts
namespace Go.Proofs.YtndjiebeihcbgaaDoor
/-- For the claim, under a short name. -/
theorem setTexts_holds : Rows.SetTextsCardSaid := setTexts.card
end Go.Proofs.YtndjiebeihcbgaaDoor
