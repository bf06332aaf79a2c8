/- The law's row, joined. -/
import Derived.Test.YtllannmegnklmaaGreatRows
import Derived.Test.YtllannmegnklmaaGreatE16
import Derived.Test.YtllannmegnklmaaGreatPureCpuSteps
import Derived.WalkKit
import Derived.ChangeSame
import Derived.ChangeVars
import Derived.JoinedOf
import Derived.RowKit
import Derived.RowKitTokens
import Derived.LaidLaws
import Derived.LaidHandle
import Derived.Stop.Joined
import Derived.SevenTiedAt
import Derived.ProofKit
import Derived.OpenShut
import Derived.ShutString
import Derived.ChangeOld
import Derived.Below
import Derived.SizedLaws
set_option linter.unusedVariables false
namespace Go.Proofs.YtllannmegnklmaaGreat.cpuSteps
open Go.ChangeShapes Go.WideShapes Go.ChangeAt Go.RowKit Go.Proofs.YtllannmegnklmaaGreatE Go.Proofs.YtllannmegnklmaaGreatGCpuSteps
theorem own : ownKnob Tryz.prog.godebug = none := by kernel_rfl
theorem laidOut : laidOutB Tryz.prog = true := by kernel_rfl
noncomputable abbrev X0 (W : World) : Cx := mkX cfg.E (fun b => b < W.heap.size) (fun _ => none) W []
set_option maxRecDepth 100000 in
theorem lifted (os : Os) (started : os.Started) (H : Type) (enc : TypeId × Value → H) :
    ReturnsInHanded {} Tryz.checked os 3 .any (Rows.cpuStepsSpec.pre6 enc Tryz.prog Tryz.f3 Rows.cpuStepsRow.domain false) (Rows.cpuStepsSpec.post enc Tryz.prog Tryz.f3 false true false false) := by
  refine returnsInHanded_of_change_sized (C := Tryz.checked) own started (by kernel_rfl) Tryz.func3
    (ChangeSpec.witness6 (enc := enc) (C := Tryz.checked) false ⟨#[], #[.slice none 0 0, .agg #[.int .u32 0, .int .u32 0, .int .u32 0, .int .u32 0, .int .u32 0, .int .u32 0, .int .u32 0, .int .u32 0, .int .u32 0, .int .u32 0, .int .u32 0, .int .u32 0, .int .u32 0, .int .u32 0, .int .u32 0, .int .u32 0, .int .u32 0, .int .u32 0, .int .u64 0, .int .u64 0, .int .u64 0, .int .u64 0], .int .i64 0], []⟩ 8 (by kernel_rfl) (by kernel_rfl) (by kernel_rfl) (by kernel_rfl)) ?_
  intro W base args ds gs before hval0 hW hcnd hsz0 _
  have hsz : (DataW.weightsEach Tryz.prog (Tryz.f3.params.toList ++ Rows.cpuStepsSpec.plain.varTypes Tryz.prog) (ds ++ gs)).all (· ≤ reachBytes) = true := hsz0
  have hval : ∀ (j : Nat) t v, Tryz.f3.params[j]? = some t → args[j]? = some v → Value.okWide Tryz.prog W .any base t v := hval0
  have hW' := hW
  obtain ⟨p, q, hA0, hV, rfl, hfz, hnd⟩ := hW
  have hA : DataW.TrodAll enc Tryz.prog W 0 (fun _ => true) true Tryz.f3.params.toList args.toList ds p := hA0
  rw [Tryz.params3] at hA hval hsz
  obtain ⟨v0, vs0, d0, ds0, p0, q0, hargs, rfl, rfl, h0, r0⟩ := trodAll_cons hA
  obtain ⟨v1, vs1, d1, ds1, p1, q1, rfl, rfl, rfl, h1, r1⟩ := trodAll_cons r0
  obtain ⟨v2, vs2, d2, ds2, p2, q2, rfl, rfl, rfl, h2, r2⟩ := trodAll_cons r1
  obtain ⟨rfl, rfl, rfl⟩ := trodAll_nil r2
  obtain rfl : args = #[v0, v1, v2] := by cases args; simp_all
  obtain ⟨rfl, rfl⟩ := trodVars_none hV
  have k0 := h0
  have lt0 : ∀ x ∈ p0, x.block < W.heap.size := by obtain ⟨m, hm⟩ := k0; exact DataW.trod_lt m _ _ _ hm
  obtain ⟨b0, n0, m0, rfl⟩ := okWide_slice Tryz.underlying22 (hval 0 22 v0 rfl rfl)
  obtain ⟨f0, hf0⟩ := h0
  obtain ⟨y0, r0_, g0⟩ := open_ty (X := X0 W) rfl (fun b h => h) 20 22 (.sl (.int .u32)) (by kernel_rfl) _ _ _ hf0
  have z0 : List.length y0 * 4 ≤ reachBytes := sized_sl hsz (j := 0) Tryz.underlying22 (by kernel_rfl) hf0 rfl rfl r0_
  have k1 := h1
  have lt1 : ∀ x ∈ p1, x.block < W.heap.size := by obtain ⟨m, hm⟩ := k1; exact DataW.trod_lt m _ _ _ hm
  have ok1 := hval 1 28 v1 rfl rfl
  simp only [Value.okWide, Tryz.underlying28] at ok1
  obtain ⟨c1, rfl, _, _⟩ := ok1
  obtain ⟨f1, hf1⟩ := h1
  obtain ⟨y1, r1_, g1⟩ := open_ty (X := X0 W) rfl (fun b h => h) 20 28 (.pair (.arr 16 (.int .u32)) (.pair (.int .u32) (.pair (.int .u32) (.arr 4 (.int .u64))))) (by kernel_rfl) _ _ _ hf1
  have k2 := h2
  have lt2 : ∀ x ∈ p2, x.block < W.heap.size := by obtain ⟨m, hm⟩ := k2; exact DataW.trod_lt m _ _ _ hm
  obtain ⟨s2, rfl⟩ := okWide_int Tryz.underlying3 (hval 2 3 v2 rfl rfl)
  obtain ⟨f2, hf2⟩ := h2
  obtain ⟨y2, r2_, g2⟩ := open_ty (X := X0 W) rfl (fun b h => h) 20 3 (.int .i64) (by kernel_rfl) _ _ _ hf2
  have e2 : s2 = y2 := by have h : [Value.int .i64 s2] = [Value.int .i64 y2] := r2_; exact (Value.int.inj (List.cons.inj h).1).2
  subst e2
  clear hA0 hval0 hsz0 hsz
  have hp := halterlaw12_CpuSteps.fun_ (Pure.CpuSteps y0 (y1.1) (y1.2.1) (y1.2.2.1) (y1.2.2.2) s2 z0 (g0.2) (g1.1.1) (g1.1.2) (g1.2.1) (g1.2.2.1) (g1.2.2.2.1) (g1.2.2.2.2) g2)
  have hc := Fun.calls (C := cfg) Tryz.func3 rfl (by kernel_rfl) hp (W := W) (vs := [.slice b0 n0 m0, .agg c1, .int .i64 s2]) (fun g hg => by cases hg) ⟨_, _, rfl, arg_sl r0_, _, _, rfl, arg_agg r1_, _, _, rfl, ⟨⟨rfl, rfl⟩, rfl⟩, rfl⟩
  refine hc.mono fun e W' ⟨⟨v, X', he, hr⟩, bel⟩ => ?_
  obtain rfl : v = .bool true := hr.1.1
  subst he
  exact ⟨_, rfl, _, _, _, [], _, [], hW', trodAll_mk1 (shut_bool Tryz.underlying4 _), (trodAll_cons_mk (Below.trod laidOut (by kernel_rfl) (of_decide_eq_true (by kernel_rfl)) k0 bel lt0) (trodAll_cons_mk (Below.trod laidOut (by kernel_rfl) (of_decide_eq_true (by kernel_rfl)) k1 bel lt1) (trodAll_cons_mk (Below.trod laidOut (by kernel_rfl) (of_decide_eq_true (by kernel_rfl)) k2 bel lt2) trodAll_mk0))), rfl, bel.frame _, fun h => by cases h⟩
theorem over : Rows.cpuStepsRow.holds Tryz.pinned (OpenSpec.ofChange Rows.cpuStepsSpec) :=
  OpenClaim.holds_of_wide 3 Tryz.f3 rfl rfl rfl rfl rfl rfl rfl ⟨rfl, rfl, rfl, rfl, rfl⟩ rfl rfl rfl rfl rfl (by kernel_rfl) Tryz.func3 (by kernel_rfl)
    (of_decide_eq_true (by kernel_rfl)) (by unfold Func.isWrapper; first | (rw [if_pos (by decide +kernel)]; kernel_rfl) | (rw [if_neg (by decide +kernel)]; exact ⟨rfl, rfl⟩))
    (fun os started H enc _ => lifted os started H enc)
theorem proved : Rows.CpuStepsSaid := over
#print axioms proved
end Go.Proofs.YtllannmegnklmaaGreat.cpuSteps
namespace Go.Proofs.YtllannmegnklmaaGreat
/-- For the claim, under a short name. -/
theorem cpuSteps_holds : Rows.CpuStepsSaid := cpuSteps.proved
end Go.Proofs.YtllannmegnklmaaGreat
