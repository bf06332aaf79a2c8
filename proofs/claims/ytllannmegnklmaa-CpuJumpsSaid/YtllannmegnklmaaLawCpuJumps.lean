/- The law's row, joined. -/
import Derived.Test.YtllannmegnklmaaRows
import Derived.Test.YtllannmegnklmaaE16
import Derived.Test.YtllannmegnklmaaPureCpuJumps
import Derived.WalkKit
import Derived.ChangeSame
import Derived.ChangeVars
import Derived.JoinedOf
import Derived.RowKit
import Derived.RowKitTokens
import Derived.LaidLaws
import Derived.LaidHandle
import Derived.Stop.Joined
import Derived.SevenTiedAt
import Derived.ProofKit
import Derived.OpenShut
import Derived.ShutString
import Derived.ChangeOld
import Derived.Below
import Derived.SizedLaws
set_option linter.unusedVariables false
namespace Go.Proofs.Ytllannmegnklmaa.cpuJumps
open Go.ChangeShapes Go.WideShapes Go.ChangeAt Go.RowKit Go.Proofs.YtllannmegnklmaaE Go.Proofs.YtllannmegnklmaaGCpuJumps
theorem own : ownKnob Try.prog.godebug = none := by kernel_rfl
theorem laidOut : laidOutB Try.prog = true := by kernel_rfl
noncomputable abbrev X0 (W : World) : Cx := mkX cfg.E (fun b => b < W.heap.size) (fun _ => none) W []
set_option maxRecDepth 100000 in
theorem lifted (os : Os) (started : os.Started) (H : Type) (enc : TypeId × Value → H) :
    ReturnsInHanded {} Try.checked os 4 .any (Rows.cpuJumpsSpec.pre6 enc Try.prog Try.f4 Rows.cpuJumpsRow.domain false) (Rows.cpuJumpsSpec.post enc Try.prog Try.f4 false true false false) := by
  refine returnsInHanded_of_change_sized (C := Try.checked) own started (by kernel_rfl) Try.func4
    (ChangeSpec.witness6 (enc := enc) (C := Try.checked) false ⟨#[], #[.int .i64 0, .agg #[.int .u32 0, .int .u32 0, .int .u32 0, .int .u32 0, .int .u32 0, .int .u32 0, .int .u32 0, .int .u32 0, .int .u32 0, .int .u32 0, .int .u32 0, .int .u32 0, .int .u32 0, .int .u32 0, .int .u32 0, .int .u32 0, .int .u32 0, .int .u32 0, .int .u64 0, .int .u64 0, .int .u64 0, .int .u64 0]], []⟩ 8 (by kernel_rfl) (by kernel_rfl) (by kernel_rfl) (by kernel_rfl)) ?_
  intro W base args ds gs before hval0 hW hcnd hsz0 _
  have hsz : (DataW.weightsEach Try.prog (Try.f4.params.toList ++ Rows.cpuJumpsSpec.plain.varTypes Try.prog) (ds ++ gs)).all (· ≤ reachBytes) = true := hsz0
  have hval : ∀ (j : Nat) t v, Try.f4.params[j]? = some t → args[j]? = some v → Value.okWide Try.prog W .any base t v := hval0
  have hW' := hW
  obtain ⟨p, q, hA0, hV, rfl, hfz, hnd⟩ := hW
  have hA : DataW.TrodAll enc Try.prog W 0 (fun _ => true) true Try.f4.params.toList args.toList ds p := hA0
  rw [Try.params4] at hA hval hsz
  obtain ⟨v0, vs0, d0, ds0, p0, q0, hargs, rfl, rfl, h0, r0⟩ := trodAll_cons hA
  obtain ⟨v1, vs1, d1, ds1, p1, q1, rfl, rfl, rfl, h1, r1⟩ := trodAll_cons r0
  obtain ⟨rfl, rfl, rfl⟩ := trodAll_nil r1
  obtain rfl : args = #[v0, v1] := by cases args; simp_all
  obtain ⟨rfl, rfl⟩ := trodVars_none hV
  have k0 := h0
  have lt0 : ∀ x ∈ p0, x.block < W.heap.size := by obtain ⟨m, hm⟩ := k0; exact DataW.trod_lt m _ _ _ hm
  obtain ⟨s0, rfl⟩ := okWide_int Try.underlying3 (hval 0 3 v0 rfl rfl)
  obtain ⟨f0, hf0⟩ := h0
  obtain ⟨y0, r0_, g0⟩ := open_ty (X := X0 W) rfl (fun b h => h) 20 3 (.int .i64) (by kernel_rfl) _ _ _ hf0
  have e0 : s0 = y0 := by have h : [Value.int .i64 s0] = [Value.int .i64 y0] := r0_; exact (Value.int.inj (List.cons.inj h).1).2
  subst e0
  have k1 := h1
  have lt1 : ∀ x ∈ p1, x.block < W.heap.size := by obtain ⟨m, hm⟩ := k1; exact DataW.trod_lt m _ _ _ hm
  have ok1 := hval 1 28 v1 rfl rfl
  simp only [Value.okWide, Try.underlying28] at ok1
  obtain ⟨c1, rfl, _, _⟩ := ok1
  obtain ⟨f1, hf1⟩ := h1
  obtain ⟨y1, r1_, g1⟩ := open_ty (X := X0 W) rfl (fun b h => h) 20 28 (.pair (.arr 16 (.int .u32)) (.pair (.int .u32) (.pair (.int .u32) (.arr 4 (.int .u64))))) (by kernel_rfl) _ _ _ hf1
  clear hA0 hval0 hsz0 hsz
  have hp := halterlaw12_CpuJumps.fun_ (Pure.CpuJumps s0 (y1.1) (y1.2.1) (y1.2.2.1) (y1.2.2.2) g0 (g1.1.1) (g1.1.2) (g1.2.1) (g1.2.2.1) (g1.2.2.2.1) (g1.2.2.2.2))
  have hc := Fun.calls (C := cfg) Try.func4 rfl (by kernel_rfl) hp (W := W) (vs := [.int .i64 s0, .agg c1]) (fun g hg => by cases hg) ⟨_, _, rfl, ⟨⟨rfl, rfl⟩, rfl⟩, _, _, rfl, arg_agg r1_, rfl⟩
  refine hc.mono fun e W' ⟨⟨v, X', he, hr⟩, bel⟩ => ?_
  obtain rfl : v = .bool true := hr.1.1
  subst he
  exact ⟨_, rfl, _, _, _, [], _, [], hW', trodAll_mk1 (shut_bool Try.underlying4 _), (trodAll_cons_mk (Below.trod laidOut (by kernel_rfl) (of_decide_eq_true (by kernel_rfl)) k0 bel lt0) (trodAll_cons_mk (Below.trod laidOut (by kernel_rfl) (of_decide_eq_true (by kernel_rfl)) k1 bel lt1) trodAll_mk0)), rfl, bel.frame _, fun h => by cases h⟩
theorem over : Rows.cpuJumpsRow.holds Try.pinned (OpenSpec.ofChange Rows.cpuJumpsSpec) :=
  OpenClaim.holds_of_wide 4 Try.f4 rfl rfl rfl rfl rfl rfl rfl ⟨rfl, rfl, rfl, rfl, rfl⟩ rfl rfl rfl rfl rfl (by kernel_rfl) Try.func4 (by kernel_rfl)
    (of_decide_eq_true (by kernel_rfl)) (by unfold Func.isWrapper; first | (rw [if_pos (by decide +kernel)]; kernel_rfl) | (rw [if_neg (by decide +kernel)]; exact ⟨rfl, rfl⟩))
    (fun os started H enc _ => lifted os started H enc)
theorem proved : Rows.CpuJumpsSaid := over
#print axioms proved
end Go.Proofs.Ytllannmegnklmaa.cpuJumps
namespace Go.Proofs.Ytllannmegnklmaa
/-- For the claim, under a short name. -/
theorem cpuJumps_holds : Rows.CpuJumpsSaid := cpuJumps.proved
end Go.Proofs.Ytllannmegnklmaa
