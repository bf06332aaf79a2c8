/- calls.Result, proved by hand: an error of the machine's own, none, or one that errors.New made. -/
import Derived.Test.YtfoobmiknmpeeaaDoorN
set_option linter.unusedVariables false
set_option linter.unusedSimpArgs false
set_option linter.unnecessarySimpa false
namespace Go.Proofs.YtfoobmiknmpeeaaDoorF
open Go Go.RowKit Go.Proofs.YtfoobmiknmpeeaaDoorN
section
open Go.Extern.Stop Go.Stop Go.Extern
theorem as_typeOfX (v : Value) (w : World) : (ReflectliteType.typeOf #[.iface 50 v]).run Tryd.prog w = .ok (.iface 66 (.agg #[.pointer (some ⟨1, 50, none⟩)])) w := by kernel_rfl
theorem as_assignableX (w : World) : (ReflectliteType.relation "AssignableTo" ReflectliteType.assignableTo #[.agg #[.pointer (some ⟨1, 50, none⟩)], .iface 66 (.agg #[.pointer (some ⟨1, 40, none⟩)])]).run Tryd.prog w = .ok (.bool false) w := by kernel_rfl
theorem no0 (v : Value) (xT : TypeId) (w : World) : (Instr.typeAssert (.iface 50 v) xT 71 true).run Tryd.prog w = .ok (.tuple #[.nilIface, .bool false]) w := run_typeAssert_lacksB Tryd.underlying71 (by kernel_rfl) (by kernel_rfl) v xT w
theorem no1 (v : Value) (xT : TypeId) (w : World) : (Instr.typeAssert (.iface 50 v) xT 74 true).run Tryd.prog w = .ok (.tuple #[.nilIface, .bool false]) w := run_typeAssert_lacksB Tryd.underlying74 (by kernel_rfl) (by kernel_rfl) v xT w
theorem no2 (v : Value) (xT : TypeId) (w : World) : (Instr.typeAssert (.iface 50 v) xT 76 true).run Tryd.prog w = .ok (.tuple #[.nilIface, .bool false]) w := run_typeAssert_lacksB Tryd.underlying76 (by kernel_rfl) (by kernel_rfl) v xT w
set_option maxHeartbeats 4000000 in
theorem as_miss (x : Value) (t : Addr) (old : Value) (w : World) (hG : GC w) (ht0 : w.cell? t = some old) :
    Calls Tryd.prog 19 #[.iface 50 x, .iface 47 (.pointer (some t))] w fun ev w' => ev = .returned (.bool false) ∧ w' = (((w.alloc (.cells #[.pointer (some t)] 47)).alloc (.cells #[.pointer (some ⟨1, 47, none⟩), .pointer (some ⟨w.heap.size, 0, none⟩), .int .u64 150] 56)).alloc (.cells #[.pointer (some ⟨1, 47, none⟩), .pointer (some ⟨w.heap.size, 0, none⟩), .int .u64 150] 56)) := by
  have h6 := @run_callFunc_extern Tryd.prog 20 _ (fun args => ReflectliteValue.unpack (args.getD 0 (.tuple #[]))) Tryd.func20 (by kernel_rfl) (by kernel_rfl) (by kernel_rfl) (by kernel_rfl)
  have h7 := @run_callFunc_extern Tryd.prog 21 _ (ReflectliteValue.methodAny (ReflectliteValue.valueError "reflectlite.Value.Type" 0) (fun t _ _ _ => ReflectliteType.toType t)) Tryd.func21 (by kernel_rfl) (by kernel_rfl) (by kernel_rfl) (by kernel_rfl)
  have h8 := @run_callFunc_extern Tryd.prog 22 _ (ReflectliteValue.method (ReflectliteValue.valueError "reflectlite.Value.IsNil" 0) ReflectliteValue.isNil) Tryd.func22 (by kernel_rfl) (by kernel_rfl) (by kernel_rfl) (by kernel_rfl)
  have h27 := @run_callFunc_extern Tryd.prog 41 _ (ReflectliteType.abiMethod fun t => do pure (.int .u8 (← Rtype.kind t))) Tryd.func41 (by kernel_rfl) (by kernel_rfl) (by kernel_rfl) (by kernel_rfl)
  have h37 := @run_callFunc_extern Tryd.prog 52 _ (ReflectliteType.method ReflectliteType.elem) Tryd.func52 (by kernel_rfl) (by kernel_rfl) (by kernel_rfl) (by kernel_rfl)
  have h38 := @run_callFunc_extern Tryd.prog 53 _ (ReflectliteType.relation "Implements" ReflectliteType.implements_) Tryd.func53 (by kernel_rfl) (by kernel_rfl) (by kernel_rfl) (by kernel_rfl)
  have h10 := @run_callFunc_extern Tryd.prog 24 _ ReflectliteType.typeOf Tryd.func24 (by kernel_rfl) (by kernel_rfl) (by kernel_rfl) (by kernel_rfl)
  have h35 := @run_callFunc_extern Tryd.prog 50 _ (ReflectliteType.relation "AssignableTo" ReflectliteType.assignableTo) Tryd.func50 (by kernel_rfl) (by kernel_rfl) (by kernel_rfl) (by kernel_rfl)
  have h11 := @run_callFunc_extern Tryd.prog 25 _ (ReflectliteValue.method (ReflectliteValue.valueError "reflectlite.Value.Elem" 0) ReflectliteValue.elem) Tryd.func25 (by kernel_rfl) (by kernel_rfl) (by kernel_rfl) (by kernel_rfl)
  have h12 := @run_callFunc_extern Tryd.prog 26 _ ReflectliteValue.set Tryd.func26 (by kernel_rfl) (by kernel_rfl) (by kernel_rfl) (by kernel_rfl)
  have tO := as_typeOfX
  have n0 := no0
  have n1 := no1
  have n2 := no2
  have a25 := as_assignableX
  have mA := as_methodAssignableTo
  have f6 := as_valueOfP
  have f7 := as_typeP
  have mK := as_methodKind
  have mE := as_methodElem
  have mI := as_methodImplements
  have k27 := as_kindP
  have k25 := as_kindE
  have e27 := as_elemTP
  have i25 := as_implementsE
  have n8 := as_isNilP ⟨w.heap.size, 0, none⟩ t ((w.alloc (.cells #[.pointer (some t)] 47)).alloc (.cells #[.pointer (some ⟨1, 47, none⟩), .pointer (some ⟨w.heap.size, 0, none⟩), .int .u64 150] 56)) (by simp)
  have hg2 : ((w.alloc (.cells #[.pointer (some t)] 47)).alloc (.cells #[.pointer (some ⟨1, 47, none⟩), .pointer (some ⟨w.heap.size, 0, none⟩), .int .u64 150] 56)).cell? ⟨0, 0, none⟩ = some (.iface 66 (.agg #[.pointer (some ⟨1, 28, none⟩)])) := (hG.alloc _).alloc _
  clear hG
  go_enter Tryd.func19, Tryd.ntmps19
  go_wp2
  refine wp_loop_rounds 1 ?_
  rw [rounds_succ]
  go_wp2
  go_ret
  exact ⟨rfl, rfl⟩
end
def calls_Result.f (a0 : Int) (a1 : Option Int) : Option Int := match a1 with | none => some a0 | some c => some (-(c % 4294967296) % 4294967296)
set_option maxHeartbeats 4000000 in
theorem calls_Result.calls (a0 : Int) (a1 : Option Int) (r : Int) (w : World) (hGC : GC w) (h : calls_Result.f a0 a1 = some r) :
    Calls Tryd.prog 15 #[.int .u32 a0, errW a1] w fun e w' => e = .returned (.int .u32 r) ∧ Below w.heap.size w w' := by
  rcases a1 with _ | k
  · obtain rfl := Option.some.inj h
    clear h
    simp only [errW_none]
    go_enter Tryd.func15, Tryd.ntmps15
    go_wp2
    go_ret
    exact ⟨rfl, Below.refl _ _⟩
  · obtain rfl := Option.some.inj h
    clear h
    simp only [errW_some]
    have hA := hGC.alloc (.cells #[.int .i64 5] 40)
    have hx := as_hit k ⟨w.heap.size, 0, none⟩ (.int .i64 5) (w.alloc (.cells #[.int .i64 5] 40)) hA (by simp) (by simp)
    clear hA hGC
    go_enter Tryd.func15, Tryd.ntmps15
    go_wp2_with (go_at_call 19; refine hx.mono ?_; rintro e w' ⟨rfl, rfl⟩)
    go_ret
    refine ⟨rfl, ?_⟩
    repeat (first | exact Below.refl _ _ | refine Below.setCell ?_ (Nat.le_refl _) _ | refine Below.alloc ?_ (by first | exact Nat.le_refl _ | (simp only [World.size_alloc, World.size_setCell]; omega) | (simp; try omega)) _)
def calls_Result_oe.f (a0 : Int) : Option Int := some 4294967291
set_option maxHeartbeats 4000000 in
theorem calls_Result_oe.calls (a0 : Int) (x : Value) (r : Int) (w : World) (hGC : GC w) (h : calls_Result_oe.f a0 = some r) :
    Calls Tryd.prog 15 #[.int .u32 a0, .iface 50 x] w fun e w' => e = .returned (.int .u32 r) ∧ Below w.heap.size w w' := by
  obtain rfl := Option.some.inj h
  clear h
  have hA := hGC.alloc (.cells #[.int .i64 5] 40)
  have hx := as_miss x ⟨w.heap.size, 0, none⟩ (.int .i64 5) (w.alloc (.cells #[.int .i64 5] 40)) hA (by simp)
  clear hA hGC
  go_enter Tryd.func15, Tryd.ntmps15
  go_wp2_with (go_at_call 19; refine hx.mono ?_; rintro e w' ⟨rfl, rfl⟩)
  go_ret
  refine ⟨rfl, ?_⟩
  repeat (first | exact Below.refl _ _ | refine Below.setCell ?_ (Nat.le_refl _) _ | refine Below.alloc ?_ (by first | exact Nat.le_refl _ | (simp only [World.size_alloc, World.size_setCell]; omega) | (simp; try omega)) _)
end Go.Proofs.YtfoobmiknmpeeaaDoorF
