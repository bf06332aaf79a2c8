/- strconv.toError at a syntax error, by the shelf's law of strconv.syntaxError. -/
import Derived.Test.YtndjiebeihcbgaaDoorProg
import Derived.Test.YtndjiebeihcbgaaDoorE15
import Derived.Shelf.Pu.SyntaxError
import Derived.Lib.IfaceEq
import Derived.WalkKit
set_option linter.unusedVariables false
set_option linter.unusedSimpArgs false
set_option linter.unnecessarySimpa false
namespace Go.Proofs.YtndjiebeihcbgaaDoorF
open Go Go.Shelf Go.RowKit Go.Proofs.YtndjiebeihcbgaaDoorE

def ren : Ren where
  f := fun n => match n with | 21 => 38 | 25 => 45 | _ => 0
  t := fun n => match n with | 0 => 0 | 3 => 3 | 4 => 4 | 5 => 5 | 9 => 9 | 24 => 38 | 37 => 55 | 39 => 75 | 44 => 94 | 47 => 97 | 67 => 114 | _ => 0
  g := fun n => match n with | 0 => 2 | _ => 0

theorem lays : LaysPu.n21 Tryd.prog ren := by
  constructor
  all_goals first | kernel_rfl | (intro w; kernel_rfl)

set_option maxHeartbeats 4000000 in
set_option maxRecDepth 100000 in
theorem toError_calls (fn s : ByteArray) (base bits : Int) (ev : Value) (w : World) (hlim : s.size ≤ 281474976710656) (hv : w.cell? ⟨2, 0, none⟩ = some ev) (hev : ev = .nilIface ∨ ∃ te pe, ev = .iface te pe) :
    Calls Tryd.prog 31 #[.string fn, .string s, .int .i64 base, .int .i64 bits, .iface 72 (.int .i64 2)] w fun e w' => (∃ u, e = .returned (.iface 75 u)) ∧ Below w.heap.size w w' := by
  have mixed : Tryd.prog.follows .mixedOrders = true := by kernel_rfl
  have heq : ∀ W, (binOp .eql 38 (.iface 72 (.int .i64 2)) (.iface 72 (.int .i64 2))).run Tryd.prog W = .ok (.bool true) W := fun W => Lib.run_eql_iface_int W 2 2 Tryd.underlying38 (by kernel_rfl) Tryd.underlying72
  have e21 : ∀ args w, (callFunc 38 args).run Tryd.prog w = .ok (.enter 38 args) w := enters_of Tryd.func38 (by kernel_rfl) rfl
  go_enter Tryd.func31, Tryd.ntmps31
  go_wp2_with (go_at_call 38; refine (AnyPu.strconv_syntaxError (ρ := ren) lays fn s ev _ hlim ?_ hev).mono ?_)
  · exact hv
  rintro e w2 ⟨N, rfl, h1, h2, h3⟩
  go_wp2
  go_ret
  exact ⟨⟨_, rfl⟩, h3⟩

theorem toError_fun {C : Cfg} (hP : C.P = Tryd.prog) (hG : ((⟨2, 0, none⟩ : Addr), Value.tuple #[]) ∈ C.G) {fn s : ByteArray} {base bits : Int} (hlim : s.size ≤ 281474976710656) :
    Fun C 31 [.one (.sc (.string fn)), .one (.sc (.string s)), .one (.sc (.int .i64 base)), .one (.sc (.int .i64 bits)), .one (.sc (.iface 72 (.int .i64 2)))] [] (.v (.one (.oerr 75))) [] := by
  refine Fun.of_below2 (f := 31) (fn := Tryd.f31) (by rw [hP]; exact Tryd.func31) rfl (by kernel_rfl) fun X vs hE hvs hg => ?_
  obtain ⟨v0, us0, rfl, hv0, v1, us1, rfl, hv1, v2, us2, rfl, hv2, v3, us3, rfl, hv3, v4, us4, rfl, hv4, rfl⟩ := hvs
  obtain rfl : v0 = .string fn := hv0.1.1
  obtain rfl : v1 = .string s := hv1.1.1
  obtain rfl : v2 = .int .i64 base := hv2.1.1
  obtain rfl : v3 = .int .i64 bits := hv3.1.1
  obtain rfl : v4 = .iface 72 (.int .i64 2) := hv4.1.1
  obtain ⟨ev, h1, h2⟩ : ∃ u, X.w.cell? ⟨2, 0, none⟩ = some u ∧ (u = .nilIface ∨ ∃ t x, u = .iface t x) := hg _ hG
  rw [hP]
  refine (toError_calls fn s base bits ev X.w hlim h1 h2).mono ?_
  rintro e w' ⟨⟨u, rfl⟩, hb⟩
  exact ⟨⟨_, rfl, fun Y => ⟨⟨u, rfl⟩, rfl⟩⟩, hb⟩
end Go.Proofs.YtndjiebeihcbgaaDoorF
