/- Printed by gen.py: what functions of the program compute, in plain Lean, and that they do. -/
import Derived.Test.YtfoobmiknmpeeaaDoorE15
import Derived.Test.YtfoobmiknmpeeaaDoorN
import Derived.Test.YtfoobmiknmpeeaaDoorF
set_option linter.unusedVariables false
set_option maxRecDepth 100000
set_option maxHeartbeats 4000000
namespace Go.Proofs.YtfoobmiknmpeeaaDoorGCallsErrors
open Go Go.Proofs.YtfoobmiknmpeeaaDoorE
def tiL : List (Nat × TI) := [
  (2, ⟨1, 8, false, .int .i64, [.c (.sc (.int .i64 (0 : Int)))], some (.int .i64)⟩),
  (3, ⟨1, 8, false, .int .i64, [.c (.sc (.int .i64 (0 : Int)))], some (.int .i64)⟩),
  (4, ⟨1, 1, false, .bool, [.c (.sc (.bool false))], some .bool⟩),
  (9, ⟨1, 16, false, .str, [.c (.sc (.string ByteArray.empty))], some .str⟩),
  (22, ⟨1, 24, false, (.slice 9), [.c (.sc (.slice none 0 0))], some (.sl .str)⟩),
  (28, ⟨1, 16, false, .iface, [.c (.err none)], none⟩),
  (36, ⟨1, 4, false, .int .u32, [.c (.sc (.int .u32 (0 : Int)))], some (.int .u32)⟩),
  (37, ⟨1, 8, false, .int .u64, [.c (.sc (.int .u64 (0 : Int)))], some (.int .u64)⟩),
  (40, ⟨1, 8, false, .int .i64, [.c (.sc (.int .i64 (0 : Int)))], some (.int .i64)⟩),
  (43, ⟨30, 480, true, (.array 30 9), [.row 30 .str (List.replicate 30 ByteArray.empty)], some (.arr 30 .str)⟩),
  (48, ⟨30, 240, true, (.array 30 3), [.row 30 (.int .i64) (List.replicate 30 (0 : Int))], some (.arr 30 (.int .i64))⟩),
  (49, ⟨13, 208, true, (.array 13 9), [.row 13 .str (List.replicate 13 ByteArray.empty)], some (.arr 13 .str)⟩),
  (50, ⟨1, 8, false, (.ptr 52), [.c (.sc (.pointer none))], none⟩),
  (52, ⟨1, 16, true, (.struct [(0, 9)]), [.c (.sc (.string ByteArray.empty))], some .str⟩)]
def tabs : List (Nat × IntKind × List Int) := []
noncomputable def cfg : Cfg := ⟨Tryd.prog, 40, [(⟨0, 0, none⟩, .iface 66 (.agg #[.pointer (some ⟨1, 28, none⟩)]))] ++ tabs.flatMap tabG, tiL, [], tabs⟩
theorem cfg_ok : COk cfg := by
  refine ⟨fun p hp => ?_, by kernel_rfl, fun p hp => ?_, fun t ht => ?_, fun x hx y hy => List.mem_append_right _ (List.mem_flatMap.2 ⟨x, hx, hy⟩)⟩
  · simp only [cfg, tiL, List.mem_cons, List.not_mem_nil, or_false] at hp
    rcases hp with rfl | rfl | rfl | rfl | rfl | rfl | rfl | rfl | rfl | rfl | rfl | rfl | rfl | rfl <;> exact ⟨by kernel_rfl, by kernel_rfl, by kernel_rfl, by kernel_rfl, by kernel_rfl, by kernel_rfl⟩
  · simp only [cfg, tiL, List.mem_cons, List.not_mem_nil, or_false] at hp
    rcases hp with rfl | rfl | rfl | rfl | rfl | rfl | rfl | rfl | rfl | rfl | rfl | rfl | rfl | rfl <;> intro fs hfs bl hbl
    · cases hfs
    · cases hfs
    · cases hfs
    · cases hfs
    · cases hfs
    · cases hfs
    · cases hfs
    · cases hfs
    · cases hfs
    · cases hfs
    · cases hfs
    · cases hfs
    · cases hfs
    · cases hfs
      have e : fieldsZ cfg.L 0 [(0, 9)] = some [[.c (.sc (.string ByteArray.empty))]] := by kernel_rfl
      rw [e] at hbl
      cases hbl
      exact (by kernel_rfl : encPs (List.flatten [[.c (.sc (.string ByteArray.empty))]]) = encPs [.c (.sc (.string ByteArray.empty))])
  · cases ht
def fin : Scr → List Adj
  | .adj l _ => l
  | _ => []
/-! the error's number -/
def num.f (a0 : Option Int) : Option Int := some (a0.getD 0)
def num.R (r : Int) : Tm := .v (.one (.sc (.int .i64 r)))
theorem num.fun_ {a0 : Option Int} {r : Int} (h : num.f a0 = some r) : Fun cfg 8 [.one (.err a0)] [] (num.R r) [] := by
  refine Fun.of_below (f := 8) (fn := Tryd.f8) Tryd.func8 rfl (by kernel_rfl) (r := .int .i64 r) (fun X => ⟨⟨rfl, rfl⟩, rfl⟩) fun X vs hE hvs hG => ?_
  obtain ⟨v, us, rfl, hv, rfl⟩ := hvs
  have hv : v = errV X.E a0 := hv.1
  have he : errV cfg.E a0 = YtfoobmiknmpeeaaDoorN.errW a0 := by cases a0 <;> rfl
  rw [hv, hE, he]
  exact YtfoobmiknmpeeaaDoorN.num.calls a0 r X.w (hG _ (List.mem_append_left _ (List.mem_cons_self ..))) h
/-! halter/calls.Result, by hand -/
def calls_Result.f (a0 : Int) (a1 : Option Int) : Option Int := YtfoobmiknmpeeaaDoorF.calls_Result.f a0 a1
def calls_Result.R (r : Int) : Tm := .v (.one (.sc (.int .u32 r)))
theorem calls_Result.fun_ {a0 : Int} {a1 : Option Int} {r : Int} (h : calls_Result.f a0 a1 = some r) : Fun cfg 15 [.one (.sc (.int .u32 a0)), .one (.err a1)] [] (calls_Result.R r) [] := by
  refine Fun.of_below (f := 15) (fn := Tryd.f15) Tryd.func15 rfl (by kernel_rfl) (r := .int .u32 r) (fun X => ⟨⟨rfl, rfl⟩, rfl⟩) fun X vs hE hvs hG => ?_
  obtain ⟨v, us, rfl, hv, v2, us2, rfl, hv2, rfl⟩ := hvs
  have hv : v = .int .u32 a0 := hv.1.1
  have hv2 : v2 = errV X.E a1 := hv2.1
  have he : errV cfg.E a1 = YtfoobmiknmpeeaaDoorN.errW a1 := by cases a1 <;> rfl
  rw [hv, hv2, hE, he]
  exact YtfoobmiknmpeeaaDoorF.calls_Result.calls a0 a1 r X.w (hG _ (List.mem_append_left _ (List.mem_cons_self ..))) h
def calls_Result_oe.f (a0 : Int) : Option Int := YtfoobmiknmpeeaaDoorF.calls_Result_oe.f a0
def calls_Result_oe.R (r : Int) : Tm := .v (.one (.sc (.int .u32 r)))
def calls_Result_oe.B (a0 : Int) (r : Int) : List Box := []
theorem calls_Result_oe.fun_ {a0 r : Int} (h : calls_Result_oe.f a0 = some r) : Fun cfg 15 [.one (.sc (.int .u32 a0)), .one (.oerr 50)] [] (calls_Result_oe.R r) (calls_Result_oe.B a0 r) := by
  refine Fun.of_below (f := 15) (fn := Tryd.f15) Tryd.func15 rfl (by kernel_rfl) (r := .int .u32 r) (fun X => ⟨⟨rfl, rfl⟩, rfl⟩) fun X vs hE hvs hG => ?_
  obtain ⟨v, us, rfl, hv, v2, us2, rfl, hv2, rfl⟩ := hvs
  have hv : v = .int .u32 a0 := hv.1.1
  obtain ⟨x, hx⟩ : ∃ x, v2 = .iface 50 x := hv2.1
  rw [hv, hx]
  exact YtfoobmiknmpeeaaDoorF.calls_Result_oe.calls a0 x r X.w (hG _ (List.mem_append_left _ (List.mem_cons_self ..))) h
/-! halter/calls.Failed -/
def calls_Failed.f (a0 : Int) : Option Int :=
  if (IntKind.wrap .u32 (0 - a0)) ≥ (1 : Int) then
    if (IntKind.wrap .u32 (0 - a0)) ≤ (4095 : Int) then
      some (IntKind.wrap .i64 ((IntKind.wrap .u32 (0 - a0))))
    else
      some (0 : Int)
  else
    some (0 : Int)
def calls_Failed.R (r : Int) : Tm := .v (.one (.sc (.int .i64 r)))
theorem calls_Failed.fun_ {a0 : Int} {r : Int} (h : calls_Failed.f a0 = some r) : Fun cfg 13 [.one (.sc (.int .u32 a0))] [] (calls_Failed.R r) [] := by
  unfold calls_Failed.f at h
  refine fun_of_run cfg_ok (f := 13) (fn := Tryd.f13) Tryd.func13 rfl (by kernel_rfl) (rs := [.tmp 2]) rfl (nt := 14) rfl (l := fin) (k := (.br (.one true (.one true (.br (.adj [] (.adj [] (.adj [] .nil))) (.adj [] (.adj [] (.adj [] (.adj [] .nil))))))) (.one false (.one false (.one false (.adj [] (.adj [] (.adj [] (.adj [] .nil))))))))) (to_goal (q := (True) ∧ (((decide ((IntKind.wrap .u32 (0 - a0)) ≥ (1 : Int))) = true → ((decide ((IntKind.wrap .u32 (0 - a0)) ≥ (1 : Int))) = true ∧ (True) ∧ ((decide ((IntKind.wrap .u32 (0 - a0)) ≥ (1 : Int))) = true ∧ (((decide ((IntKind.wrap .u32 (0 - a0)) ≤ (4095 : Int))) = true → (True ∧ (True) ∧ (True ∧ ((True) ∧ (True) ∧ (.v (.one (.sc (.int .i64 (IntKind.wrap .i64 ((IntKind.wrap .u32 (0 - a0))))))) : Tm) = calls_Failed.R r ∧ ([] : List Box) = [])))) ∧ ((decide ((IntKind.wrap .u32 (0 - a0)) ≤ (4095 : Int))) = false → (True ∧ (True ∧ (True ∧ ((True) ∧ (True) ∧ (.v (.one (.sc (.int .i64 (0 : Int)))) : Tm) = calls_Failed.R r ∧ ([] : List Box) = []))))))))) ∧ ((decide ((IntKind.wrap .u32 (0 - a0)) ≥ (1 : Int))) = false → ((decide ((IntKind.wrap .u32 (0 - a0)) ≥ (1 : Int))) = false ∧ ((decide ((IntKind.wrap .u32 (0 - a0)) ≥ (1 : Int))) = false ∧ (false = false ∧ (True ∧ (True ∧ (True ∧ ((True) ∧ (True) ∧ (.v (.one (.sc (.int .i64 (0 : Int)))) : Tm) = calls_Failed.R r ∧ ([] : List Box) = [])))))))))) (by kernel_rfl) ?_)
  refine ⟨trivial, ?_⟩
  refine ⟨fun b1 => ?_, fun b1 => ?_⟩
  · rw [if_pos (of_decide_eq_true b1)] at h
    refine ⟨b1, ?_⟩
    refine ⟨trivial, ?_⟩
    refine ⟨b1, ?_⟩
    refine ⟨fun b2 => ?_, fun b2 => ?_⟩
    · rw [if_pos (of_decide_eq_true b2)] at h
      refine ⟨trivial, ?_⟩
      refine ⟨trivial, ?_⟩
      refine ⟨trivial, ?_⟩
      obtain rfl := Option.some.inj h
      exact ⟨trivial, trivial, rfl, rfl⟩
    · rw [if_neg (of_decide_eq_false b2)] at h
      refine ⟨trivial, ?_⟩
      refine ⟨trivial, ?_⟩
      refine ⟨trivial, ?_⟩
      obtain rfl := Option.some.inj h
      exact ⟨trivial, trivial, rfl, rfl⟩
  · rw [if_neg (of_decide_eq_false b1)] at h
    refine ⟨b1, ?_⟩
    refine ⟨b1, ?_⟩
    refine ⟨rfl, ?_⟩
    refine ⟨trivial, ?_⟩
    refine ⟨trivial, ?_⟩
    refine ⟨trivial, ?_⟩
    obtain rfl := Option.some.inj h
    exact ⟨trivial, trivial, rfl, rfl⟩
/-! halter/halterref28.Failed -/
def halterref28_Failed.f (a0 : Int) : Option Int :=
  if (IntKind.wrap .i64 ((4294967296 : Int) - (IntKind.wrap .i64 (a0)))) ≥ (1 : Int) then
    if (IntKind.wrap .i64 ((4294967296 : Int) - (IntKind.wrap .i64 (a0)))) ≤ (4095 : Int) then
      some (IntKind.wrap .i64 ((4294967296 : Int) - (IntKind.wrap .i64 (a0))))
    else
      some (0 : Int)
  else
    some (0 : Int)
def halterref28_Failed.R (r : Int) : Tm := .v (.one (.sc (.int .i64 r)))
theorem halterref28_Failed.fun_ {a0 : Int} {r : Int} (h : halterref28_Failed.f a0 = some r) : Fun cfg 14 [.one (.sc (.int .u32 a0))] [] (halterref28_Failed.R r) [] := by
  unfold halterref28_Failed.f at h
  refine fun_of_run cfg_ok (f := 14) (fn := Tryd.f14) Tryd.func14 rfl (by kernel_rfl) (rs := [.tmp 2]) rfl (nt := 14) rfl (l := fin) (k := (.br (.one true (.one true (.br (.adj [] (.adj [] (.adj [] .nil))) (.adj [] (.adj [] (.adj [] (.adj [] .nil))))))) (.one false (.one false (.one false (.adj [] (.adj [] (.adj [] (.adj [] .nil))))))))) (to_goal (q := (True) ∧ (True) ∧ (True) ∧ (((decide ((IntKind.wrap .i64 ((4294967296 : Int) - (IntKind.wrap .i64 (a0)))) ≥ (1 : Int))) = true → ((decide ((IntKind.wrap .i64 ((4294967296 : Int) - (IntKind.wrap .i64 (a0)))) ≥ (1 : Int))) = true ∧ (True) ∧ ((decide ((IntKind.wrap .i64 ((4294967296 : Int) - (IntKind.wrap .i64 (a0)))) ≥ (1 : Int))) = true ∧ (((decide ((IntKind.wrap .i64 ((4294967296 : Int) - (IntKind.wrap .i64 (a0)))) ≤ (4095 : Int))) = true → (True ∧ (True ∧ ((True) ∧ (True) ∧ (.v (.one (.sc (.int .i64 (IntKind.wrap .i64 ((4294967296 : Int) - (IntKind.wrap .i64 (a0))))))) : Tm) = halterref28_Failed.R r ∧ ([] : List Box) = [])))) ∧ ((decide ((IntKind.wrap .i64 ((4294967296 : Int) - (IntKind.wrap .i64 (a0)))) ≤ (4095 : Int))) = false → (True ∧ (True ∧ (True ∧ ((True) ∧ (True) ∧ (.v (.one (.sc (.int .i64 (0 : Int)))) : Tm) = halterref28_Failed.R r ∧ ([] : List Box) = []))))))))) ∧ ((decide ((IntKind.wrap .i64 ((4294967296 : Int) - (IntKind.wrap .i64 (a0)))) ≥ (1 : Int))) = false → ((decide ((IntKind.wrap .i64 ((4294967296 : Int) - (IntKind.wrap .i64 (a0)))) ≥ (1 : Int))) = false ∧ ((decide ((IntKind.wrap .i64 ((4294967296 : Int) - (IntKind.wrap .i64 (a0)))) ≥ (1 : Int))) = false ∧ (false = false ∧ (True ∧ (True ∧ (True ∧ ((True) ∧ (True) ∧ (.v (.one (.sc (.int .i64 (0 : Int)))) : Tm) = halterref28_Failed.R r ∧ ([] : List Box) = [])))))))))) (by kernel_rfl) ?_)
  refine ⟨trivial, ?_⟩
  refine ⟨trivial, ?_⟩
  refine ⟨trivial, ?_⟩
  refine ⟨fun b1 => ?_, fun b1 => ?_⟩
  · rw [if_pos (of_decide_eq_true b1)] at h
    refine ⟨b1, ?_⟩
    refine ⟨trivial, ?_⟩
    refine ⟨b1, ?_⟩
    refine ⟨fun b2 => ?_, fun b2 => ?_⟩
    · rw [if_pos (of_decide_eq_true b2)] at h
      refine ⟨trivial, ?_⟩
      refine ⟨trivial, ?_⟩
      obtain rfl := Option.some.inj h
      exact ⟨trivial, trivial, rfl, rfl⟩
    · rw [if_neg (of_decide_eq_false b2)] at h
      refine ⟨trivial, ?_⟩
      refine ⟨trivial, ?_⟩
      refine ⟨trivial, ?_⟩
      obtain rfl := Option.some.inj h
      exact ⟨trivial, trivial, rfl, rfl⟩
  · rw [if_neg (of_decide_eq_false b1)] at h
    refine ⟨b1, ?_⟩
    refine ⟨b1, ?_⟩
    refine ⟨rfl, ?_⟩
    refine ⟨trivial, ?_⟩
    refine ⟨trivial, ?_⟩
    refine ⟨trivial, ?_⟩
    obtain rfl := Option.some.inj h
    exact ⟨trivial, trivial, rfl, rfl⟩
/-! errors.New -/
def errors_New.f (a0 : ByteArray) : Option Unit :=
  some ()
def errors_New.R (r : Unit) : Tm := .v (.one (.oerr 50))
def errors_New.B (a0 : ByteArray) (r : Unit) : List Box := []
theorem errors_New.fun_ {a0 : ByteArray} {r : Unit} (h : errors_New.f a0 = some r) : Fun cfg 16 [.one (.sc (.string a0))] [] (errors_New.R r) (errors_New.B a0 r) := by
  unfold errors_New.f at h
  refine fun_of_run cfg_ok (f := 16) (fn := Tryd.f16) Tryd.func16 rfl (by kernel_rfl) (rs := [.tmp 2]) rfl (nt := 7) rfl (l := fin) (k := (.adj [] (.adj [] (.adj [] (.adj [.drop 0] .nil))))) (to_goal (q := (True ∧ (True ∧ (True ∧ ((True) ∧ ((True) ∧ True) ∧ (.v (.one (.oerr 50)) : Tm) = errors_New.R r ∧ ([] : List Box) = errors_New.B a0 r))))) (by kernel_rfl) ?_)
  refine ⟨trivial, ?_⟩
  refine ⟨trivial, ?_⟩
  refine ⟨trivial, ?_⟩
  obtain rfl := Option.some.inj h
  exact ⟨trivial, ⟨trivial, trivial⟩, rfl, rfl⟩
/-! halter/calls.names -/
def calls_names.f : Option (List ByteArray) :=
  some [ByteArray.empty, (⟨#[101, 120, 105, 116]⟩ : ByteArray), (⟨#[102, 111, 114, 107]⟩ : ByteArray), (⟨#[101, 120, 101, 99]⟩ : ByteArray), (⟨#[119, 97, 105, 116]⟩ : ByteArray), (⟨#[107, 105, 108, 108]⟩ : ByteArray), (⟨#[103, 101, 116, 112, 105, 100]⟩ : ByteArray), (⟨#[103, 101, 116, 112, 112, 105, 100]⟩ : ByteArray), (⟨#[111, 112, 101, 110]⟩ : ByteArray), (⟨#[99, 108, 111, 115, 101]⟩ : ByteArray), (⟨#[114, 101, 97, 100]⟩ : ByteArray), (⟨#[119, 114, 105, 116, 101]⟩ : ByteArray), (⟨#[115, 101, 101, 107]⟩ : ByteArray), (⟨#[100, 117, 112]⟩ : ByteArray), (⟨#[112, 105, 112, 101]⟩ : ByteArray), (⟨#[109, 107, 100, 105, 114]⟩ : ByteArray), (⟨#[117, 110, 108, 105, 110, 107]⟩ : ByteArray), (⟨#[109, 109, 97, 112]⟩ : ByteArray), (⟨#[109, 117, 110, 109, 97, 112]⟩ : ByteArray), (⟨#[109, 112, 114, 111, 116, 101, 99, 116]⟩ : ByteArray), (⟨#[98, 114, 107]⟩ : ByteArray), (⟨#[115, 105, 103, 97, 99, 116]⟩ : ByteArray), (⟨#[115, 105, 103, 109, 97, 115, 107]⟩ : ByteArray), (⟨#[115, 105, 103, 114, 101, 116, 117, 114, 110]⟩ : ByteArray), (⟨#[112, 116, 114, 97, 99, 101]⟩ : ByteArray), (⟨#[115, 101, 116, 117, 105, 100]⟩ : ByteArray), (⟨#[103, 101, 116, 117, 105, 100]⟩ : ByteArray), (⟨#[116, 105, 109, 101]⟩ : ByteArray), (⟨#[97, 108, 97, 114, 109]⟩ : ByteArray), (⟨#[112, 97, 117, 115, 101]⟩ : ByteArray)]
def calls_names.R (r : (List ByteArray)) : Tm := .v (.agg [.row 30 .str r])
theorem calls_names.fun_ {r : (List ByteArray)} (h : calls_names.f = some r) : Fun cfg 17 [] [] (calls_names.R r) [] := by
  unfold calls_names.f at h
  refine fun_of_run cfg_ok (f := 17) (fn := Tryd.f17) Tryd.func17 rfl (by kernel_rfl) (rs := [.cell 0 43]) rfl (nt := 2) rfl (l := fin) (k := (.adj [] (.adj [] (.adj [] (.adj [.drop 0] .nil))))) (to_goal (q := (True ∧ (True ∧ (True) ∧ (True ∧ (((True) ∧ True) ∧ ((True) ∧ True) ∧ (.v (.agg [.row 30 .str [ByteArray.empty, (⟨#[101, 120, 105, 116]⟩ : ByteArray), (⟨#[102, 111, 114, 107]⟩ : ByteArray), (⟨#[101, 120, 101, 99]⟩ : ByteArray), (⟨#[119, 97, 105, 116]⟩ : ByteArray), (⟨#[107, 105, 108, 108]⟩ : ByteArray), (⟨#[103, 101, 116, 112, 105, 100]⟩ : ByteArray), (⟨#[103, 101, 116, 112, 112, 105, 100]⟩ : ByteArray), (⟨#[111, 112, 101, 110]⟩ : ByteArray), (⟨#[99, 108, 111, 115, 101]⟩ : ByteArray), (⟨#[114, 101, 97, 100]⟩ : ByteArray), (⟨#[119, 114, 105, 116, 101]⟩ : ByteArray), (⟨#[115, 101, 101, 107]⟩ : ByteArray), (⟨#[100, 117, 112]⟩ : ByteArray), (⟨#[112, 105, 112, 101]⟩ : ByteArray), (⟨#[109, 107, 100, 105, 114]⟩ : ByteArray), (⟨#[117, 110, 108, 105, 110, 107]⟩ : ByteArray), (⟨#[109, 109, 97, 112]⟩ : ByteArray), (⟨#[109, 117, 110, 109, 97, 112]⟩ : ByteArray), (⟨#[109, 112, 114, 111, 116, 101, 99, 116]⟩ : ByteArray), (⟨#[98, 114, 107]⟩ : ByteArray), (⟨#[115, 105, 103, 97, 99, 116]⟩ : ByteArray), (⟨#[115, 105, 103, 109, 97, 115, 107]⟩ : ByteArray), (⟨#[115, 105, 103, 114, 101, 116, 117, 114, 110]⟩ : ByteArray), (⟨#[112, 116, 114, 97, 99, 101]⟩ : ByteArray), (⟨#[115, 101, 116, 117, 105, 100]⟩ : ByteArray), (⟨#[103, 101, 116, 117, 105, 100]⟩ : ByteArray), (⟨#[116, 105, 109, 101]⟩ : ByteArray), (⟨#[97, 108, 97, 114, 109]⟩ : ByteArray), (⟨#[112, 97, 117, 115, 101]⟩ : ByteArray)]]) : Tm) = calls_names.R r ∧ ([] : List Box) = []))))) (by kernel_rfl) ?_)
  refine ⟨trivial, ?_⟩
  refine ⟨trivial, ?_⟩
  refine ⟨trivial, ?_⟩
  refine ⟨trivial, ?_⟩
  obtain rfl := Option.some.inj h
  exact ⟨⟨trivial, trivial⟩, ⟨trivial, trivial⟩, rfl, rfl⟩
/-! halter/calls.Name -/
def calls_Name.f (a0 : Int) : Option ByteArray :=
  if a0 < (1 : Int) then
    some ByteArray.empty
  else
    if a0 ≥ (30 : Int) then
      some ByteArray.empty
    else
      calls_names.f.bind fun t3 =>
      if 0 ≤ a0 ∧ a0 < ((30 : Nat) : Int) then
        some (List.getD t3 (Int.toNat a0) ByteArray.empty)
      else none
def calls_Name.R (r : ByteArray) : Tm := .v (.one (.sc (.string r)))
theorem calls_Name.fun_ {a0 : Int} {r : ByteArray} (h : calls_Name.f a0 = some r) : Fun cfg 9 [.one (.sc (.int .i64 a0))] [] (calls_Name.R r) [] := by
  unfold calls_Name.f at h
  refine fun_of_run cfg_ok (f := 9) (fn := Tryd.f9) Tryd.func9 rfl (by kernel_rfl) (rs := [.tmp 2]) rfl (nt := 12) rfl (l := fin) (k := (.br (.one true (.one true (.one true (.adj [] (.adj [] (.adj [] .nil)))))) (.one false (.one false (.br (.adj [] (.adj [] (.adj [] .nil))) (.call true [] ((List ByteArray)) (fun t3 => calls_names.R t3) (fun t3 => (.adj [] (.adj [] .nil))))))))) (to_goal (q := (True) ∧ (((decide (a0 < (1 : Int))) = false → ((decide (a0 < (1 : Int))) = false ∧ (True) ∧ ((decide (a0 < (1 : Int))) = false ∧ (((decide (a0 ≥ (30 : Int))) = true → (True ∧ (True ∧ ((True) ∧ (True) ∧ (.v (.one (.sc (.string ByteArray.empty))) : Tm) = calls_Name.R r ∧ ([] : List Box) = [])))) ∧ ((decide (a0 ≥ (30 : Int))) = false → (∃ t3 : (List ByteArray), (Fun cfg 17 [] [] (calls_names.R t3) [] ∧ True) ∧ (0 ≤ a0 ∧ a0 < ((30 : Nat) : Int)) ∧ (True ∧ ((True) ∧ (True) ∧ (.v (.one (.sc (.string (List.getD t3 (Int.toNat a0) ByteArray.empty)))) : Tm) = calls_Name.R r ∧ ([] : List Box) = [])))))))) ∧ ((decide (a0 < (1 : Int))) = true → ((decide (a0 < (1 : Int))) = true ∧ ((decide (a0 < (1 : Int))) = true ∧ (true = true ∧ (True ∧ (True ∧ ((True) ∧ (True) ∧ (.v (.one (.sc (.string ByteArray.empty))) : Tm) = calls_Name.R r ∧ ([] : List Box) = []))))))))) (by kernel_rfl) ?_)
  refine ⟨trivial, ?_⟩
  refine ⟨fun b1 => ?_, fun b1 => ?_⟩
  · rw [if_neg (of_decide_eq_false b1)] at h
    refine ⟨b1, ?_⟩
    refine ⟨trivial, ?_⟩
    refine ⟨b1, ?_⟩
    refine ⟨fun b2 => ?_, fun b2 => ?_⟩
    · rw [if_pos (of_decide_eq_true b2)] at h
      refine ⟨trivial, ?_⟩
      refine ⟨trivial, ?_⟩
      obtain rfl := Option.some.inj h
      exact ⟨trivial, trivial, rfl, rfl⟩
    · rw [if_neg (of_decide_eq_false b2)] at h
      obtain ⟨t3, ht3, h⟩ := of_bind h
      refine ⟨t3, ⟨calls_names.fun_ ht3, trivial⟩, ?_⟩
      obtain ⟨g4, h⟩ := of_guard h
      refine ⟨g4, ?_⟩
      refine ⟨trivial, ?_⟩
      obtain rfl := Option.some.inj h
      exact ⟨trivial, trivial, rfl, rfl⟩
  · rw [if_pos (of_decide_eq_true b1)] at h
    refine ⟨b1, ?_⟩
    refine ⟨b1, ?_⟩
    refine ⟨rfl, ?_⟩
    refine ⟨trivial, ?_⟩
    refine ⟨trivial, ?_⟩
    obtain rfl := Option.some.inj h
    exact ⟨trivial, trivial, rfl, rfl⟩
/-! slices.Index[[]string,string] -/
def slices_Index_string_string.l0 (a0 : (List ByteArray)) (a1 : ByteArray) : Nat → Int → Option ((Unit) ⊕ (Int))
  | 0, _ => none
  | n + 1, x1 =>
    if x1 < (((List.length a0) : Nat) : Int) then
      if 0 ≤ x1 ∧ x1 < (((List.length a0) : Nat) : Int) then
        if a1 = (List.getD a0 (Int.toNat x1) ByteArray.empty) then
          some (.inr x1)
        else
          slices_Index_string_string.l0 a0 a1 n (IntKind.wrap .i64 (x1 + (1 : Int)))
      else none
    else
      some (.inl ())
def slices_Index_string_string.l0_S (a0 : (List ByteArray)) (a1 : ByteArray) (x1 : Int) : St := ⟨[.v (.one (.fs .str a0 false)), .v (.one (.sc (.string a1))), .any, .any, .any, .any, .any, .v (.one (.sc (.int .i64 (((List.length a0) : Nat) : Int)))), .v (.one (.sc (.int .i64 x1))), .any, .any, .any, .any, .any, .any, .any, .any, .any, .any], [], 0⟩
def slices_Index_string_string.l0_Q (a0 : (List ByteArray)) (a1 : ByteArray) : (Unit) ⊕ (Int) → Exit → St → Prop
  | .inl t => fun e s => e = (.exit 0) ∧ s = ⟨[.any, .any, .any, .any, .any, .any, .any, .any, .any, .any, .any, .any, .any, .any, .any, .any, .any, .any, .any], [], 0⟩
  | .inr t => fun e s => e = .ret ∧ s = ⟨[.any, .any, .any, .any, .v (.one (.sc (.int .i64 t))), .any, .any, .any, .any, .any, .any, .any, .any, .any, .any, .any, .any, .any, .any], [], 0⟩
theorem slices_Index_string_string.l0_ok (a0 : (List ByteArray)) (a1 : ByteArray) : ∀ (n : Nat) (x1 : Int) (r : (Unit) ⊕ (Int)), slices_Index_string_string.l0 a0 a1 n x1 = some r → TripN cfg (cpath (Tryd.f18.body.getD .skip) [1, 0, 1, 0, 0]) n (slices_Index_string_string.l0_S a0 a1 x1) (slices_Index_string_string.l0_Q a0 a1 r) := by
  intro n
  induction n with
  | zero => intro x1 r h; cases h
  | succ n ih =>
    intro x1 r h
    rw [slices_Index_string_string.l0] at h
    refine TripN.of_run cfg_ok (k := (.br (.br (.adj [] (.adj [.keep [4], .drop 0] .nil)) (.adj [] (.adj [] (.adj [.keep [0, 1, 7, 8], .drop 0] .nil)))) (.adj [.keep [], .drop 0] .nil))) (to_goal (q := (True) ∧ (((decide (x1 < (((List.length a0) : Nat) : Int))) = true → (0 ≤ x1 ∧ x1 < (((List.length a0) : Nat) : Int)) ∧ (True) ∧ (True) ∧ (((a1.toList == (List.getD a0 (Int.toNat x1) ByteArray.empty).toList) = true → (True ∧ (((True) ∧ (True) ∧ True) ∧ slices_Index_string_string.l0_Q a0 a1 r .ret ⟨[.any, .any, .any, .any, .v (.one (.sc (.int .i64 x1))), .any, .any, .any, .any, .any, .any, .any, .any, .any, .any, .any, .any, .any, .any], [], 0⟩))) ∧ ((a1.toList == (List.getD a0 (Int.toNat x1) ByteArray.empty).toList) = false → (True ∧ (True ∧ (True) ∧ (((True) ∧ (True) ∧ True) ∧ TripN cfg (cpath (Tryd.f18.body.getD .skip) [1, 0, 1, 0, 0]) n (slices_Index_string_string.l0_S a0 a1 (IntKind.wrap .i64 (x1 + (1 : Int)))) (slices_Index_string_string.l0_Q a0 a1 r))))))) ∧ ((decide (x1 < (((List.length a0) : Nat) : Int))) = false → (((True) ∧ (True) ∧ True) ∧ slices_Index_string_string.l0_Q a0 a1 r (.exit 0) ⟨[.any, .any, .any, .any, .any, .any, .any, .any, .any, .any, .any, .any, .any, .any, .any, .any, .any, .any, .any], [], 0⟩)))) (by kernel_rfl) ?_)
    refine ⟨trivial, ?_⟩
    refine ⟨fun b7 => ?_, fun b7 => ?_⟩
    · rw [if_pos (of_decide_eq_true b7)] at h
      obtain ⟨g9, h⟩ := of_guard h
      refine ⟨g9, ?_⟩
      refine ⟨trivial, ?_⟩
      refine ⟨trivial, ?_⟩
      refine ⟨fun b8 => ?_, fun b8 => ?_⟩
      · rw [if_pos (str_t b8)] at h
        refine ⟨trivial, ?_⟩
        obtain rfl := Option.some.inj h
        exact ⟨⟨trivial, trivial, trivial⟩, rfl, rfl⟩
      · rw [if_neg (str_f b8)] at h
        refine ⟨trivial, ?_⟩
        refine ⟨trivial, ?_⟩
        refine ⟨trivial, ?_⟩
        exact ⟨⟨trivial, trivial, trivial⟩, ih (IntKind.wrap .i64 (x1 + (1 : Int))) r h⟩
    · rw [if_neg (of_decide_eq_false b7)] at h
      obtain rfl := Option.some.inj h
      exact ⟨⟨trivial, trivial, trivial⟩, rfl, rfl⟩
def slices_Index_string_string.f (a0 : (List ByteArray)) (a1 : ByteArray) : Option Int :=
  (slices_Index_string_string.l0 a0 a1 FUEL (0 : Int)).bind fun t6 =>
  match t6 with
  | .inl t11 =>
    some (-1 : Int)
  | .inr t12 =>
    some t12
def slices_Index_string_string.R (r : Int) : Tm := .v (.one (.sc (.int .i64 r)))
theorem slices_Index_string_string.fun_ {a0 : (List ByteArray)} {a1 : ByteArray} {r : Int} (h : slices_Index_string_string.f a0 a1 = some r) : Fun cfg 18 [.one (.fs .str a0 false), .one (.sc (.string a1))] [] (slices_Index_string_string.R r) [] := by
  unfold slices_Index_string_string.f at h
  refine fun_of_run cfg_ok (f := 18) (fn := Tryd.f18) Tryd.func18 rfl (by kernel_rfl) (rs := [.tmp 4]) rfl (nt := 19) rfl (l := fin) (k := (.adj [] (.adj [] (.adj [] (.adj [.keep [0, 1, 7, 8]] (.alt (.sub (Unit) (fun _ => (.exit 0)) (fun t11 => ⟨[.any, .any, .any, .any, .any, .any, .any, .any, .any, .any, .any, .any, .any, .any, .any, .any, .any, .any, .any], [], 0⟩) (fun t11 => (.adj [] (.adj [] (.adj [] .nil))))) (.sub (Int) (fun _ => .ret) (fun t12 => ⟨[.any, .any, .any, .any, .v (.one (.sc (.int .i64 t12))), .any, .any, .any, .any, .any, .any, .any, .any, .any, .any, .any, .any, .any, .any], [], 0⟩) (fun t12 => (.adj [] .nil))))))))) (to_goal (q := (True ∧ (True ∧ (True) ∧ (True ∧ (((True) ∧ True) ∧ ((∃ t11 : Unit, Trip cfg (.loop (cpath (Tryd.f18.body.getD .skip) [1, 0, 1, 0, 0])) ⟨[.v (.one (.fs .str a0 false)), .v (.one (.sc (.string a1))), .any, .any, .any, .any, .any, .v (.one (.sc (.int .i64 (((List.length a0) : Nat) : Int)))), .v (.one (.sc (.int .i64 (0 : Int)))), .any, .any, .any, .any, .any, .any, .any, .any, .any, .any], [], 0⟩ (fun e s => e = (.exit 0) ∧ s = ⟨[.any, .any, .any, .any, .any, .any, .any, .any, .any, .any, .any, .any, .any, .any, .any, .any, .any, .any, .any], [], 0⟩) ∧ (True ∧ (True ∧ ((True) ∧ (True) ∧ (.v (.one (.sc (.int .i64 (-1 : Int)))) : Tm) = slices_Index_string_string.R r ∧ ([] : List Box) = [])))) ∨ (∃ t12 : Int, Trip cfg (.loop (cpath (Tryd.f18.body.getD .skip) [1, 0, 1, 0, 0])) ⟨[.v (.one (.fs .str a0 false)), .v (.one (.sc (.string a1))), .any, .any, .any, .any, .any, .v (.one (.sc (.int .i64 (((List.length a0) : Nat) : Int)))), .v (.one (.sc (.int .i64 (0 : Int)))), .any, .any, .any, .any, .any, .any, .any, .any, .any, .any], [], 0⟩ (fun e s => e = .ret ∧ s = ⟨[.any, .any, .any, .any, .v (.one (.sc (.int .i64 t12))), .any, .any, .any, .any, .any, .any, .any, .any, .any, .any, .any, .any, .any, .any], [], 0⟩) ∧ ((True) ∧ (True) ∧ (.v (.one (.sc (.int .i64 t12))) : Tm) = slices_Index_string_string.R r ∧ ([] : List Box) = [])))))))) (by kernel_rfl) ?_)
  refine ⟨trivial, ?_⟩
  refine ⟨trivial, ?_⟩
  refine ⟨trivial, ?_⟩
  refine ⟨trivial, ?_⟩
  obtain ⟨t6, ht6, h⟩ := of_bind h
  refine ⟨⟨trivial, trivial⟩, ?_⟩
  rcases t6 with t11 | t12
  · dsimp only at h
    left
    refine ⟨t11, Trip.loop FUEL (slices_Index_string_string.l0_ok a0 a1 FUEL (0 : Int) (.inl t11) ht6), ?_⟩
    refine ⟨trivial, ?_⟩
    refine ⟨trivial, ?_⟩
    obtain rfl := Option.some.inj h
    exact ⟨trivial, trivial, rfl, rfl⟩
  · dsimp only at h
    right
    refine ⟨t12, Trip.loop FUEL (slices_Index_string_string.l0_ok a0 a1 FUEL (0 : Int) (.inr t12) ht6), ?_⟩
    obtain rfl := Option.some.inj h
    exact ⟨trivial, trivial, rfl, rfl⟩
/-! halter/calls.Find -/
def calls_Find.f (a0 : ByteArray) : Option (Int × (Option Int)) :=
  calls_names.f.bind fun t1 =>
  (slices_Index_string_string.f (List.take 30 t1) a0).bind fun t2 =>
  if t2 < (1 : Int) then
    some ((0 : Int), (some (38 : Int)))
  else
    some (t2, none)
def calls_Find.R (r : Int × (Option Int)) : Tm := .tup [.one (.sc (.int .i64 r.1)), .one (.err r.2)]
theorem calls_Find.fun_ {a0 : ByteArray} {r : Int × (Option Int)} (h : calls_Find.f a0 = some r) : Fun cfg 7 [.one (.sc (.string a0))] [] (calls_Find.R r) [] := by
  unfold calls_Find.f at h
  refine fun_of_run cfg_ok (f := 7) (fn := Tryd.f7) Tryd.func7 rfl (by kernel_rfl) (rs := [.tmp 2, .tmp 3]) rfl (nt := 14) rfl (l := fin) (k := (.call true [] ((List ByteArray)) (fun t1 => calls_names.R t1) (fun t1 => (.call false [] (Int) (fun t2 => slices_Index_string_string.R t2) (fun t2 => (.br (.adj [] (.adj [] (.adj [.drop 0] .nil))) (.adj [] (.adj [] (.adj [] (.adj [.drop 0] .nil)))))))))) (to_goal (q := (∃ t1 : (List ByteArray), (Fun cfg 17 [] [] (calls_names.R t1) [] ∧ True) ∧ (True) ∧ ((True) ∧ (True) ∧ (True) ∧ (false = true → false = true)) ∧ (∃ t2 : Int, ((0 + 30 ≤ 30) ∧ Fun cfg 18 [.one (.fs .str (List.take 30 t1) false), .one (.sc (.string a0))] [] (slices_Index_string_string.R t2) [] ∧ True) ∧ (True) ∧ (((decide (t2 < (1 : Int))) = true → (True ∧ (True ∧ ((True) ∧ ((True) ∧ True) ∧ (.tup [.one (.sc (.int .i64 (0 : Int))), .one (.err (some (38 : Int)))] : Tm) = calls_Find.R r ∧ ([] : List Box) = [])))) ∧ ((decide (t2 < (1 : Int))) = false → (True ∧ (True ∧ (True ∧ ((True) ∧ ((True) ∧ True) ∧ (.tup [.one (.sc (.int .i64 t2)), .one (.err none)] : Tm) = calls_Find.R r ∧ ([] : List Box) = []))))))))) (by kernel_rfl) ?_)
  obtain ⟨t1, ht1, h⟩ := of_bind h
  refine ⟨t1, ⟨calls_names.fun_ ht1, trivial⟩, ?_⟩
  refine ⟨trivial, ?_⟩
  refine ⟨⟨trivial, trivial, trivial, (by decide)⟩, ?_⟩
  obtain ⟨t2, ht2, h⟩ := of_bind h
  refine ⟨t2, ⟨(by decide), slices_Index_string_string.fun_ ht2, trivial⟩, ?_⟩
  refine ⟨trivial, ?_⟩
  refine ⟨fun b3 => ?_, fun b3 => ?_⟩
  · rw [if_pos (of_decide_eq_true b3)] at h
    refine ⟨trivial, ?_⟩
    refine ⟨trivial, ?_⟩
    obtain rfl := Option.some.inj h
    exact ⟨trivial, ⟨trivial, trivial⟩, rfl, rfl⟩
  · rw [if_neg (of_decide_eq_false b3)] at h
    refine ⟨trivial, ?_⟩
    refine ⟨trivial, ?_⟩
    refine ⟨trivial, ?_⟩
    obtain rfl := Option.some.inj h
    exact ⟨trivial, ⟨trivial, trivial⟩, rfl, rfl⟩
/-! halter/calls.Args -/
def calls_Args.f (a0 : Int) : Option Int :=
  if a0 < (1 : Int) then
    some (0 : Int)
  else
    if a0 ≥ (30 : Int) then
      some (0 : Int)
    else
      if 0 ≤ a0 ∧ a0 < ((30 : Nat) : Int) then
        some (List.getD [(0 : Int), (1 : Int), (0 : Int), (1 : Int), (3 : Int), (2 : Int), (0 : Int), (0 : Int), (2 : Int), (1 : Int), (3 : Int), (3 : Int), (3 : Int), (1 : Int), (1 : Int), (1 : Int), (1 : Int), (3 : Int), (2 : Int), (3 : Int), (1 : Int), (2 : Int), (2 : Int), (0 : Int), (4 : Int), (1 : Int), (0 : Int), (0 : Int), (1 : Int), (0 : Int)] (Int.toNat a0) (0 : Int))
      else none
def calls_Args.R (r : Int) : Tm := .v (.one (.sc (.int .i64 r)))
theorem calls_Args.fun_ {a0 : Int} {r : Int} (h : calls_Args.f a0 = some r) : Fun cfg 10 [.one (.sc (.int .i64 a0))] [] (calls_Args.R r) [] := by
  unfold calls_Args.f at h
  refine fun_of_run cfg_ok (f := 10) (fn := Tryd.f10) Tryd.func10 rfl (by kernel_rfl) (rs := [.tmp 2]) rfl (nt := 12) rfl (l := fin) (k := (.br (.one true (.one true (.one true (.adj [] (.adj [] (.adj [] .nil)))))) (.one false (.one false (.br (.adj [] (.adj [] (.adj [] .nil))) (.adj [] (.adj [] (.adj [] (.adj [] .nil))))))))) (to_goal (q := (True) ∧ (((decide (a0 < (1 : Int))) = false → ((decide (a0 < (1 : Int))) = false ∧ (True) ∧ ((decide (a0 < (1 : Int))) = false ∧ (((decide (a0 ≥ (30 : Int))) = true → (True ∧ (True ∧ ((True) ∧ (True) ∧ (.v (.one (.sc (.int .i64 (0 : Int)))) : Tm) = calls_Args.R r ∧ ([] : List Box) = [])))) ∧ ((decide (a0 ≥ (30 : Int))) = false → (True ∧ (True ∧ (0 ≤ a0 ∧ a0 < ((30 : Nat) : Int)) ∧ (True ∧ ((True) ∧ (True) ∧ (.v (.one (.sc (.int .i64 (List.getD [(0 : Int), (1 : Int), (0 : Int), (1 : Int), (3 : Int), (2 : Int), (0 : Int), (0 : Int), (2 : Int), (1 : Int), (3 : Int), (3 : Int), (3 : Int), (1 : Int), (1 : Int), (1 : Int), (1 : Int), (3 : Int), (2 : Int), (3 : Int), (1 : Int), (2 : Int), (2 : Int), (0 : Int), (4 : Int), (1 : Int), (0 : Int), (0 : Int), (1 : Int), (0 : Int)] (Int.toNat a0) (0 : Int))))) : Tm) = calls_Args.R r ∧ ([] : List Box) = []))))))))) ∧ ((decide (a0 < (1 : Int))) = true → ((decide (a0 < (1 : Int))) = true ∧ ((decide (a0 < (1 : Int))) = true ∧ (true = true ∧ (True ∧ (True ∧ ((True) ∧ (True) ∧ (.v (.one (.sc (.int .i64 (0 : Int)))) : Tm) = calls_Args.R r ∧ ([] : List Box) = []))))))))) (by kernel_rfl) ?_)
  refine ⟨trivial, ?_⟩
  refine ⟨fun b1 => ?_, fun b1 => ?_⟩
  · rw [if_neg (of_decide_eq_false b1)] at h
    refine ⟨b1, ?_⟩
    refine ⟨trivial, ?_⟩
    refine ⟨b1, ?_⟩
    refine ⟨fun b2 => ?_, fun b2 => ?_⟩
    · rw [if_pos (of_decide_eq_true b2)] at h
      refine ⟨trivial, ?_⟩
      refine ⟨trivial, ?_⟩
      obtain rfl := Option.some.inj h
      exact ⟨trivial, trivial, rfl, rfl⟩
    · rw [if_neg (of_decide_eq_false b2)] at h
      refine ⟨trivial, ?_⟩
      refine ⟨trivial, ?_⟩
      obtain ⟨g3, h⟩ := of_guard h
      refine ⟨g3, ?_⟩
      refine ⟨trivial, ?_⟩
      obtain rfl := Option.some.inj h
      exact ⟨trivial, trivial, rfl, rfl⟩
  · rw [if_pos (of_decide_eq_true b1)] at h
    refine ⟨b1, ?_⟩
    refine ⟨b1, ?_⟩
    refine ⟨rfl, ?_⟩
    refine ⟨trivial, ?_⟩
    refine ⟨trivial, ?_⟩
    obtain rfl := Option.some.inj h
    exact ⟨trivial, trivial, rfl, rfl⟩
/-! halter/calls.Ask -/
def calls_Ask.f (a0 : Int) : Option ByteArray :=
  if a0 < (0 : Int) then
    some ByteArray.empty
  else
    if a0 ≥ (13 : Int) then
      some ByteArray.empty
    else
      if 0 ≤ a0 ∧ a0 < ((13 : Nat) : Int) then
        some (List.getD [(⟨#[116, 114, 97, 99, 101, 109, 101]⟩ : ByteArray), (⟨#[112, 101, 101, 107]⟩ : ByteArray), (⟨#[112, 101, 101, 107, 117, 115, 101, 114]⟩ : ByteArray), (⟨#[112, 111, 107, 101]⟩ : ByteArray), (⟨#[112, 111, 107, 101, 117, 115, 101, 114]⟩ : ByteArray), (⟨#[99, 111, 110, 116]⟩ : ByteArray), (⟨#[115, 116, 101, 112]⟩ : ByteArray), (⟨#[115, 121, 115, 99, 97, 108, 108]⟩ : ByteArray), (⟨#[103, 101, 116, 114, 101, 103, 115]⟩ : ByteArray), (⟨#[115, 101, 116, 114, 101, 103, 115]⟩ : ByteArray), (⟨#[97, 116, 116, 97, 99, 104]⟩ : ByteArray), (⟨#[100, 101, 116, 97, 99, 104]⟩ : ByteArray), (⟨#[113, 117, 105, 116]⟩ : ByteArray)] (Int.toNat a0) ByteArray.empty)
      else none
def calls_Ask.R (r : ByteArray) : Tm := .v (.one (.sc (.string r)))
theorem calls_Ask.fun_ {a0 : Int} {r : ByteArray} (h : calls_Ask.f a0 = some r) : Fun cfg 11 [.one (.sc (.int .i64 a0))] [] (calls_Ask.R r) [] := by
  unfold calls_Ask.f at h
  refine fun_of_run cfg_ok (f := 11) (fn := Tryd.f11) Tryd.func11 rfl (by kernel_rfl) (rs := [.tmp 2]) rfl (nt := 12) rfl (l := fin) (k := (.br (.one true (.one true (.one true (.adj [] (.adj [] (.adj [] .nil)))))) (.one false (.one false (.br (.adj [] (.adj [] (.adj [] .nil))) (.adj [] (.adj [] (.adj [] (.adj [] .nil))))))))) (to_goal (q := (True) ∧ (((decide (a0 < (0 : Int))) = false → ((decide (a0 < (0 : Int))) = false ∧ (True) ∧ ((decide (a0 < (0 : Int))) = false ∧ (((decide (a0 ≥ (13 : Int))) = true → (True ∧ (True ∧ ((True) ∧ (True) ∧ (.v (.one (.sc (.string ByteArray.empty))) : Tm) = calls_Ask.R r ∧ ([] : List Box) = [])))) ∧ ((decide (a0 ≥ (13 : Int))) = false → (True ∧ (True ∧ (0 ≤ a0 ∧ a0 < ((13 : Nat) : Int)) ∧ (True ∧ ((True) ∧ (True) ∧ (.v (.one (.sc (.string (List.getD [(⟨#[116, 114, 97, 99, 101, 109, 101]⟩ : ByteArray), (⟨#[112, 101, 101, 107]⟩ : ByteArray), (⟨#[112, 101, 101, 107, 117, 115, 101, 114]⟩ : ByteArray), (⟨#[112, 111, 107, 101]⟩ : ByteArray), (⟨#[112, 111, 107, 101, 117, 115, 101, 114]⟩ : ByteArray), (⟨#[99, 111, 110, 116]⟩ : ByteArray), (⟨#[115, 116, 101, 112]⟩ : ByteArray), (⟨#[115, 121, 115, 99, 97, 108, 108]⟩ : ByteArray), (⟨#[103, 101, 116, 114, 101, 103, 115]⟩ : ByteArray), (⟨#[115, 101, 116, 114, 101, 103, 115]⟩ : ByteArray), (⟨#[97, 116, 116, 97, 99, 104]⟩ : ByteArray), (⟨#[100, 101, 116, 97, 99, 104]⟩ : ByteArray), (⟨#[113, 117, 105, 116]⟩ : ByteArray)] (Int.toNat a0) ByteArray.empty)))) : Tm) = calls_Ask.R r ∧ ([] : List Box) = []))))))))) ∧ ((decide (a0 < (0 : Int))) = true → ((decide (a0 < (0 : Int))) = true ∧ ((decide (a0 < (0 : Int))) = true ∧ (true = true ∧ (True ∧ (True ∧ ((True) ∧ (True) ∧ (.v (.one (.sc (.string ByteArray.empty))) : Tm) = calls_Ask.R r ∧ ([] : List Box) = []))))))))) (by kernel_rfl) ?_)
  refine ⟨trivial, ?_⟩
  refine ⟨fun b1 => ?_, fun b1 => ?_⟩
  · rw [if_neg (of_decide_eq_false b1)] at h
    refine ⟨b1, ?_⟩
    refine ⟨trivial, ?_⟩
    refine ⟨b1, ?_⟩
    refine ⟨fun b2 => ?_, fun b2 => ?_⟩
    · rw [if_pos (of_decide_eq_true b2)] at h
      refine ⟨trivial, ?_⟩
      refine ⟨trivial, ?_⟩
      obtain rfl := Option.some.inj h
      exact ⟨trivial, trivial, rfl, rfl⟩
    · rw [if_neg (of_decide_eq_false b2)] at h
      refine ⟨trivial, ?_⟩
      refine ⟨trivial, ?_⟩
      obtain ⟨g3, h⟩ := of_guard h
      refine ⟨g3, ?_⟩
      refine ⟨trivial, ?_⟩
      obtain rfl := Option.some.inj h
      exact ⟨trivial, trivial, rfl, rfl⟩
  · rw [if_pos (of_decide_eq_true b1)] at h
    refine ⟨b1, ?_⟩
    refine ⟨b1, ?_⟩
    refine ⟨rfl, ?_⟩
    refine ⟨trivial, ?_⟩
    refine ⟨trivial, ?_⟩
    obtain rfl := Option.some.inj h
    exact ⟨trivial, trivial, rfl, rfl⟩
/-! halter/halterlaw28.sure -/
def halterlaw28_sure.f : Option Bool :=
  (calls_Find.f (⟨#[112, 116, 114, 97, 99, 101]⟩ : ByteArray)).bind fun t1 =>
  if t1.2 = none then
    if t1.1 = (24 : Int) then
      (calls_Name.f t1.1).bind fun t4 =>
      if t4 = (⟨#[112, 116, 114, 97, 99, 101]⟩ : ByteArray) then
        (calls_Args.f t1.1).bind fun t6 =>
        if t6 = (4 : Int) then
          (calls_Ask.f (12 : Int)).bind fun t8 =>
          if t8 = (⟨#[113, 117, 105, 116]⟩ : ByteArray) then
            (calls_Result.f (5 : Int) none).bind fun t10 =>
            if t10 = (5 : Int) then
              (calls_Result.f (0 : Int) (some (2 : Int))).bind fun t12 =>
              if t12 = (4294967294 : Int) then
                (calls_Failed.f (4294967294 : Int)).bind fun t14 =>
                some (t14 == (2 : Int))
              else
                some false
            else
              some false
          else
            some false
        else
          some false
      else
        some false
    else
      some false
  else
    some false
def halterlaw28_sure.R (r : Bool) : Tm := .v (.one (.sc (.bool r)))
theorem halterlaw28_sure.fun_ {r : Bool} (h : halterlaw28_sure.f = some r) : Fun cfg 12 [] [] (halterlaw28_sure.R r) [] := by
  unfold halterlaw28_sure.f at h
  refine fun_of_run cfg_ok (f := 12) (fn := Tryd.f12) Tryd.func12 rfl (by kernel_rfl) (rs := [.tmp 0]) rfl (nt := 40) rfl (l := fin) (k := (.call true [] (Int × (Option Int)) (fun t1 => calls_Find.R t1) (fun t1 => (.br (.one true (.one true (.br (.one true (.call true [] (ByteArray) (fun t4 => calls_Name.R t4) (fun t4 => (.one true (.one true (.br (.one true (.call true [] (Int) (fun t6 => calls_Args.R t6) (fun t6 => (.one true (.one true (.br (.call true [] (ByteArray) (fun t8 => calls_Ask.R t8) (fun t8 => (.one true (.one true (.br (.call true [] (Int) (fun t10 => calls_Result.R t10) (fun t10 => (.one true (.one true (.br (.one true (.call true [] (Int) (fun t12 => calls_Result.R t12) (fun t12 => (.one true (.one true (.br (.call true [] (Int) (fun t14 => calls_Failed.R t14) (fun t14 => (.one true (.one true (.adj [] (.adj [] .nil)))))) (.one false (.one false (.adj [] (.adj [] .nil)))))))))) (.one false (.one false (.one false (.one false (.one false (.one false (.adj [] (.adj [] .nil))))))))))))) (.one false (.one false (.one false (.one false (.one false (.one false (.one false (.one false (.one false (.adj [] (.adj [] .nil)))))))))))))))) (.one false (.one false (.one false (.one false (.one false (.one false (.one false (.one false (.one false (.one false (.one false (.one false (.adj [] (.adj [] .nil)))))))))))))))))))) (.one false (.one false (.one false (.one false (.one false (.one false (.one false (.one false (.one false (.one false (.one false (.one false (.one false (.one false (.one false (.one false (.adj [] (.adj [] .nil)))))))))))))))))))))))) (.one false (.one false (.one false (.one false (.one false (.one false (.one false (.one false (.one false (.one false (.one false (.one false (.one false (.one false (.one false (.one false (.one false (.one false (.one false (.one false (.adj [] (.adj [] .nil))))))))))))))))))))))))) (.one false (.one false (.one false (.one false (.one false (.one false (.one false (.one false (.one false (.one false (.one false (.one false (.one false (.one false (.one false (.one false (.one false (.one false (.one false (.one false (.one false (.one false (.one false (.adj [] (.adj [] .nil))))))))))))))))))))))))))))) (to_goal (q := (∃ t1 : Int × (Option Int), (Fun cfg 7 [.one (.sc (.string (⟨#[112, 116, 114, 97, 99, 101]⟩ : ByteArray)))] [] (calls_Find.R t1) [] ∧ True) ∧ (True) ∧ (((Option.isNone t1.2) = true → ((Option.isNone t1.2) = true ∧ (True) ∧ ((Option.isNone t1.2) = true ∧ (((t1.1 == (24 : Int)) = true → ((t1.1 == (24 : Int)) = true ∧ (∃ t4 : ByteArray, (Fun cfg 9 [.one (.sc (.int .i64 t1.1))] [] (calls_Name.R t4) [] ∧ True) ∧ ((t1.1 == (24 : Int)) = true ∧ (True) ∧ ((t1.1 == (24 : Int)) = true ∧ (((t4.toList == (⟨#[112, 116, 114, 97, 99, 101]⟩ : ByteArray).toList) = true → ((t4.toList == (⟨#[112, 116, 114, 97, 99, 101]⟩ : ByteArray).toList) = true ∧ (∃ t6 : Int, (Fun cfg 10 [.one (.sc (.int .i64 t1.1))] [] (calls_Args.R t6) [] ∧ True) ∧ ((t4.toList == (⟨#[112, 116, 114, 97, 99, 101]⟩ : ByteArray).toList) = true ∧ (True) ∧ ((t4.toList == (⟨#[112, 116, 114, 97, 99, 101]⟩ : ByteArray).toList) = true ∧ (((t6 == (4 : Int)) = true → (∃ t8 : ByteArray, (Fun cfg 11 [.one (.sc (.int .i64 (12 : Int)))] [] (calls_Ask.R t8) [] ∧ True) ∧ ((t6 == (4 : Int)) = true ∧ (True) ∧ ((t6 == (4 : Int)) = true ∧ (((t8.toList == (⟨#[113, 117, 105, 116]⟩ : ByteArray).toList) = true → (∃ t10 : Int, (Fun cfg 15 [.one (.sc (.int .u32 (5 : Int))), .one (.err none)] [] (calls_Result.R t10) [] ∧ True) ∧ ((t8.toList == (⟨#[113, 117, 105, 116]⟩ : ByteArray).toList) = true ∧ (True) ∧ ((t8.toList == (⟨#[113, 117, 105, 116]⟩ : ByteArray).toList) = true ∧ (((t10 == (5 : Int)) = true → ((t10 == (5 : Int)) = true ∧ (∃ t12 : Int, (Fun cfg 15 [.one (.sc (.int .u32 (0 : Int))), .one (.err (some (2 : Int)))] [] (calls_Result.R t12) [] ∧ True) ∧ ((t10 == (5 : Int)) = true ∧ (True) ∧ ((t10 == (5 : Int)) = true ∧ (((t12 == (4294967294 : Int)) = true → (∃ t14 : Int, (Fun cfg 13 [.one (.sc (.int .u32 (4294967294 : Int)))] [] (calls_Failed.R t14) [] ∧ True) ∧ ((t12 == (4294967294 : Int)) = true ∧ (True) ∧ ((t12 == (4294967294 : Int)) = true ∧ (True ∧ ((True) ∧ (True) ∧ (.v (.one (.sc (.bool (t14 == (2 : Int))))) : Tm) = halterlaw28_sure.R r ∧ ([] : List Box) = [])))))) ∧ ((t12 == (4294967294 : Int)) = false → ((t12 == (4294967294 : Int)) = false ∧ ((t12 == (4294967294 : Int)) = false ∧ (True ∧ ((True) ∧ (True) ∧ (.v (.one (.sc (.bool false))) : Tm) = halterlaw28_sure.R r ∧ ([] : List Box) = []))))))))))) ∧ ((t10 == (5 : Int)) = false → ((t10 == (5 : Int)) = false ∧ ((t10 == (5 : Int)) = false ∧ ((t10 == (5 : Int)) = false ∧ (false = false ∧ (false = false ∧ (false = false ∧ (True ∧ ((True) ∧ (True) ∧ (.v (.one (.sc (.bool false))) : Tm) = halterlaw28_sure.R r ∧ ([] : List Box) = [])))))))))))))) ∧ ((t8.toList == (⟨#[113, 117, 105, 116]⟩ : ByteArray).toList) = false → ((t8.toList == (⟨#[113, 117, 105, 116]⟩ : ByteArray).toList) = false ∧ ((t8.toList == (⟨#[113, 117, 105, 116]⟩ : ByteArray).toList) = false ∧ (false = false ∧ (false = false ∧ (false = false ∧ (false = false ∧ (false = false ∧ (false = false ∧ (false = false ∧ (True ∧ ((True) ∧ (True) ∧ (.v (.one (.sc (.bool false))) : Tm) = halterlaw28_sure.R r ∧ ([] : List Box) = []))))))))))))))))) ∧ ((t6 == (4 : Int)) = false → ((t6 == (4 : Int)) = false ∧ ((t6 == (4 : Int)) = false ∧ (false = false ∧ (false = false ∧ (false = false ∧ (false = false ∧ (false = false ∧ (false = false ∧ (false = false ∧ (false = false ∧ (false = false ∧ (false = false ∧ (True ∧ ((True) ∧ (True) ∧ (.v (.one (.sc (.bool false))) : Tm) = halterlaw28_sure.R r ∧ ([] : List Box) = []))))))))))))))))))))) ∧ ((t4.toList == (⟨#[112, 116, 114, 97, 99, 101]⟩ : ByteArray).toList) = false → ((t4.toList == (⟨#[112, 116, 114, 97, 99, 101]⟩ : ByteArray).toList) = false ∧ ((t4.toList == (⟨#[112, 116, 114, 97, 99, 101]⟩ : ByteArray).toList) = false ∧ ((t4.toList == (⟨#[112, 116, 114, 97, 99, 101]⟩ : ByteArray).toList) = false ∧ (false = false ∧ (false = false ∧ (false = false ∧ (false = false ∧ (false = false ∧ (false = false ∧ (false = false ∧ (false = false ∧ (false = false ∧ (false = false ∧ (false = false ∧ (false = false ∧ (false = false ∧ (True ∧ ((True) ∧ (True) ∧ (.v (.one (.sc (.bool false))) : Tm) = halterlaw28_sure.R r ∧ ([] : List Box) = []))))))))))))))))))))))))) ∧ ((t1.1 == (24 : Int)) = false → ((t1.1 == (24 : Int)) = false ∧ ((t1.1 == (24 : Int)) = false ∧ ((t1.1 == (24 : Int)) = false ∧ (false = false ∧ (false = false ∧ (false = false ∧ (false = false ∧ (false = false ∧ (false = false ∧ (false = false ∧ (false = false ∧ (false = false ∧ (false = false ∧ (false = false ∧ (false = false ∧ (false = false ∧ (false = false ∧ (false = false ∧ (false = false ∧ (false = false ∧ (True ∧ ((True) ∧ (True) ∧ (.v (.one (.sc (.bool false))) : Tm) = halterlaw28_sure.R r ∧ ([] : List Box) = []))))))))))))))))))))))))))) ∧ ((Option.isNone t1.2) = false → ((Option.isNone t1.2) = false ∧ ((Option.isNone t1.2) = false ∧ (false = false ∧ (false = false ∧ (false = false ∧ (false = false ∧ (false = false ∧ (false = false ∧ (false = false ∧ (false = false ∧ (false = false ∧ (false = false ∧ (false = false ∧ (false = false ∧ (false = false ∧ (false = false ∧ (false = false ∧ (false = false ∧ (false = false ∧ (false = false ∧ (false = false ∧ (false = false ∧ (false = false ∧ (True ∧ ((True) ∧ (True) ∧ (.v (.one (.sc (.bool false))) : Tm) = halterlaw28_sure.R r ∧ ([] : List Box) = []))))))))))))))))))))))))))))) (by kernel_rfl) ?_)
  obtain ⟨t1, ht1, h⟩ := of_bind h
  refine ⟨t1, ⟨calls_Find.fun_ ht1, trivial⟩, ?_⟩
  refine ⟨trivial, ?_⟩
  refine ⟨fun b2 => ?_, fun b2 => ?_⟩
  · rw [if_pos (none_t b2)] at h
    refine ⟨b2, ?_⟩
    refine ⟨trivial, ?_⟩
    refine ⟨b2, ?_⟩
    refine ⟨fun b3 => ?_, fun b3 => ?_⟩
    · rw [if_pos (beq_t b3)] at h
      refine ⟨b3, ?_⟩
      obtain ⟨t4, ht4, h⟩ := of_bind h
      refine ⟨t4, ⟨calls_Name.fun_ ht4, trivial⟩, ?_⟩
      refine ⟨b3, ?_⟩
      refine ⟨trivial, ?_⟩
      refine ⟨b3, ?_⟩
      refine ⟨fun b5 => ?_, fun b5 => ?_⟩
      · rw [if_pos (str_t b5)] at h
        refine ⟨b5, ?_⟩
        obtain ⟨t6, ht6, h⟩ := of_bind h
        refine ⟨t6, ⟨calls_Args.fun_ ht6, trivial⟩, ?_⟩
        refine ⟨b5, ?_⟩
        refine ⟨trivial, ?_⟩
        refine ⟨b5, ?_⟩
        refine ⟨fun b7 => ?_, fun b7 => ?_⟩
        · rw [if_pos (beq_t b7)] at h
          obtain ⟨t8, ht8, h⟩ := of_bind h
          refine ⟨t8, ⟨calls_Ask.fun_ ht8, trivial⟩, ?_⟩
          refine ⟨b7, ?_⟩
          refine ⟨trivial, ?_⟩
          refine ⟨b7, ?_⟩
          refine ⟨fun b9 => ?_, fun b9 => ?_⟩
          · rw [if_pos (str_t b9)] at h
            obtain ⟨t10, ht10, h⟩ := of_bind h
            refine ⟨t10, ⟨calls_Result.fun_ ht10, trivial⟩, ?_⟩
            refine ⟨b9, ?_⟩
            refine ⟨trivial, ?_⟩
            refine ⟨b9, ?_⟩
            refine ⟨fun b11 => ?_, fun b11 => ?_⟩
            · rw [if_pos (beq_t b11)] at h
              refine ⟨b11, ?_⟩
              obtain ⟨t12, ht12, h⟩ := of_bind h
              refine ⟨t12, ⟨calls_Result.fun_ ht12, trivial⟩, ?_⟩
              refine ⟨b11, ?_⟩
              refine ⟨trivial, ?_⟩
              refine ⟨b11, ?_⟩
              refine ⟨fun b13 => ?_, fun b13 => ?_⟩
              · rw [if_pos (beq_t b13)] at h
                obtain ⟨t14, ht14, h⟩ := of_bind h
                refine ⟨t14, ⟨calls_Failed.fun_ ht14, trivial⟩, ?_⟩
                refine ⟨b13, ?_⟩
                refine ⟨trivial, ?_⟩
                refine ⟨b13, ?_⟩
                refine ⟨trivial, ?_⟩
                obtain rfl := Option.some.inj h
                exact ⟨trivial, trivial, rfl, rfl⟩
              · rw [if_neg (beq_f b13)] at h
                refine ⟨b13, ?_⟩
                refine ⟨b13, ?_⟩
                refine ⟨trivial, ?_⟩
                obtain rfl := Option.some.inj h
                exact ⟨trivial, trivial, rfl, rfl⟩
            · rw [if_neg (beq_f b11)] at h
              refine ⟨b11, ?_⟩
              refine ⟨b11, ?_⟩
              refine ⟨b11, ?_⟩
              refine ⟨rfl, ?_⟩
              refine ⟨rfl, ?_⟩
              refine ⟨rfl, ?_⟩
              refine ⟨trivial, ?_⟩
              obtain rfl := Option.some.inj h
              exact ⟨trivial, trivial, rfl, rfl⟩
          · rw [if_neg (str_f b9)] at h
            refine ⟨b9, ?_⟩
            refine ⟨b9, ?_⟩
            refine ⟨rfl, ?_⟩
            refine ⟨rfl, ?_⟩
            refine ⟨rfl, ?_⟩
            refine ⟨rfl, ?_⟩
            refine ⟨rfl, ?_⟩
            refine ⟨rfl, ?_⟩
            refine ⟨rfl, ?_⟩
            refine ⟨trivial, ?_⟩
            obtain rfl := Option.some.inj h
            exact ⟨trivial, trivial, rfl, rfl⟩
        · rw [if_neg (beq_f b7)] at h
          refine ⟨b7, ?_⟩
          refine ⟨b7, ?_⟩
          refine ⟨rfl, ?_⟩
          refine ⟨rfl, ?_⟩
          refine ⟨rfl, ?_⟩
          refine ⟨rfl, ?_⟩
          refine ⟨rfl, ?_⟩
          refine ⟨rfl, ?_⟩
          refine ⟨rfl, ?_⟩
          refine ⟨rfl, ?_⟩
          refine ⟨rfl, ?_⟩
          refine ⟨rfl, ?_⟩
          refine ⟨trivial, ?_⟩
          obtain rfl := Option.some.inj h
          exact ⟨trivial, trivial, rfl, rfl⟩
      · rw [if_neg (str_f b5)] at h
        refine ⟨b5, ?_⟩
        refine ⟨b5, ?_⟩
        refine ⟨b5, ?_⟩
        refine ⟨rfl, ?_⟩
        refine ⟨rfl, ?_⟩
        refine ⟨rfl, ?_⟩
        refine ⟨rfl, ?_⟩
        refine ⟨rfl, ?_⟩
        refine ⟨rfl, ?_⟩
        refine ⟨rfl, ?_⟩
        refine ⟨rfl, ?_⟩
        refine ⟨rfl, ?_⟩
        refine ⟨rfl, ?_⟩
        refine ⟨rfl, ?_⟩
        refine ⟨rfl, ?_⟩
        refine ⟨rfl, ?_⟩
        refine ⟨trivial, ?_⟩
        obtain rfl := Option.some.inj h
        exact ⟨trivial, trivial, rfl, rfl⟩
    · rw [if_neg (beq_f b3)] at h
      refine ⟨b3, ?_⟩
      refine ⟨b3, ?_⟩
      refine ⟨b3, ?_⟩
      refine ⟨rfl, ?_⟩
      refine ⟨rfl, ?_⟩
      refine ⟨rfl, ?_⟩
      refine ⟨rfl, ?_⟩
      refine ⟨rfl, ?_⟩
      refine ⟨rfl, ?_⟩
      refine ⟨rfl, ?_⟩
      refine ⟨rfl, ?_⟩
      refine ⟨rfl, ?_⟩
      refine ⟨rfl, ?_⟩
      refine ⟨rfl, ?_⟩
      refine ⟨rfl, ?_⟩
      refine ⟨rfl, ?_⟩
      refine ⟨rfl, ?_⟩
      refine ⟨rfl, ?_⟩
      refine ⟨rfl, ?_⟩
      refine ⟨rfl, ?_⟩
      refine ⟨trivial, ?_⟩
      obtain rfl := Option.some.inj h
      exact ⟨trivial, trivial, rfl, rfl⟩
  · rw [if_neg (none_f b2)] at h
    refine ⟨b2, ?_⟩
    refine ⟨b2, ?_⟩
    refine ⟨rfl, ?_⟩
    refine ⟨rfl, ?_⟩
    refine ⟨rfl, ?_⟩
    refine ⟨rfl, ?_⟩
    refine ⟨rfl, ?_⟩
    refine ⟨rfl, ?_⟩
    refine ⟨rfl, ?_⟩
    refine ⟨rfl, ?_⟩
    refine ⟨rfl, ?_⟩
    refine ⟨rfl, ?_⟩
    refine ⟨rfl, ?_⟩
    refine ⟨rfl, ?_⟩
    refine ⟨rfl, ?_⟩
    refine ⟨rfl, ?_⟩
    refine ⟨rfl, ?_⟩
    refine ⟨rfl, ?_⟩
    refine ⟨rfl, ?_⟩
    refine ⟨rfl, ?_⟩
    refine ⟨rfl, ?_⟩
    refine ⟨rfl, ?_⟩
    refine ⟨rfl, ?_⟩
    refine ⟨trivial, ?_⟩
    obtain rfl := Option.some.inj h
    exact ⟨trivial, trivial, rfl, rfl⟩
/-! halter/halterlaw28.CallsErrors -/
def halterlaw28_CallsErrors.f (a0 : Int) (a1 : Int) (a2 : Int) : Option Bool :=
  (calls_Failed.f a0).bind fun t1 =>
  (halterref28_Failed.f a0).bind fun t2 =>
  if ¬ t1 = t2 then
    some false
  else
    (calls_Result.f a0 (some (IntKind.wrap .i64 ((1 : Int) + (IntKind.wrap .i64 ((Int.tmod (IntKind.wrap .u64 (a1)) (337 : Int)))))))).bind fun t4 =>
    (calls_Failed.f t4).bind fun t5 =>
    if ¬ t5 = (IntKind.wrap .i64 ((1 : Int) + (IntKind.wrap .i64 ((Int.tmod (IntKind.wrap .u64 (a1)) (337 : Int)))))) then
      some false
    else
      (calls_Result.f (Int.tmod a0 (2147483648 : Int)) none).bind fun t7 =>
      (calls_Failed.f t7).bind fun t8 =>
      if ¬ t8 = (0 : Int) then
        some false
      else
        (calls_Result.f a0 none).bind fun t10 =>
        if ¬ t10 = a0 then
          some false
        else
          (errors_New.f (⟨#[111, 116, 104, 101, 114]⟩ : ByteArray)).bind fun t12 =>
          (calls_Result_oe.f a0).bind fun t13 =>
          if ¬ t13 = (4294967291 : Int) then
            some false
          else
            (calls_Name.f (IntKind.wrap .i64 ((1 : Int) + (IntKind.wrap .i64 ((Int.tmod (IntKind.wrap .u64 (a2)) (29 : Int))))))).bind fun t15 =>
            (calls_Find.f t15).bind fun t16 =>
            if t16.2 = none then
              if t16.1 = (IntKind.wrap .i64 ((1 : Int) + (IntKind.wrap .i64 ((Int.tmod (IntKind.wrap .u64 (a2)) (29 : Int)))))) then
                halterlaw28_sure.f.bind fun t19 =>
                some t19
              else
                some false
            else
              some false
def halterlaw28_CallsErrors.R (r : Bool) : Tm := .v (.one (.sc (.bool r)))
theorem halterlaw28_CallsErrors.fun_ {a0 : Int} {a1 : Int} {a2 : Int} {r : Bool} (h : halterlaw28_CallsErrors.f a0 a1 a2 = some r) : Fun cfg 4 [.one (.sc (.int .u32 a0)), .one (.sc (.int .i64 a1)), .one (.sc (.int .i64 a2))] [] (halterlaw28_CallsErrors.R r) [] := by
  unfold halterlaw28_CallsErrors.f at h
  refine fun_of_run cfg_ok (f := 4) (fn := Tryd.f4) Tryd.func4 rfl (by kernel_rfl) (rs := [.tmp 6]) rfl (nt := 70) rfl (l := fin) (k := (.call true [] (Int) (fun t1 => calls_Failed.R t1) (fun t1 => (.call true [] (Int) (fun t2 => halterref28_Failed.R t2) (fun t2 => (.br (.one true (.one true (.one true (.one true (.one true (.one true (.one true (.one true (.one true (.one true (.one true (.one true (.one true (.one true (.one true (.one true (.one true (.one true (.one true (.one true (.one true (.one true (.one true (.one true (.adj [] (.adj [] (.adj [] .nil))))))))))))))))))))))))))) (.one false (.one false (.one false (.call true [] (Int) (fun t4 => calls_Result.R t4) (fun t4 => (.one false (.call true [] (Int) (fun t5 => calls_Failed.R t5) (fun t5 => (.one false (.one false (.one false (.br (.one true (.one true (.one true (.one true (.one true (.one true (.one true (.one true (.one true (.one true (.one true (.one true (.one true (.one true (.one true (.one true (.adj [] (.adj [] (.adj [] .nil))))))))))))))))))) (.one false (.one false (.call true [] (Int) (fun t7 => calls_Result.R t7) (fun t7 => (.one false (.call true [] (Int) (fun t8 => calls_Failed.R t8) (fun t8 => (.one false (.one false (.br (.one true (.one true (.one true (.one true (.one true (.one true (.one true (.one true (.one true (.one true (.adj [] (.adj [] (.adj [] .nil))))))))))))) (.one false (.call true [] (Int) (fun t10 => calls_Result.R t10) (fun t10 => (.one false (.one false (.one false (.br (.one true (.one true (.one true (.one true (.one true (.adj [] (.adj [] (.adj [] .nil)))))))) (.one false (.callR true [] [] (Unit) (fun t12 => (errors_New.R t12)) (fun t12 => (errors_New.B (⟨#[111, 116, 104, 101, 114]⟩ : ByteArray) t12)) (fun t12 => (.one false (.callR true [] [] (Int) (fun t13 => (calls_Result_oe.R t13)) (fun t13 => (calls_Result_oe.B a0 t13)) (fun t13 => (.one false (.one false (.br (.adj [] (.adj [] (.adj [] .nil))) (.call true [] (ByteArray) (fun t15 => calls_Name.R t15) (fun t15 => (.call true [] (Int × (Option Int)) (fun t16 => calls_Find.R t16) (fun t16 => (.br (.one true (.one true (.one true (.br (.call true [] (Bool) (fun t19 => halterlaw28_sure.R t19) (fun t19 => (.one true (.adj [] (.adj [] .nil))))) (.one false (.adj [] (.adj [] .nil))))))) (.one false (.one false (.one false (.one false (.one false (.adj [] (.adj [] .nil)))))))))))))))))))))))))))))))))))))))))))))))))))))))) (to_goal (q := (True) ∧ ((337 : Int) ≠ 0) ∧ (True) ∧ (True) ∧ (∃ t1 : Int, (Fun cfg 13 [.one (.sc (.int .u32 a0))] [] (calls_Failed.R t1) [] ∧ True) ∧ (∃ t2 : Int, (Fun cfg 14 [.one (.sc (.int .u32 a0))] [] (halterref28_Failed.R t2) [] ∧ True) ∧ (True) ∧ (((t1 != t2) = false → ((t1 != t2) = false ∧ ((t1 != t2) = false ∧ ((t1 != t2) = false ∧ (∃ t4 : Int, (Fun cfg 15 [.one (.sc (.int .u32 a0)), .one (.err (some (IntKind.wrap .i64 ((1 : Int) + (IntKind.wrap .i64 ((Int.tmod (IntKind.wrap .u64 (a1)) (337 : Int))))))))] [] (calls_Result.R t4) [] ∧ True) ∧ ((t1 != t2) = false ∧ (∃ t5 : Int, (Fun cfg 13 [.one (.sc (.int .u32 t4))] [] (calls_Failed.R t5) [] ∧ True) ∧ ((t1 != t2) = false ∧ ((t1 != t2) = false ∧ (True) ∧ ((t1 != t2) = false ∧ (((t5 != (IntKind.wrap .i64 ((1 : Int) + (IntKind.wrap .i64 ((Int.tmod (IntKind.wrap .u64 (a1)) (337 : Int))))))) = false → ((t5 != (IntKind.wrap .i64 ((1 : Int) + (IntKind.wrap .i64 ((Int.tmod (IntKind.wrap .u64 (a1)) (337 : Int))))))) = false ∧ ((2147483648 : Int) ≠ 0) ∧ ((t5 != (IntKind.wrap .i64 ((1 : Int) + (IntKind.wrap .i64 ((Int.tmod (IntKind.wrap .u64 (a1)) (337 : Int))))))) = false ∧ (∃ t7 : Int, (Fun cfg 15 [.one (.sc (.int .u32 (Int.tmod a0 (2147483648 : Int)))), .one (.err none)] [] (calls_Result.R t7) [] ∧ True) ∧ ((t5 != (IntKind.wrap .i64 ((1 : Int) + (IntKind.wrap .i64 ((Int.tmod (IntKind.wrap .u64 (a1)) (337 : Int))))))) = false ∧ (∃ t8 : Int, (Fun cfg 13 [.one (.sc (.int .u32 t7))] [] (calls_Failed.R t8) [] ∧ True) ∧ ((t5 != (IntKind.wrap .i64 ((1 : Int) + (IntKind.wrap .i64 ((Int.tmod (IntKind.wrap .u64 (a1)) (337 : Int))))))) = false ∧ (True) ∧ ((t5 != (IntKind.wrap .i64 ((1 : Int) + (IntKind.wrap .i64 ((Int.tmod (IntKind.wrap .u64 (a1)) (337 : Int))))))) = false ∧ (((t8 != (0 : Int)) = false → ((t8 != (0 : Int)) = false ∧ (∃ t10 : Int, (Fun cfg 15 [.one (.sc (.int .u32 a0)), .one (.err none)] [] (calls_Result.R t10) [] ∧ True) ∧ ((t8 != (0 : Int)) = false ∧ ((t8 != (0 : Int)) = false ∧ (True) ∧ ((t8 != (0 : Int)) = false ∧ (((t10 != a0) = false → ((t10 != a0) = false ∧ (∃ t12 : Unit, (Fun cfg 16 [.one (.sc (.string (⟨#[111, 116, 104, 101, 114]⟩ : ByteArray)))] [] (errors_New.R t12) (errors_New.B (⟨#[111, 116, 104, 101, 114]⟩ : ByteArray) t12) ∧ True) ∧ ((t10 != a0) = false ∧ (∃ t13 : Int, (Fun cfg 15 [.one (.sc (.int .u32 a0)), .one (.oerr 50)] [] (calls_Result_oe.R t13) (calls_Result_oe.B a0 t13) ∧ True) ∧ ((t10 != a0) = false ∧ (True) ∧ ((t10 != a0) = false ∧ (((t13 != (4294967291 : Int)) = true → (True ∧ (True ∧ ((True) ∧ (True) ∧ (.v (.one (.sc (.bool false))) : Tm) = halterlaw28_CallsErrors.R r ∧ ([] : List Box) = [])))) ∧ ((t13 != (4294967291 : Int)) = false → (True) ∧ ((29 : Int) ≠ 0) ∧ (True) ∧ (True) ∧ (∃ t15 : ByteArray, (Fun cfg 9 [.one (.sc (.int .i64 (IntKind.wrap .i64 ((1 : Int) + (IntKind.wrap .i64 ((Int.tmod (IntKind.wrap .u64 (a2)) (29 : Int))))))))] [] (calls_Name.R t15) [] ∧ True) ∧ (∃ t16 : Int × (Option Int), (Fun cfg 7 [.one (.sc (.string t15))] [] (calls_Find.R t16) [] ∧ True) ∧ (True) ∧ (((Option.isNone t16.2) = true → ((Option.isNone t16.2) = true ∧ ((Option.isNone t16.2) = true ∧ (True) ∧ ((Option.isNone t16.2) = true ∧ (((t16.1 == (IntKind.wrap .i64 ((1 : Int) + (IntKind.wrap .i64 ((Int.tmod (IntKind.wrap .u64 (a2)) (29 : Int))))))) = true → (∃ t19 : Bool, (Fun cfg 12 [] [] (halterlaw28_sure.R t19) [] ∧ True) ∧ ((t16.1 == (IntKind.wrap .i64 ((1 : Int) + (IntKind.wrap .i64 ((Int.tmod (IntKind.wrap .u64 (a2)) (29 : Int))))))) = true ∧ (True ∧ ((True) ∧ (True) ∧ (.v (.one (.sc (.bool t19))) : Tm) = halterlaw28_CallsErrors.R r ∧ ([] : List Box) = []))))) ∧ ((t16.1 == (IntKind.wrap .i64 ((1 : Int) + (IntKind.wrap .i64 ((Int.tmod (IntKind.wrap .u64 (a2)) (29 : Int))))))) = false → ((t16.1 == (IntKind.wrap .i64 ((1 : Int) + (IntKind.wrap .i64 ((Int.tmod (IntKind.wrap .u64 (a2)) (29 : Int))))))) = false ∧ (True ∧ ((True) ∧ (True) ∧ (.v (.one (.sc (.bool false))) : Tm) = halterlaw28_CallsErrors.R r ∧ ([] : List Box) = []))))))))) ∧ ((Option.isNone t16.2) = false → ((Option.isNone t16.2) = false ∧ ((Option.isNone t16.2) = false ∧ ((Option.isNone t16.2) = false ∧ (false = false ∧ (false = false ∧ (True ∧ ((True) ∧ (True) ∧ (.v (.one (.sc (.bool false))) : Tm) = halterlaw28_CallsErrors.R r ∧ ([] : List Box) = [])))))))))))))))))))) ∧ ((t10 != a0) = true → ((t10 != a0) = true ∧ ((t10 != a0) = true ∧ ((t10 != a0) = true ∧ ((t10 != a0) = true ∧ (true = true ∧ (True ∧ (True ∧ ((True) ∧ (True) ∧ (.v (.one (.sc (.bool false))) : Tm) = halterlaw28_CallsErrors.R r ∧ ([] : List Box) = [])))))))))))))))) ∧ ((t8 != (0 : Int)) = true → ((t8 != (0 : Int)) = true ∧ ((t8 != (0 : Int)) = true ∧ ((t8 != (0 : Int)) = true ∧ ((t8 != (0 : Int)) = true ∧ (true = true ∧ (true = true ∧ (true = true ∧ (true = true ∧ (true = true ∧ (true = true ∧ (True ∧ (True ∧ ((True) ∧ (True) ∧ (.v (.one (.sc (.bool false))) : Tm) = halterlaw28_CallsErrors.R r ∧ ([] : List Box) = []))))))))))))))))))))))) ∧ ((t5 != (IntKind.wrap .i64 ((1 : Int) + (IntKind.wrap .i64 ((Int.tmod (IntKind.wrap .u64 (a1)) (337 : Int))))))) = true → ((t5 != (IntKind.wrap .i64 ((1 : Int) + (IntKind.wrap .i64 ((Int.tmod (IntKind.wrap .u64 (a1)) (337 : Int))))))) = true ∧ ((t5 != (IntKind.wrap .i64 ((1 : Int) + (IntKind.wrap .i64 ((Int.tmod (IntKind.wrap .u64 (a1)) (337 : Int))))))) = true ∧ ((t5 != (IntKind.wrap .i64 ((1 : Int) + (IntKind.wrap .i64 ((Int.tmod (IntKind.wrap .u64 (a1)) (337 : Int))))))) = true ∧ ((t5 != (IntKind.wrap .i64 ((1 : Int) + (IntKind.wrap .i64 ((Int.tmod (IntKind.wrap .u64 (a1)) (337 : Int))))))) = true ∧ ((t5 != (IntKind.wrap .i64 ((1 : Int) + (IntKind.wrap .i64 ((Int.tmod (IntKind.wrap .u64 (a1)) (337 : Int))))))) = true ∧ (true = true ∧ (true = true ∧ (true = true ∧ (true = true ∧ (true = true ∧ (true = true ∧ (true = true ∧ (true = true ∧ (true = true ∧ (true = true ∧ (true = true ∧ (True ∧ (True ∧ ((True) ∧ (True) ∧ (.v (.one (.sc (.bool false))) : Tm) = halterlaw28_CallsErrors.R r ∧ ([] : List Box) = []))))))))))))))))))))))))))))))) ∧ ((t1 != t2) = true → ((t1 != t2) = true ∧ ((t1 != t2) = true ∧ ((t1 != t2) = true ∧ ((t1 != t2) = true ∧ ((t1 != t2) = true ∧ ((t1 != t2) = true ∧ ((t1 != t2) = true ∧ (true = true ∧ (true = true ∧ (true = true ∧ (true = true ∧ (true = true ∧ (true = true ∧ (true = true ∧ (true = true ∧ (true = true ∧ (true = true ∧ (true = true ∧ (true = true ∧ (true = true ∧ (true = true ∧ (true = true ∧ (true = true ∧ (true = true ∧ (True ∧ (True ∧ ((True) ∧ (True) ∧ (.v (.one (.sc (.bool false))) : Tm) = halterlaw28_CallsErrors.R r ∧ ([] : List Box) = [])))))))))))))))))))))))))))))))) (by kernel_rfl) ?_)
  refine ⟨trivial, ?_⟩
  refine ⟨(by decide), ?_⟩
  refine ⟨trivial, ?_⟩
  refine ⟨trivial, ?_⟩
  obtain ⟨t1, ht1, h⟩ := of_bind h
  refine ⟨t1, ⟨calls_Failed.fun_ ht1, trivial⟩, ?_⟩
  obtain ⟨t2, ht2, h⟩ := of_bind h
  refine ⟨t2, ⟨halterref28_Failed.fun_ ht2, trivial⟩, ?_⟩
  refine ⟨trivial, ?_⟩
  refine ⟨fun b3 => ?_, fun b3 => ?_⟩
  · rw [if_neg (not_not_intro (bne_f b3))] at h
    refine ⟨b3, ?_⟩
    refine ⟨b3, ?_⟩
    refine ⟨b3, ?_⟩
    obtain ⟨t4, ht4, h⟩ := of_bind h
    refine ⟨t4, ⟨calls_Result.fun_ ht4, trivial⟩, ?_⟩
    refine ⟨b3, ?_⟩
    obtain ⟨t5, ht5, h⟩ := of_bind h
    refine ⟨t5, ⟨calls_Failed.fun_ ht5, trivial⟩, ?_⟩
    refine ⟨b3, ?_⟩
    refine ⟨b3, ?_⟩
    refine ⟨trivial, ?_⟩
    refine ⟨b3, ?_⟩
    refine ⟨fun b6 => ?_, fun b6 => ?_⟩
    · rw [if_neg (not_not_intro (bne_f b6))] at h
      refine ⟨b6, ?_⟩
      refine ⟨(by decide), ?_⟩
      refine ⟨b6, ?_⟩
      obtain ⟨t7, ht7, h⟩ := of_bind h
      refine ⟨t7, ⟨calls_Result.fun_ ht7, trivial⟩, ?_⟩
      refine ⟨b6, ?_⟩
      obtain ⟨t8, ht8, h⟩ := of_bind h
      refine ⟨t8, ⟨calls_Failed.fun_ ht8, trivial⟩, ?_⟩
      refine ⟨b6, ?_⟩
      refine ⟨trivial, ?_⟩
      refine ⟨b6, ?_⟩
      refine ⟨fun b9 => ?_, fun b9 => ?_⟩
      · rw [if_neg (not_not_intro (bne_f b9))] at h
        refine ⟨b9, ?_⟩
        obtain ⟨t10, ht10, h⟩ := of_bind h
        refine ⟨t10, ⟨calls_Result.fun_ ht10, trivial⟩, ?_⟩
        refine ⟨b9, ?_⟩
        refine ⟨b9, ?_⟩
        refine ⟨trivial, ?_⟩
        refine ⟨b9, ?_⟩
        refine ⟨fun b11 => ?_, fun b11 => ?_⟩
        · rw [if_neg (not_not_intro (bne_f b11))] at h
          refine ⟨b11, ?_⟩
          obtain ⟨t12, ht12, h⟩ := of_bind h
          refine ⟨t12, ⟨errors_New.fun_ ht12, trivial⟩, ?_⟩
          refine ⟨b11, ?_⟩
          obtain ⟨t13, ht13, h⟩ := of_bind h
          refine ⟨t13, ⟨calls_Result_oe.fun_ ht13, trivial⟩, ?_⟩
          refine ⟨b11, ?_⟩
          refine ⟨trivial, ?_⟩
          refine ⟨b11, ?_⟩
          refine ⟨fun b14 => ?_, fun b14 => ?_⟩
          · rw [if_pos (bne_t b14)] at h
            refine ⟨trivial, ?_⟩
            refine ⟨trivial, ?_⟩
            obtain rfl := Option.some.inj h
            exact ⟨trivial, trivial, rfl, rfl⟩
          · rw [if_neg (not_not_intro (bne_f b14))] at h
            refine ⟨trivial, ?_⟩
            refine ⟨(by decide), ?_⟩
            refine ⟨trivial, ?_⟩
            refine ⟨trivial, ?_⟩
            obtain ⟨t15, ht15, h⟩ := of_bind h
            refine ⟨t15, ⟨calls_Name.fun_ ht15, trivial⟩, ?_⟩
            obtain ⟨t16, ht16, h⟩ := of_bind h
            refine ⟨t16, ⟨calls_Find.fun_ ht16, trivial⟩, ?_⟩
            refine ⟨trivial, ?_⟩
            refine ⟨fun b17 => ?_, fun b17 => ?_⟩
            · rw [if_pos (none_t b17)] at h
              refine ⟨b17, ?_⟩
              refine ⟨b17, ?_⟩
              refine ⟨trivial, ?_⟩
              refine ⟨b17, ?_⟩
              refine ⟨fun b18 => ?_, fun b18 => ?_⟩
              · rw [if_pos (beq_t b18)] at h
                obtain ⟨t19, ht19, h⟩ := of_bind h
                refine ⟨t19, ⟨halterlaw28_sure.fun_ ht19, trivial⟩, ?_⟩
                refine ⟨b18, ?_⟩
                refine ⟨trivial, ?_⟩
                obtain rfl := Option.some.inj h
                exact ⟨trivial, trivial, rfl, rfl⟩
              · rw [if_neg (beq_f b18)] at h
                refine ⟨b18, ?_⟩
                refine ⟨trivial, ?_⟩
                obtain rfl := Option.some.inj h
                exact ⟨trivial, trivial, rfl, rfl⟩
            · rw [if_neg (none_f b17)] at h
              refine ⟨b17, ?_⟩
              refine ⟨b17, ?_⟩
              refine ⟨b17, ?_⟩
              refine ⟨rfl, ?_⟩
              refine ⟨rfl, ?_⟩
              refine ⟨trivial, ?_⟩
              obtain rfl := Option.some.inj h
              exact ⟨trivial, trivial, rfl, rfl⟩
        · rw [if_pos (bne_t b11)] at h
          refine ⟨b11, ?_⟩
          refine ⟨b11, ?_⟩
          refine ⟨b11, ?_⟩
          refine ⟨b11, ?_⟩
          refine ⟨rfl, ?_⟩
          refine ⟨trivial, ?_⟩
          refine ⟨trivial, ?_⟩
          obtain rfl := Option.some.inj h
          exact ⟨trivial, trivial, rfl, rfl⟩
      · rw [if_pos (bne_t b9)] at h
        refine ⟨b9, ?_⟩
        refine ⟨b9, ?_⟩
        refine ⟨b9, ?_⟩
        refine ⟨b9, ?_⟩
        refine ⟨rfl, ?_⟩
        refine ⟨rfl, ?_⟩
        refine ⟨rfl, ?_⟩
        refine ⟨rfl, ?_⟩
        refine ⟨rfl, ?_⟩
        refine ⟨rfl, ?_⟩
        refine ⟨trivial, ?_⟩
        refine ⟨trivial, ?_⟩
        obtain rfl := Option.some.inj h
        exact ⟨trivial, trivial, rfl, rfl⟩
    · rw [if_pos (bne_t b6)] at h
      refine ⟨b6, ?_⟩
      refine ⟨b6, ?_⟩
      refine ⟨b6, ?_⟩
      refine ⟨b6, ?_⟩
      refine ⟨b6, ?_⟩
      refine ⟨rfl, ?_⟩
      refine ⟨rfl, ?_⟩
      refine ⟨rfl, ?_⟩
      refine ⟨rfl, ?_⟩
      refine ⟨rfl, ?_⟩
      refine ⟨rfl, ?_⟩
      refine ⟨rfl, ?_⟩
      refine ⟨rfl, ?_⟩
      refine ⟨rfl, ?_⟩
      refine ⟨rfl, ?_⟩
      refine ⟨rfl, ?_⟩
      refine ⟨trivial, ?_⟩
      refine ⟨trivial, ?_⟩
      obtain rfl := Option.some.inj h
      exact ⟨trivial, trivial, rfl, rfl⟩
  · rw [if_pos (bne_t b3)] at h
    refine ⟨b3, ?_⟩
    refine ⟨b3, ?_⟩
    refine ⟨b3, ?_⟩
    refine ⟨b3, ?_⟩
    refine ⟨b3, ?_⟩
    refine ⟨b3, ?_⟩
    refine ⟨b3, ?_⟩
    refine ⟨rfl, ?_⟩
    refine ⟨rfl, ?_⟩
    refine ⟨rfl, ?_⟩
    refine ⟨rfl, ?_⟩
    refine ⟨rfl, ?_⟩
    refine ⟨rfl, ?_⟩
    refine ⟨rfl, ?_⟩
    refine ⟨rfl, ?_⟩
    refine ⟨rfl, ?_⟩
    refine ⟨rfl, ?_⟩
    refine ⟨rfl, ?_⟩
    refine ⟨rfl, ?_⟩
    refine ⟨rfl, ?_⟩
    refine ⟨rfl, ?_⟩
    refine ⟨rfl, ?_⟩
    refine ⟨rfl, ?_⟩
    refine ⟨rfl, ?_⟩
    refine ⟨trivial, ?_⟩
    refine ⟨trivial, ?_⟩
    obtain rfl := Option.some.inj h
    exact ⟨trivial, trivial, rfl, rfl⟩
end Go.Proofs.YtfoobmiknmpeeaaDoorGCallsErrors
