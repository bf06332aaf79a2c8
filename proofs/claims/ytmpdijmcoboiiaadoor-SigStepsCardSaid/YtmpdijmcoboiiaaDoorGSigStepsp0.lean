/- Printed by gen.py: what functions of the program compute, in plain Lean, and that they do. -/
import Derived.Test.YtmpdijmcoboiiaaDoorE15
import Derived.Test.YtmpdijmcoboiiaaDoorN
set_option linter.unusedVariables false
set_option maxRecDepth 100000
set_option maxHeartbeats 4000000
namespace Go.Proofs.YtmpdijmcoboiiaaDoorGSigSteps
open Go Go.Proofs.YtmpdijmcoboiiaaDoorE
def tiL : List (Nat × TI) := [
  (3, ⟨1, 8, false, .int .i64, [.c (.sc (.int .i64 (0 : Int)))], some (.int .i64)⟩),
  (4, ⟨1, 1, false, .bool, [.c (.sc (.bool false))], some .bool⟩),
  (5, ⟨1, 1, false, .int .u8, [.c (.sc (.int .u8 (0 : Int)))], some (.int .u8)⟩),
  (22, ⟨1, 24, false, (.slice 3), [.c (.sc (.slice none 0 0))], some (.sl (.int .i64))⟩),
  (23, ⟨1, 4, false, .int .u32, [.c (.sc (.int .u32 (0 : Int)))], some (.int .u32)⟩),
  (24, ⟨1, 4, false, .int .u32, [.c (.sc (.int .u32 (0 : Int)))], some (.int .u32)⟩),
  (25, ⟨32, 128, true, (.array 32 23), [.row 32 (.int .u32) (List.replicate 32 (0 : Int))], some (.arr 32 (.int .u32))⟩),
  (27, ⟨34, 136, true, (.struct [(0, 24), (1, 24), (2, 25)]), [.c (.sc (.int .u32 (0 : Int))), .c (.sc (.int .u32 (0 : Int))), .row 32 (.int .u32) (List.replicate 32 (0 : Int))], some (.pair (.int .u32) (.pair (.int .u32) (.arr 32 (.int .u32))))⟩),
  (29, ⟨1, 16, false, .iface, [.c (.err none)], none⟩),
  (48, ⟨34, 136, true, (.struct [(0, 23), (1, 23), (2, 25)]), [.c (.sc (.int .u32 (0 : Int))), .c (.sc (.int .u32 (0 : Int))), .row 32 (.int .u32) (List.replicate 32 (0 : Int))], some (.pair (.int .u32) (.pair (.int .u32) (.arr 32 (.int .u32))))⟩),
  (49, ⟨2, 16, true, (.array 2 3), [.row 2 (.int .i64) (List.replicate 2 (0 : Int))], some (.arr 2 (.int .i64))⟩),
  (62, ⟨1, 8, false, .int .i64, [.c (.sc (.int .i64 (0 : Int)))], some (.int .i64)⟩),
  (85, ⟨32, 32, true, (.array 32 5), [.row 32 (.int .u8) (List.replicate 32 (0 : Int))], some (.arr 32 (.int .u8))⟩)]
def tab1 : List Int := [0, 1, 28, 2, 29, 14, 24, 3, 30, 22, 20, 15, 25, 17, 4, 8, 31, 27, 13, 23, 21, 19, 16, 7, 26, 12, 18, 6, 11, 5, 10, 9]
def tabs : List (Nat × IntKind × List Int) := [(1, .u8, tab1)]
noncomputable def cfg : Cfg := ⟨Tryd.prog, 62, [(⟨0, 0, none⟩, .iface 87 (.agg #[.pointer (some ⟨2, 29, none⟩)]))] ++ tabs.flatMap tabG, tiL, [27], tabs⟩
theorem cfg_ok : COk cfg := by
  refine ⟨fun p hp => ?_, by kernel_rfl, fun p hp => ?_, fun t ht => ?_, fun x hx y hy => List.mem_append_right _ (List.mem_flatMap.2 ⟨x, hx, hy⟩)⟩
  · simp only [cfg, tiL, List.mem_cons, List.not_mem_nil, or_false] at hp
    rcases hp with rfl | rfl | rfl | rfl | rfl | rfl | rfl | rfl | rfl | rfl | rfl | rfl | rfl <;> exact ⟨by kernel_rfl, by kernel_rfl, by kernel_rfl, by kernel_rfl, by kernel_rfl, by kernel_rfl⟩
  · simp only [cfg, tiL, List.mem_cons, List.not_mem_nil, or_false] at hp
    rcases hp with rfl | rfl | rfl | rfl | rfl | rfl | rfl | rfl | rfl | rfl | rfl | rfl | rfl <;> intro fs hfs bl hbl
    · cases hfs
    · cases hfs
    · cases hfs
    · cases hfs
    · cases hfs
    · cases hfs
    · cases hfs
    · cases hfs
      have e : fieldsZ cfg.L 0 [(0, 24), (1, 24), (2, 25)] = some [[.c (.sc (.int .u32 (0 : Int)))], [.c (.sc (.int .u32 (0 : Int)))], [.row 32 (.int .u32) (List.replicate 32 (0 : Int))]] := by kernel_rfl
      rw [e] at hbl
      cases hbl
      exact (by kernel_rfl : encPs (List.flatten [[.c (.sc (.int .u32 (0 : Int)))], [.c (.sc (.int .u32 (0 : Int)))], [.row 32 (.int .u32) (List.replicate 32 (0 : Int))]]) = encPs [.c (.sc (.int .u32 (0 : Int))), .c (.sc (.int .u32 (0 : Int))), .row 32 (.int .u32) (List.replicate 32 (0 : Int))])
    · cases hfs
    · cases hfs
      have e : fieldsZ cfg.L 0 [(0, 23), (1, 23), (2, 25)] = some [[.c (.sc (.int .u32 (0 : Int)))], [.c (.sc (.int .u32 (0 : Int)))], [.row 32 (.int .u32) (List.replicate 32 (0 : Int))]] := by kernel_rfl
      rw [e] at hbl
      cases hbl
      exact (by kernel_rfl : encPs (List.flatten [[.c (.sc (.int .u32 (0 : Int)))], [.c (.sc (.int .u32 (0 : Int)))], [.row 32 (.int .u32) (List.replicate 32 (0 : Int))]]) = encPs [.c (.sc (.int .u32 (0 : Int))), .c (.sc (.int .u32 (0 : Int))), .row 32 (.int .u32) (List.replicate 32 (0 : Int))])
    · cases hfs
    · cases hfs
    · cases hfs
  · simp only [cfg, List.mem_cons, List.not_mem_nil, or_false] at ht
    rcases ht with rfl <;> kernel_rfl
def fin : Scr → List Adj
  | .adj l _ => l
  | _ => []
/-! the error's number -/
def num.f (a0 : Option Int) : Option Int := some (a0.getD 0)
def num.R (r : Int) : Tm := .v (.one (.sc (.int .i64 r)))
theorem num.fun_ {a0 : Option Int} {r : Int} (h : num.f a0 = some r) : Fun cfg 22 [.one (.err a0)] [] (num.R r) [] := by
  refine Fun.of_below (f := 22) (fn := Tryd.f22) Tryd.func22 rfl (by kernel_rfl) (r := .int .i64 r) (fun X => ⟨⟨rfl, rfl⟩, rfl⟩) fun X vs hE hvs hG => ?_
  obtain ⟨v, us, rfl, hv, rfl⟩ := hvs
  have hv : v = errV X.E a0 := hv.1
  have he : errV cfg.E a0 = YtmpdijmcoboiiaaDoorN.errW a0 := by cases a0 <;> rfl
  rw [hv, hE, he]
  exact YtmpdijmcoboiiaaDoorN.num.calls a0 r X.w (hG _ (List.mem_append_left _ (List.mem_cons_self ..))) h
/-! halter/halterlaw25.giveSig -/
def halterlaw25_giveSig.f (a0 : Int) (a1 : Int) (a2 : (List Int)) : Option (Int × Int × (List Int)) :=
  some (a0, a1, a2)
def halterlaw25_giveSig.R (r : Int × Int × (List Int)) : Tm := .v (.agg [.c (.sc (.int .u32 r.1)), .c (.sc (.int .u32 r.2.1)), .row 32 (.int .u32) r.2.2])
theorem halterlaw25_giveSig.fun_ {a0 : Int} {a1 : Int} {a2 : (List Int)} {r : Int × Int × (List Int)} (h : halterlaw25_giveSig.f a0 a1 a2 = some r) : Fun cfg 16 [.agg [.c (.sc (.int .u32 a0)), .c (.sc (.int .u32 a1)), .row 32 (.int .u32) a2]] [] (halterlaw25_giveSig.R r) [] := by
  unfold halterlaw25_giveSig.f at h
  refine fun_of_run cfg_ok (f := 16) (fn := Tryd.f16) Tryd.func16 rfl (by kernel_rfl) (rs := [.cell 2 27]) rfl (nt := 10) rfl (l := fin) (k := (.adj [] (.adj [] (.adj [] (.adj [.drop 0] .nil))))) (to_goal (q := (True ∧ (True ∧ (True) ∧ (True) ∧ (True) ∧ (True) ∧ (True ∧ (((True) ∧ True) ∧ ((True) ∧ True) ∧ (.v (.agg [.c (.sc (.int .u32 a0)), .c (.sc (.int .u32 a1)), .row 32 (.int .u32) a2]) : Tm) = halterlaw25_giveSig.R r ∧ ([] : List Box) = []))))) (by kernel_rfl) ?_)
  refine ⟨trivial, ?_⟩
  refine ⟨trivial, ?_⟩
  refine ⟨trivial, ?_⟩
  refine ⟨trivial, ?_⟩
  refine ⟨trivial, ?_⟩
  refine ⟨trivial, ?_⟩
  refine ⟨trivial, ?_⟩
  obtain rfl := Option.some.inj h
  exact ⟨⟨trivial, trivial⟩, ⟨trivial, trivial⟩, rfl, rfl⟩
/-! halter/sig.Check -/
def sig_Check.f (a0 : Int) (a1 : Int) (a2 : (List Int)) : Option (Option Int) :=
  if ¬ (bits .and .u32 a1 (262400 : Int)) = (0 : Int) then
    some (some (22 : Int))
  else
    if ¬ (List.getD a2 0 (0 : Int)) = (0 : Int) then
      some (some (22 : Int))
    else
      if ¬ (List.getD a2 9 (0 : Int)) = (0 : Int) then
        some (some (22 : Int))
      else
        if ¬ (List.getD a2 19 (0 : Int)) = (0 : Int) then
          some (some (22 : Int))
        else
          if a0 > (2147483647 : Int) then
            some (some (22 : Int))
          else
            if a1 > (2147483647 : Int) then
              some (some (22 : Int))
            else
              some none
def sig_Check.R (r : (Option Int)) : Tm := .v (.one (.err r))
theorem sig_Check.fun_ {a0 : Int} {a1 : Int} {a2 : (List Int)} {r : (Option Int)} (h : sig_Check.f a0 a1 a2 = some r) : Fun cfg 14 [.agg [.c (.sc (.int .u32 a0)), .c (.sc (.int .u32 a1)), .row 32 (.int .u32) a2]] [] (sig_Check.R r) [] := by
  unfold sig_Check.f at h
  refine fun_of_run cfg_ok (f := 14) (fn := Tryd.f14) Tryd.func14 rfl (by kernel_rfl) (rs := [.tmp 2]) rfl (nt := 36) rfl (l := fin) (k := (.br (.one true (.one true (.one true (.one true (.one true (.one true (.one true (.one true (.one true (.one true (.one true (.one true (.one true (.one true (.one true (.one true (.one true (.one true (.one true (.one true (.one true (.one true (.one true (.adj [] (.adj [] (.adj [.drop 0] .nil)))))))))))))))))))))))))) (.one false (.one false (.one false (.one false (.br (.one true (.one true (.one true (.one true (.one true (.one true (.one true (.one true (.one true (.one true (.one true (.one true (.one true (.one true (.one true (.one true (.one true (.one true (.adj [] (.adj [] (.adj [.drop 0] .nil))))))))))))))))))))) (.one false (.one false (.one false (.one false (.br (.one true (.one true (.one true (.one true (.one true (.one true (.one true (.one true (.one true (.one true (.one true (.one true (.one true (.adj [] (.adj [] (.adj [.drop 0] .nil)))))))))))))))) (.one false (.one false (.one false (.one false (.br (.one true (.one true (.one true (.one true (.one true (.one true (.one true (.one true (.adj [] (.adj [] (.adj [.drop 0] .nil))))))))))) (.one false (.one false (.one false (.br (.one true (.one true (.one true (.one true (.adj [] (.adj [] (.adj [.drop 0] .nil))))))) (.one false (.one false (.one false (.br (.adj [] (.adj [] (.adj [.drop 0] .nil))) (.adj [] (.adj [] (.adj [] (.adj [.drop 0] .nil))))))))))))))))))))))))))))) (to_goal (q := (True) ∧ (True) ∧ (True) ∧ ((((bits .and .u32 a1 (262400 : Int)) != (0 : Int)) = false → (((bits .and .u32 a1 (262400 : Int)) != (0 : Int)) = false ∧ (0 ≤ (0 : Int) ∧ (0 : Int) < ((32 : Nat) : Int)) ∧ (((bits .and .u32 a1 (262400 : Int)) != (0 : Int)) = false ∧ (0 < 32) ∧ (((bits .and .u32 a1 (262400 : Int)) != (0 : Int)) = false ∧ (True) ∧ (((bits .and .u32 a1 (262400 : Int)) != (0 : Int)) = false ∧ ((((List.getD a2 0 (0 : Int)) != (0 : Int)) = false → (((List.getD a2 0 (0 : Int)) != (0 : Int)) = false ∧ (0 ≤ (9 : Int) ∧ (9 : Int) < ((32 : Nat) : Int)) ∧ (((List.getD a2 0 (0 : Int)) != (0 : Int)) = false ∧ (9 < 32) ∧ (((List.getD a2 0 (0 : Int)) != (0 : Int)) = false ∧ (True) ∧ (((List.getD a2 0 (0 : Int)) != (0 : Int)) = false ∧ ((((List.getD a2 9 (0 : Int)) != (0 : Int)) = false → (((List.getD a2 9 (0 : Int)) != (0 : Int)) = false ∧ (0 ≤ (19 : Int) ∧ (19 : Int) < ((32 : Nat) : Int)) ∧ (((List.getD a2 9 (0 : Int)) != (0 : Int)) = false ∧ (19 < 32) ∧ (((List.getD a2 9 (0 : Int)) != (0 : Int)) = false ∧ (True) ∧ (((List.getD a2 9 (0 : Int)) != (0 : Int)) = false ∧ ((((List.getD a2 19 (0 : Int)) != (0 : Int)) = false → (((List.getD a2 19 (0 : Int)) != (0 : Int)) = false ∧ (True) ∧ (((List.getD a2 19 (0 : Int)) != (0 : Int)) = false ∧ (True) ∧ (((List.getD a2 19 (0 : Int)) != (0 : Int)) = false ∧ (((decide (a0 > (2147483647 : Int))) = false → ((decide (a0 > (2147483647 : Int))) = false ∧ (True) ∧ ((decide (a0 > (2147483647 : Int))) = false ∧ (True) ∧ ((decide (a0 > (2147483647 : Int))) = false ∧ (((decide (a1 > (2147483647 : Int))) = true → (True ∧ (True ∧ ((True) ∧ ((True) ∧ True) ∧ (.v (.one (.err (some (22 : Int)))) : Tm) = sig_Check.R r ∧ ([] : List Box) = [])))) ∧ ((decide (a1 > (2147483647 : Int))) = false → (True ∧ (True ∧ (True ∧ ((True) ∧ ((True) ∧ True) ∧ (.v (.one (.err none)) : Tm) = sig_Check.R r ∧ ([] : List Box) = [])))))))))) ∧ ((decide (a0 > (2147483647 : Int))) = true → ((decide (a0 > (2147483647 : Int))) = true ∧ ((decide (a0 > (2147483647 : Int))) = true ∧ ((decide (a0 > (2147483647 : Int))) = true ∧ (true = true ∧ (True ∧ (True ∧ ((True) ∧ ((True) ∧ True) ∧ (.v (.one (.err (some (22 : Int)))) : Tm) = sig_Check.R r ∧ ([] : List Box) = []))))))))))))) ∧ (((List.getD a2 19 (0 : Int)) != (0 : Int)) = true → (((List.getD a2 19 (0 : Int)) != (0 : Int)) = true ∧ (((List.getD a2 19 (0 : Int)) != (0 : Int)) = true ∧ (((List.getD a2 19 (0 : Int)) != (0 : Int)) = true ∧ (true = true ∧ (true = true ∧ (true = true ∧ (true = true ∧ (true = true ∧ (True ∧ (True ∧ ((True) ∧ ((True) ∧ True) ∧ (.v (.one (.err (some (22 : Int)))) : Tm) = sig_Check.R r ∧ ([] : List Box) = [])))))))))))))))))) ∧ (((List.getD a2 9 (0 : Int)) != (0 : Int)) = true → (((List.getD a2 9 (0 : Int)) != (0 : Int)) = true ∧ (((List.getD a2 9 (0 : Int)) != (0 : Int)) = true ∧ (((List.getD a2 9 (0 : Int)) != (0 : Int)) = true ∧ (((List.getD a2 9 (0 : Int)) != (0 : Int)) = true ∧ (true = true ∧ (true = true ∧ (true = true ∧ (true = true ∧ (true = true ∧ (true = true ∧ (true = true ∧ (true = true ∧ (true = true ∧ (True ∧ (True ∧ ((True) ∧ ((True) ∧ True) ∧ (.v (.one (.err (some (22 : Int)))) : Tm) = sig_Check.R r ∧ ([] : List Box) = []))))))))))))))))))))))) ∧ (((List.getD a2 0 (0 : Int)) != (0 : Int)) = true → (((List.getD a2 0 (0 : Int)) != (0 : Int)) = true ∧ (((List.getD a2 0 (0 : Int)) != (0 : Int)) = true ∧ (((List.getD a2 0 (0 : Int)) != (0 : Int)) = true ∧ (((List.getD a2 0 (0 : Int)) != (0 : Int)) = true ∧ (true = true ∧ (true = true ∧ (true = true ∧ (true = true ∧ (true = true ∧ (true = true ∧ (true = true ∧ (true = true ∧ (true = true ∧ (true = true ∧ (true = true ∧ (true = true ∧ (true = true ∧ (true = true ∧ (True ∧ (True ∧ ((True) ∧ ((True) ∧ True) ∧ (.v (.one (.err (some (22 : Int)))) : Tm) = sig_Check.R r ∧ ([] : List Box) = [])))))))))))))))))))))))))))) ∧ (((bits .and .u32 a1 (262400 : Int)) != (0 : Int)) = true → (((bits .and .u32 a1 (262400 : Int)) != (0 : Int)) = true ∧ (((bits .and .u32 a1 (262400 : Int)) != (0 : Int)) = true ∧ (((bits .and .u32 a1 (262400 : Int)) != (0 : Int)) = true ∧ (((bits .and .u32 a1 (262400 : Int)) != (0 : Int)) = true ∧ (true = true ∧ (true = true ∧ (true = true ∧ (true = true ∧ (true = true ∧ (true = true ∧ (true = true ∧ (true = true ∧ (true = true ∧ (true = true ∧ (true = true ∧ (true = true ∧ (true = true ∧ (true = true ∧ (true = true ∧ (true = true ∧ (true = true ∧ (true = true ∧ (true = true ∧ (True ∧ (True ∧ ((True) ∧ ((True) ∧ True) ∧ (.v (.one (.err (some (22 : Int)))) : Tm) = sig_Check.R r ∧ ([] : List Box) = []))))))))))))))))))))))))))))) (by kernel_rfl) ?_)
  refine ⟨trivial, ?_⟩
  refine ⟨trivial, ?_⟩
  refine ⟨trivial, ?_⟩
  refine ⟨fun b1 => ?_, fun b1 => ?_⟩
  · rw [if_neg (not_not_intro (bne_f b1))] at h
    refine ⟨b1, ?_⟩
    refine ⟨(by decide), ?_⟩
    refine ⟨b1, ?_⟩
    refine ⟨(by decide), ?_⟩
    refine ⟨b1, ?_⟩
    refine ⟨trivial, ?_⟩
    refine ⟨b1, ?_⟩
    refine ⟨fun b2 => ?_, fun b2 => ?_⟩
    · rw [if_neg (not_not_intro (bne_f b2))] at h
      refine ⟨b2, ?_⟩
      refine ⟨(by decide), ?_⟩
      refine ⟨b2, ?_⟩
      refine ⟨(by decide), ?_⟩
      refine ⟨b2, ?_⟩
      refine ⟨trivial, ?_⟩
      refine ⟨b2, ?_⟩
      refine ⟨fun b3 => ?_, fun b3 => ?_⟩
      · rw [if_neg (not_not_intro (bne_f b3))] at h
        refine ⟨b3, ?_⟩
        refine ⟨(by decide), ?_⟩
        refine ⟨b3, ?_⟩
        refine ⟨(by decide), ?_⟩
        refine ⟨b3, ?_⟩
        refine ⟨trivial, ?_⟩
        refine ⟨b3, ?_⟩
        refine ⟨fun b4 => ?_, fun b4 => ?_⟩
        · rw [if_neg (not_not_intro (bne_f b4))] at h
          refine ⟨b4, ?_⟩
          refine ⟨trivial, ?_⟩
          refine ⟨b4, ?_⟩
          refine ⟨trivial, ?_⟩
          refine ⟨b4, ?_⟩
          refine ⟨fun b5 => ?_, fun b5 => ?_⟩
          · rw [if_neg (of_decide_eq_false b5)] at h
            refine ⟨b5, ?_⟩
            refine ⟨trivial, ?_⟩
            refine ⟨b5, ?_⟩
            refine ⟨trivial, ?_⟩
            refine ⟨b5, ?_⟩
            refine ⟨fun b6 => ?_, fun b6 => ?_⟩
            · rw [if_pos (of_decide_eq_true b6)] at h
              refine ⟨trivial, ?_⟩
              refine ⟨trivial, ?_⟩
              obtain rfl := Option.some.inj h
              exact ⟨trivial, ⟨trivial, trivial⟩, rfl, rfl⟩
            · rw [if_neg (of_decide_eq_false b6)] at h
              refine ⟨trivial, ?_⟩
              refine ⟨trivial, ?_⟩
              refine ⟨trivial, ?_⟩
              obtain rfl := Option.some.inj h
              exact ⟨trivial, ⟨trivial, trivial⟩, rfl, rfl⟩
          · rw [if_pos (of_decide_eq_true b5)] at h
            refine ⟨b5, ?_⟩
            refine ⟨b5, ?_⟩
            refine ⟨b5, ?_⟩
            refine ⟨rfl, ?_⟩
            refine ⟨trivial, ?_⟩
            refine ⟨trivial, ?_⟩
            obtain rfl := Option.some.inj h
            exact ⟨trivial, ⟨trivial, trivial⟩, rfl, rfl⟩
        · rw [if_pos (bne_t b4)] at h
          refine ⟨b4, ?_⟩
          refine ⟨b4, ?_⟩
          refine ⟨b4, ?_⟩
          refine ⟨rfl, ?_⟩
          refine ⟨rfl, ?_⟩
          refine ⟨rfl, ?_⟩
          refine ⟨rfl, ?_⟩
          refine ⟨rfl, ?_⟩
          refine ⟨trivial, ?_⟩
          refine ⟨trivial, ?_⟩
          obtain rfl := Option.some.inj h
          exact ⟨trivial, ⟨trivial, trivial⟩, rfl, rfl⟩
      · rw [if_pos (bne_t b3)] at h
        refine ⟨b3, ?_⟩
        refine ⟨b3, ?_⟩
        refine ⟨b3, ?_⟩
        refine ⟨b3, ?_⟩
        refine ⟨rfl, ?_⟩
        refine ⟨rfl, ?_⟩
        refine ⟨rfl, ?_⟩
        refine ⟨rfl, ?_⟩
        refine ⟨rfl, ?_⟩
        refine ⟨rfl, ?_⟩
        refine ⟨rfl, ?_⟩
        refine ⟨rfl, ?_⟩
        refine ⟨rfl, ?_⟩
        refine ⟨trivial, ?_⟩
        refine ⟨trivial, ?_⟩
        obtain rfl := Option.some.inj h
        exact ⟨trivial, ⟨trivial, trivial⟩, rfl, rfl⟩
    · rw [if_pos (bne_t b2)] at h
      refine ⟨b2, ?_⟩
      refine ⟨b2, ?_⟩
      refine ⟨b2, ?_⟩
      refine ⟨b2, ?_⟩
      refine ⟨rfl, ?_⟩
      refine ⟨rfl, ?_⟩
      refine ⟨rfl, ?_⟩
      refine ⟨rfl, ?_⟩
      refine ⟨rfl, ?_⟩
      refine ⟨rfl, ?_⟩
      refine ⟨rfl, ?_⟩
      refine ⟨rfl, ?_⟩
      refine ⟨rfl, ?_⟩
      refine ⟨rfl, ?_⟩
      refine ⟨rfl, ?_⟩
      refine ⟨rfl, ?_⟩
      refine ⟨rfl, ?_⟩
      refine ⟨rfl, ?_⟩
      refine ⟨trivial, ?_⟩
      refine ⟨trivial, ?_⟩
      obtain rfl := Option.some.inj h
      exact ⟨trivial, ⟨trivial, trivial⟩, rfl, rfl⟩
  · rw [if_pos (bne_t b1)] at h
    refine ⟨b1, ?_⟩
    refine ⟨b1, ?_⟩
    refine ⟨b1, ?_⟩
    refine ⟨b1, ?_⟩
    refine ⟨rfl, ?_⟩
    refine ⟨rfl, ?_⟩
    refine ⟨rfl, ?_⟩
    refine ⟨rfl, ?_⟩
    refine ⟨rfl, ?_⟩
    refine ⟨rfl, ?_⟩
    refine ⟨rfl, ?_⟩
    refine ⟨rfl, ?_⟩
    refine ⟨rfl, ?_⟩
    refine ⟨rfl, ?_⟩
    refine ⟨rfl, ?_⟩
    refine ⟨rfl, ?_⟩
    refine ⟨rfl, ?_⟩
    refine ⟨rfl, ?_⟩
    refine ⟨rfl, ?_⟩
    refine ⟨rfl, ?_⟩
    refine ⟨rfl, ?_⟩
    refine ⟨rfl, ?_⟩
    refine ⟨rfl, ?_⟩
    refine ⟨trivial, ?_⟩
    refine ⟨trivial, ?_⟩
    obtain rfl := Option.some.inj h
    exact ⟨trivial, ⟨trivial, trivial⟩, rfl, rfl⟩
/-! halter/sig.signal -/
def sig_signal.f (a0 : Int) : Option Bool :=
  if a0 ≥ (1 : Int) then
    some (decide (a0 ≤ (31 : Int)))
  else
    some false
def sig_signal.R (r : Bool) : Tm := .v (.one (.sc (.bool r)))
theorem sig_signal.fun_ {a0 : Int} {r : Bool} (h : sig_signal.f a0 = some r) : Fun cfg 28 [.one (.sc (.int .i64 a0))] [] (sig_signal.R r) [] := by
  unfold sig_signal.f at h
  refine fun_of_run cfg_ok (f := 28) (fn := Tryd.f28) Tryd.func28 rfl (by kernel_rfl) (rs := [.tmp 2]) rfl (nt := 9) rfl (l := fin) (k := (.br (.one true (.one true (.adj [] (.adj [] .nil)))) (.one false (.one false (.adj [] (.adj [] .nil)))))) (to_goal (q := (True) ∧ (((decide (a0 ≥ (1 : Int))) = true → ((decide (a0 ≥ (1 : Int))) = true ∧ (True) ∧ ((decide (a0 ≥ (1 : Int))) = true ∧ (True ∧ ((True) ∧ (True) ∧ (.v (.one (.sc (.bool (decide (a0 ≤ (31 : Int)))))) : Tm) = sig_signal.R r ∧ ([] : List Box) = []))))) ∧ ((decide (a0 ≥ (1 : Int))) = false → ((decide (a0 ≥ (1 : Int))) = false ∧ ((decide (a0 ≥ (1 : Int))) = false ∧ (True ∧ ((True) ∧ (True) ∧ (.v (.one (.sc (.bool false))) : Tm) = sig_signal.R r ∧ ([] : List Box) = []))))))) (by kernel_rfl) ?_)
  refine ⟨trivial, ?_⟩
  refine ⟨fun b1 => ?_, fun b1 => ?_⟩
  · rw [if_pos (of_decide_eq_true b1)] at h
    refine ⟨b1, ?_⟩
    refine ⟨trivial, ?_⟩
    refine ⟨b1, ?_⟩
    refine ⟨trivial, ?_⟩
    obtain rfl := Option.some.inj h
    exact ⟨trivial, trivial, rfl, rfl⟩
  · rw [if_neg (of_decide_eq_false b1)] at h
    refine ⟨b1, ?_⟩
    refine ⟨b1, ?_⟩
    refine ⟨trivial, ?_⟩
    obtain rfl := Option.some.inj h
    exact ⟨trivial, trivial, rfl, rfl⟩
/-! halter/sigset.One -/
def sigset_One.f (a0 : Int) : Option Int :=
  if a0 < (1 : Int) then
    some (0 : Int)
  else
    if a0 > (31 : Int) then
      some (0 : Int)
    else
      if 0 ≤ (IntKind.wrap .i64 (a0 - (1 : Int))) then
        some (shl .u32 (1 : Int) (IntKind.wrap .i64 (a0 - (1 : Int))))
      else none
def sigset_One.R (r : Int) : Tm := .v (.one (.sc (.int .u32 r)))
theorem sigset_One.fun_ {a0 : Int} {r : Int} (h : sigset_One.f a0 = some r) : Fun cfg 33 [.one (.sc (.int .i64 a0))] [] (sigset_One.R r) [] := by
  unfold sigset_One.f at h
  refine fun_of_run cfg_ok (f := 33) (fn := Tryd.f33) Tryd.func33 rfl (by kernel_rfl) (rs := [.tmp 2]) rfl (nt := 12) rfl (l := fin) (k := (.br (.one true (.one true (.one true (.adj [] (.adj [] (.adj [] .nil)))))) (.one false (.one false (.br (.adj [] (.adj [] (.adj [] .nil))) (.adj [] (.adj [] (.adj [] (.adj [] .nil))))))))) (to_goal (q := (True) ∧ (((decide (a0 < (1 : Int))) = false → ((decide (a0 < (1 : Int))) = false ∧ (True) ∧ ((decide (a0 < (1 : Int))) = false ∧ (((decide (a0 > (31 : Int))) = true → (True ∧ (True ∧ ((True) ∧ (True) ∧ (.v (.one (.sc (.int .u32 (0 : Int)))) : Tm) = sigset_One.R r ∧ ([] : List Box) = [])))) ∧ ((decide (a0 > (31 : Int))) = false → (True ∧ (True ∧ (True) ∧ (0 ≤ (IntKind.wrap .i64 (a0 - (1 : Int)))) ∧ (True ∧ ((True) ∧ (True) ∧ (.v (.one (.sc (.int .u32 (shl .u32 (1 : Int) (IntKind.wrap .i64 (a0 - (1 : Int))))))) : Tm) = sigset_One.R r ∧ ([] : List Box) = []))))))))) ∧ ((decide (a0 < (1 : Int))) = true → ((decide (a0 < (1 : Int))) = true ∧ ((decide (a0 < (1 : Int))) = true ∧ (true = true ∧ (True ∧ (True ∧ ((True) ∧ (True) ∧ (.v (.one (.sc (.int .u32 (0 : Int)))) : Tm) = sigset_One.R r ∧ ([] : List Box) = []))))))))) (by kernel_rfl) ?_)
  refine ⟨trivial, ?_⟩
  refine ⟨fun b1 => ?_, fun b1 => ?_⟩
  · rw [if_neg (of_decide_eq_false b1)] at h
    refine ⟨b1, ?_⟩
    refine ⟨trivial, ?_⟩
    refine ⟨b1, ?_⟩
    refine ⟨fun b2 => ?_, fun b2 => ?_⟩
    · rw [if_pos (of_decide_eq_true b2)] at h
      refine ⟨trivial, ?_⟩
      refine ⟨trivial, ?_⟩
      obtain rfl := Option.some.inj h
      exact ⟨trivial, trivial, rfl, rfl⟩
    · rw [if_neg (of_decide_eq_false b2)] at h
      refine ⟨trivial, ?_⟩
      refine ⟨trivial, ?_⟩
      refine ⟨trivial, ?_⟩
      obtain ⟨g3, h⟩ := of_guard h
      refine ⟨g3, ?_⟩
      refine ⟨trivial, ?_⟩
      obtain rfl := Option.some.inj h
      exact ⟨trivial, trivial, rfl, rfl⟩
  · rw [if_pos (of_decide_eq_true b1)] at h
    refine ⟨b1, ?_⟩
    refine ⟨b1, ?_⟩
    refine ⟨rfl, ?_⟩
    refine ⟨trivial, ?_⟩
    refine ⟨trivial, ?_⟩
    obtain rfl := Option.some.inj h
    exact ⟨trivial, trivial, rfl, rfl⟩
/-! halter/sigset.Add -/
def sigset_Add.f (a0 : Int) (a1 : Int) : Option Int :=
  (sigset_One.f a1).bind fun t1 =>
  some (bits .or .u32 (bits .and .u32 a0 (2147483647 : Int)) t1)
def sigset_Add.R (r : Int) : Tm := .v (.one (.sc (.int .u32 r)))
theorem sigset_Add.fun_ {a0 : Int} {a1 : Int} {r : Int} (h : sigset_Add.f a0 a1 = some r) : Fun cfg 30 [.one (.sc (.int .u32 a0)), .one (.sc (.int .i64 a1))] [] (sigset_Add.R r) [] := by
  unfold sigset_Add.f at h
  refine fun_of_run cfg_ok (f := 30) (fn := Tryd.f30) Tryd.func30 rfl (by kernel_rfl) (rs := [.tmp 4]) rfl (nt := 10) rfl (l := fin) (k := (.call true [] (Int) (fun t1 => sigset_One.R t1) (fun t1 => (.adj [] (.adj [] .nil))))) (to_goal (q := (True) ∧ (∃ t1 : Int, (Fun cfg 33 [.one (.sc (.int .i64 a1))] [] (sigset_One.R t1) [] ∧ True) ∧ (True) ∧ (True ∧ ((True) ∧ (True) ∧ (.v (.one (.sc (.int .u32 (bits .or .u32 (bits .and .u32 a0 (2147483647 : Int)) t1)))) : Tm) = sigset_Add.R r ∧ ([] : List Box) = [])))) (by kernel_rfl) ?_)
  refine ⟨trivial, ?_⟩
  obtain ⟨t1, ht1, h⟩ := of_bind h
  refine ⟨t1, ⟨sigset_One.fun_ ht1, trivial⟩, ?_⟩
  refine ⟨trivial, ?_⟩
  refine ⟨trivial, ?_⟩
  obtain rfl := Option.some.inj h
  exact ⟨trivial, trivial, rfl, rfl⟩
/-! halter/sig.against -/
def sig_against.f (a0 : Int) : Option Int :=
  if a0 = (18 : Int) then
    (sigset_One.f (19 : Int)).bind fun t2 =>
    (sigset_Add.f t2 (20 : Int)).bind fun t3 =>
    some t3
  else
    if a0 = (19 : Int) then
      (sigset_One.f (18 : Int)).bind fun t5 =>
      some t5
    else
      if a0 = (20 : Int) then
        (sigset_One.f (18 : Int)).bind fun t7 =>
        some t7
      else
        some (0 : Int)
def sig_against.R (r : Int) : Tm := .v (.one (.sc (.int .u32 r)))
theorem sig_against.fun_ {a0 : Int} {r : Int} (h : sig_against.f a0 = some r) : Fun cfg 29 [.one (.sc (.int .i64 a0))] [] (sig_against.R r) [] := by
  unfold sig_against.f at h
  refine fun_of_run cfg_ok (f := 29) (fn := Tryd.f29) Tryd.func29 rfl (by kernel_rfl) (rs := [.tmp 2]) rfl (nt := 12) rfl (l := fin) (k := (.br (.call true [] (Int) (fun t2 => sigset_One.R t2) (fun t2 => (.call true [] (Int) (fun t3 => sigset_Add.R t3) (fun t3 => (.adj [] (.adj [] .nil)))))) (.br (.one true (.call true [] (Int) (fun t5 => sigset_One.R t5) (fun t5 => (.adj [] (.adj [] .nil))))) (.br (.call true [] (Int) (fun t7 => sigset_One.R t7) (fun t7 => (.adj [] (.adj [] .nil)))) (.adj [] (.adj [] (.adj [] (.adj [] .nil)))))))) (to_goal (q := (True) ∧ (((a0 == (18 : Int)) = true → (∃ t2 : Int, (Fun cfg 33 [.one (.sc (.int .i64 (19 : Int)))] [] (sigset_One.R t2) [] ∧ True) ∧ (∃ t3 : Int, (Fun cfg 30 [.one (.sc (.int .u32 t2)), .one (.sc (.int .i64 (20 : Int)))] [] (sigset_Add.R t3) [] ∧ True) ∧ (True ∧ ((True) ∧ (True) ∧ (.v (.one (.sc (.int .u32 t3))) : Tm) = sig_against.R r ∧ ([] : List Box) = []))))) ∧ ((a0 == (18 : Int)) = false → (True) ∧ (((a0 == (19 : Int)) = true → ((a0 == (19 : Int)) = true ∧ (∃ t5 : Int, (Fun cfg 33 [.one (.sc (.int .i64 (18 : Int)))] [] (sigset_One.R t5) [] ∧ True) ∧ (True ∧ ((True) ∧ (True) ∧ (.v (.one (.sc (.int .u32 t5))) : Tm) = sig_against.R r ∧ ([] : List Box) = []))))) ∧ ((a0 == (19 : Int)) = false → (True) ∧ (((a0 == (20 : Int)) = true → (∃ t7 : Int, (Fun cfg 33 [.one (.sc (.int .i64 (18 : Int)))] [] (sigset_One.R t7) [] ∧ True) ∧ (True ∧ ((True) ∧ (True) ∧ (.v (.one (.sc (.int .u32 t7))) : Tm) = sig_against.R r ∧ ([] : List Box) = [])))) ∧ ((a0 == (20 : Int)) = false → (True ∧ (True ∧ (True ∧ ((True) ∧ (True) ∧ (.v (.one (.sc (.int .u32 (0 : Int)))) : Tm) = sig_against.R r ∧ ([] : List Box) = []))))))))))) (by kernel_rfl) ?_)
  refine ⟨trivial, ?_⟩
  refine ⟨fun b1 => ?_, fun b1 => ?_⟩
  · rw [if_pos (beq_t b1)] at h
    obtain ⟨t2, ht2, h⟩ := of_bind h
    refine ⟨t2, ⟨sigset_One.fun_ ht2, trivial⟩, ?_⟩
    obtain ⟨t3, ht3, h⟩ := of_bind h
    refine ⟨t3, ⟨sigset_Add.fun_ ht3, trivial⟩, ?_⟩
    refine ⟨trivial, ?_⟩
    obtain rfl := Option.some.inj h
    exact ⟨trivial, trivial, rfl, rfl⟩
  · rw [if_neg (beq_f b1)] at h
    refine ⟨trivial, ?_⟩
    refine ⟨fun b4 => ?_, fun b4 => ?_⟩
    · rw [if_pos (beq_t b4)] at h
      refine ⟨b4, ?_⟩
      obtain ⟨t5, ht5, h⟩ := of_bind h
      refine ⟨t5, ⟨sigset_One.fun_ ht5, trivial⟩, ?_⟩
      refine ⟨trivial, ?_⟩
      obtain rfl := Option.some.inj h
      exact ⟨trivial, trivial, rfl, rfl⟩
    · rw [if_neg (beq_f b4)] at h
      refine ⟨trivial, ?_⟩
      refine ⟨fun b6 => ?_, fun b6 => ?_⟩
      · rw [if_pos (beq_t b6)] at h
        obtain ⟨t7, ht7, h⟩ := of_bind h
        refine ⟨t7, ⟨sigset_One.fun_ ht7, trivial⟩, ?_⟩
        refine ⟨trivial, ?_⟩
        obtain rfl := Option.some.inj h
        exact ⟨trivial, trivial, rfl, rfl⟩
      · rw [if_neg (beq_f b6)] at h
        refine ⟨trivial, ?_⟩
        refine ⟨trivial, ?_⟩
        refine ⟨trivial, ?_⟩
        obtain rfl := Option.some.inj h
        exact ⟨trivial, trivial, rfl, rfl⟩
/-! halter/sigset.Has -/
def sigset_Has.f (a0 : Int) (a1 : Int) : Option Bool :=
  (sigset_One.f a1).bind fun t1 =>
  some ((bits .and .u32 a0 t1) != (0 : Int))
def sigset_Has.R (r : Bool) : Tm := .v (.one (.sc (.bool r)))
theorem sigset_Has.fun_ {a0 : Int} {a1 : Int} {r : Bool} (h : sigset_Has.f a0 a1 = some r) : Fun cfg 11 [.one (.sc (.int .u32 a0)), .one (.sc (.int .i64 a1))] [] (sigset_Has.R r) [] := by
  unfold sigset_Has.f at h
  refine fun_of_run cfg_ok (f := 11) (fn := Tryd.f11) Tryd.func11 rfl (by kernel_rfl) (rs := [.tmp 4]) rfl (nt := 10) rfl (l := fin) (k := (.call true [] (Int) (fun t1 => sigset_One.R t1) (fun t1 => (.adj [] (.adj [] .nil))))) (to_goal (q := (∃ t1 : Int, (Fun cfg 33 [.one (.sc (.int .i64 a1))] [] (sigset_One.R t1) [] ∧ True) ∧ (True) ∧ (True) ∧ (True ∧ ((True) ∧ (True) ∧ (.v (.one (.sc (.bool ((bits .and .u32 a0 t1) != (0 : Int))))) : Tm) = sigset_Has.R r ∧ ([] : List Box) = [])))) (by kernel_rfl) ?_)
  obtain ⟨t1, ht1, h⟩ := of_bind h
  refine ⟨t1, ⟨sigset_One.fun_ ht1, trivial⟩, ?_⟩
  refine ⟨trivial, ?_⟩
  refine ⟨trivial, ?_⟩
  refine ⟨trivial, ?_⟩
  obtain rfl := Option.some.inj h
  exact ⟨trivial, trivial, rfl, rfl⟩
/-! halter/sig.plain -/
def sig_plain.f (a0 : Int) : Option Int :=
  if a0 = (17 : Int) then
    some (0 : Int)
  else
    if a0 = (18 : Int) then
      some (3 : Int)
    else
      if a0 = (19 : Int) then
        some (2 : Int)
      else
        if a0 = (20 : Int) then
          some (2 : Int)
        else
          some (1 : Int)
def sig_plain.R (r : Int) : Tm := .v (.one (.sc (.int .i64 r)))
theorem sig_plain.fun_ {a0 : Int} {r : Int} (h : sig_plain.f a0 = some r) : Fun cfg 34 [.one (.sc (.int .i64 a0))] [] (sig_plain.R r) [] := by
  unfold sig_plain.f at h
  refine fun_of_run cfg_ok (f := 34) (fn := Tryd.f34) Tryd.func34 rfl (by kernel_rfl) (rs := [.tmp 2]) rfl (nt := 11) rfl (l := fin) (k := (.br (.adj [] (.adj [] (.adj [] .nil))) (.br (.adj [] (.adj [] (.adj [] .nil))) (.br (.one true (.adj [] (.adj [] (.adj [] .nil)))) (.br (.adj [] (.adj [] (.adj [] .nil))) (.adj [] (.adj [] (.adj [] (.adj [] .nil))))))))) (to_goal (q := (True) ∧ (((a0 == (17 : Int)) = true → (True ∧ (True ∧ ((True) ∧ (True) ∧ (.v (.one (.sc (.int .i64 (0 : Int)))) : Tm) = sig_plain.R r ∧ ([] : List Box) = [])))) ∧ ((a0 == (17 : Int)) = false → (True) ∧ (((a0 == (18 : Int)) = true → (True ∧ (True ∧ ((True) ∧ (True) ∧ (.v (.one (.sc (.int .i64 (3 : Int)))) : Tm) = sig_plain.R r ∧ ([] : List Box) = [])))) ∧ ((a0 == (18 : Int)) = false → (True) ∧ (((a0 == (19 : Int)) = true → ((a0 == (19 : Int)) = true ∧ (True ∧ (True ∧ ((True) ∧ (True) ∧ (.v (.one (.sc (.int .i64 (2 : Int)))) : Tm) = sig_plain.R r ∧ ([] : List Box) = []))))) ∧ ((a0 == (19 : Int)) = false → (True) ∧ (((a0 == (20 : Int)) = true → (True ∧ (True ∧ ((True) ∧ (True) ∧ (.v (.one (.sc (.int .i64 (2 : Int)))) : Tm) = sig_plain.R r ∧ ([] : List Box) = [])))) ∧ ((a0 == (20 : Int)) = false → (True ∧ (True ∧ (True ∧ ((True) ∧ (True) ∧ (.v (.one (.sc (.int .i64 (1 : Int)))) : Tm) = sig_plain.R r ∧ ([] : List Box) = []))))))))))))) (by kernel_rfl) ?_)
  refine ⟨trivial, ?_⟩
  refine ⟨fun b1 => ?_, fun b1 => ?_⟩
  · rw [if_pos (beq_t b1)] at h
    refine ⟨trivial, ?_⟩
    refine ⟨trivial, ?_⟩
    obtain rfl := Option.some.inj h
    exact ⟨trivial, trivial, rfl, rfl⟩
  · rw [if_neg (beq_f b1)] at h
    refine ⟨trivial, ?_⟩
    refine ⟨fun b2 => ?_, fun b2 => ?_⟩
    · rw [if_pos (beq_t b2)] at h
      refine ⟨trivial, ?_⟩
      refine ⟨trivial, ?_⟩
      obtain rfl := Option.some.inj h
      exact ⟨trivial, trivial, rfl, rfl⟩
    · rw [if_neg (beq_f b2)] at h
      refine ⟨trivial, ?_⟩
      refine ⟨fun b3 => ?_, fun b3 => ?_⟩
      · rw [if_pos (beq_t b3)] at h
        refine ⟨b3, ?_⟩
        refine ⟨trivial, ?_⟩
        refine ⟨trivial, ?_⟩
        obtain rfl := Option.some.inj h
        exact ⟨trivial, trivial, rfl, rfl⟩
      · rw [if_neg (beq_f b3)] at h
        refine ⟨trivial, ?_⟩
        refine ⟨fun b4 => ?_, fun b4 => ?_⟩
        · rw [if_pos (beq_t b4)] at h
          refine ⟨trivial, ?_⟩
          refine ⟨trivial, ?_⟩
          obtain rfl := Option.some.inj h
          exact ⟨trivial, trivial, rfl, rfl⟩
        · rw [if_neg (beq_f b4)] at h
          refine ⟨trivial, ?_⟩
          refine ⟨trivial, ?_⟩
          refine ⟨trivial, ?_⟩
          obtain rfl := Option.some.inj h
          exact ⟨trivial, trivial, rfl, rfl⟩
/-! halter/sig.What -/
def sig_What.f (a0 : Int) (a1 : Int) (a2 : (List Int)) (a3 : Int) : Option Int :=
  (sig_signal.f a3).bind fun t1 =>
  if ¬ (t1 = true) then
    some (0 : Int)
  else
    if a3 = (9 : Int) then
      (sig_plain.f a3).bind fun t4 =>
      some t4
    else
      if a3 = (19 : Int) then
        (sig_plain.f a3).bind fun t6 =>
        some t6
      else
        if 0 ≤ a3 ∧ a3 < ((32 : Nat) : Int) then
          if (Int.toNat a3) < 32 then
            if (List.getD a2 (Int.toNat a3) (0 : Int)) = (0 : Int) then
              (sig_plain.f a3).bind fun t8 =>
              some t8
            else
              if 0 ≤ a3 ∧ a3 < ((32 : Nat) : Int) then
                if (Int.toNat a3) < 32 then
                  if (List.getD a2 (Int.toNat a3) (0 : Int)) > (1 : Int) then
                    some (4 : Int)
                  else
                    if a3 = (18 : Int) then
                      some (3 : Int)
                    else
                      some (0 : Int)
                else none
              else none
          else none
        else none
def sig_What.R (r : Int) : Tm := .v (.one (.sc (.int .i64 r)))
theorem sig_What.fun_ {a0 : Int} {a1 : Int} {a2 : (List Int)} {a3 : Int} {r : Int} (h : sig_What.f a0 a1 a2 a3 = some r) : Fun cfg 13 [.agg [.c (.sc (.int .u32 a0)), .c (.sc (.int .u32 a1)), .row 32 (.int .u32) a2], .one (.sc (.int .i64 a3))] [] (sig_What.R r) [] := by
  unfold sig_What.f at h
  refine fun_of_run cfg_ok (f := 13) (fn := Tryd.f13) Tryd.func13 rfl (by kernel_rfl) (rs := [.tmp 4]) rfl (nt := 34) rfl (l := fin) (k := (.call true [] (Bool) (fun t1 => sig_signal.R t1) (fun t1 => (.br (.adj [] (.adj [] (.adj [.drop 0] .nil))) (.br (.one true (.one true (.one true (.one true (.one true (.one true (.one true (.one true (.one true (.call true [] (Int) (fun t4 => sig_plain.R t4) (fun t4 => (.adj [] (.adj [.drop 0] .nil))))))))))))) (.one false (.one false (.br (.one true (.one true (.one true (.one true (.one true (.one true (.call true [] (Int) (fun t6 => sig_plain.R t6) (fun t6 => (.adj [] (.adj [.drop 0] .nil)))))))))) (.one false (.one false (.one false (.one false (.one false (.br (.call true [] (Int) (fun t8 => sig_plain.R t8) (fun t8 => (.adj [] (.adj [.drop 0] .nil)))) (.br (.adj [] (.adj [] (.adj [.drop 0] .nil))) (.br (.adj [] (.adj [] (.adj [.drop 0] .nil))) (.adj [] (.adj [] (.adj [] (.adj [.drop 0] .nil)))))))))))))))))))) (to_goal (q := (∃ t1 : Bool, (Fun cfg 28 [.one (.sc (.int .i64 a3))] [] (sig_signal.R t1) [] ∧ True) ∧ (((!t1) = true → (True ∧ (True ∧ ((True) ∧ ((True) ∧ True) ∧ (.v (.one (.sc (.int .i64 (0 : Int)))) : Tm) = sig_What.R r ∧ ([] : List Box) = [])))) ∧ ((!t1) = false → (True) ∧ (((a3 == (9 : Int)) = false → ((a3 == (9 : Int)) = false ∧ (True) ∧ ((a3 == (9 : Int)) = false ∧ (((a3 == (19 : Int)) = false → ((a3 == (19 : Int)) = false ∧ ((a3 == (19 : Int)) = false ∧ (0 ≤ a3 ∧ a3 < ((32 : Nat) : Int)) ∧ ((a3 == (19 : Int)) = false ∧ ((Int.toNat a3) < 32) ∧ ((a3 == (19 : Int)) = false ∧ (True) ∧ ((a3 == (19 : Int)) = false ∧ ((((List.getD a2 (Int.toNat a3) (0 : Int)) == (0 : Int)) = true → (∃ t8 : Int, (Fun cfg 34 [.one (.sc (.int .i64 a3))] [] (sig_plain.R t8) [] ∧ True) ∧ (True ∧ ((True) ∧ ((True) ∧ True) ∧ (.v (.one (.sc (.int .i64 t8))) : Tm) = sig_What.R r ∧ ([] : List Box) = [])))) ∧ (((List.getD a2 (Int.toNat a3) (0 : Int)) == (0 : Int)) = false → (0 ≤ a3 ∧ a3 < ((32 : Nat) : Int)) ∧ ((Int.toNat a3) < 32) ∧ (True) ∧ (((decide ((List.getD a2 (Int.toNat a3) (0 : Int)) > (1 : Int))) = true → (True ∧ (True ∧ ((True) ∧ ((True) ∧ True) ∧ (.v (.one (.sc (.int .i64 (4 : Int)))) : Tm) = sig_What.R r ∧ ([] : List Box) = [])))) ∧ ((decide ((List.getD a2 (Int.toNat a3) (0 : Int)) > (1 : Int))) = false → (True) ∧ (((a3 == (18 : Int)) = true → (True ∧ (True ∧ ((True) ∧ ((True) ∧ True) ∧ (.v (.one (.sc (.int .i64 (3 : Int)))) : Tm) = sig_What.R r ∧ ([] : List Box) = [])))) ∧ ((a3 == (18 : Int)) = false → (True ∧ (True ∧ (True ∧ ((True) ∧ ((True) ∧ True) ∧ (.v (.one (.sc (.int .i64 (0 : Int)))) : Tm) = sig_What.R r ∧ ([] : List Box) = [])))))))))))))))) ∧ ((a3 == (19 : Int)) = true → ((a3 == (19 : Int)) = true ∧ ((a3 == (19 : Int)) = true ∧ ((a3 == (19 : Int)) = true ∧ ((a3 == (19 : Int)) = true ∧ ((a3 == (19 : Int)) = true ∧ (true = true ∧ (∃ t6 : Int, (Fun cfg 34 [.one (.sc (.int .i64 a3))] [] (sig_plain.R t6) [] ∧ True) ∧ (True ∧ ((True) ∧ ((True) ∧ True) ∧ (.v (.one (.sc (.int .i64 t6))) : Tm) = sig_What.R r ∧ ([] : List Box) = [])))))))))))))) ∧ ((a3 == (9 : Int)) = true → ((a3 == (9 : Int)) = true ∧ ((a3 == (9 : Int)) = true ∧ (true = true ∧ (true = true ∧ (true = true ∧ (true = true ∧ (true = true ∧ (true = true ∧ (true = true ∧ (∃ t4 : Int, (Fun cfg 34 [.one (.sc (.int .i64 a3))] [] (sig_plain.R t4) [] ∧ True) ∧ (True ∧ ((True) ∧ ((True) ∧ True) ∧ (.v (.one (.sc (.int .i64 t4))) : Tm) = sig_What.R r ∧ ([] : List Box) = [])))))))))))))))))) (by kernel_rfl) ?_)
  obtain ⟨t1, ht1, h⟩ := of_bind h
  refine ⟨t1, ⟨sig_signal.fun_ ht1, trivial⟩, ?_⟩
  refine ⟨fun b2 => ?_, fun b2 => ?_⟩
  · rw [if_pos (ff (not_t b2))] at h
    refine ⟨trivial, ?_⟩
    refine ⟨trivial, ?_⟩
    obtain rfl := Option.some.inj h
    exact ⟨trivial, ⟨trivial, trivial⟩, rfl, rfl⟩
  · rw [if_neg (not_not_intro (not_f b2))] at h
    refine ⟨trivial, ?_⟩
    refine ⟨fun b3 => ?_, fun b3 => ?_⟩
    · rw [if_neg (beq_f b3)] at h
      refine ⟨b3, ?_⟩
      refine ⟨trivial, ?_⟩
      refine ⟨b3, ?_⟩
      refine ⟨fun b5 => ?_, fun b5 => ?_⟩
      · rw [if_neg (beq_f b5)] at h
        refine ⟨b5, ?_⟩
        refine ⟨b5, ?_⟩
        obtain ⟨g14, h⟩ := of_guard h
        refine ⟨g14, ?_⟩
        refine ⟨b5, ?_⟩
        obtain ⟨g13, h⟩ := of_guard h
        refine ⟨g13, ?_⟩
        refine ⟨b5, ?_⟩
        refine ⟨trivial, ?_⟩
        refine ⟨b5, ?_⟩
        refine ⟨fun b7 => ?_, fun b7 => ?_⟩
        · rw [if_pos (beq_t b7)] at h
          obtain ⟨t8, ht8, h⟩ := of_bind h
          refine ⟨t8, ⟨sig_plain.fun_ ht8, trivial⟩, ?_⟩
          refine ⟨trivial, ?_⟩
          obtain rfl := Option.some.inj h
          exact ⟨trivial, ⟨trivial, trivial⟩, rfl, rfl⟩
        · rw [if_neg (beq_f b7)] at h
          obtain ⟨g12, h⟩ := of_guard h
          refine ⟨g12, ?_⟩
          obtain ⟨g11, h⟩ := of_guard h
          refine ⟨g11, ?_⟩
          refine ⟨trivial, ?_⟩
          refine ⟨fun b9 => ?_, fun b9 => ?_⟩
          · rw [if_pos (of_decide_eq_true b9)] at h
            refine ⟨trivial, ?_⟩
            refine ⟨trivial, ?_⟩
            obtain rfl := Option.some.inj h
            exact ⟨trivial, ⟨trivial, trivial⟩, rfl, rfl⟩
          · rw [if_neg (of_decide_eq_false b9)] at h
            refine ⟨trivial, ?_⟩
            refine ⟨fun b10 => ?_, fun b10 => ?_⟩
            · rw [if_pos (beq_t b10)] at h
              refine ⟨trivial, ?_⟩
              refine ⟨trivial, ?_⟩
              obtain rfl := Option.some.inj h
              exact ⟨trivial, ⟨trivial, trivial⟩, rfl, rfl⟩
            · rw [if_neg (beq_f b10)] at h
              refine ⟨trivial, ?_⟩
              refine ⟨trivial, ?_⟩
              refine ⟨trivial, ?_⟩
              obtain rfl := Option.some.inj h
              exact ⟨trivial, ⟨trivial, trivial⟩, rfl, rfl⟩
      · rw [if_pos (beq_t b5)] at h
        refine ⟨b5, ?_⟩
        refine ⟨b5, ?_⟩
        refine ⟨b5, ?_⟩
        refine ⟨b5, ?_⟩
        refine ⟨b5, ?_⟩
        refine ⟨rfl, ?_⟩
        obtain ⟨t6, ht6, h⟩ := of_bind h
        refine ⟨t6, ⟨sig_plain.fun_ ht6, trivial⟩, ?_⟩
        refine ⟨trivial, ?_⟩
        obtain rfl := Option.some.inj h
        exact ⟨trivial, ⟨trivial, trivial⟩, rfl, rfl⟩
    · rw [if_pos (beq_t b3)] at h
      refine ⟨b3, ?_⟩
      refine ⟨b3, ?_⟩
      refine ⟨rfl, ?_⟩
      refine ⟨rfl, ?_⟩
      refine ⟨rfl, ?_⟩
      refine ⟨rfl, ?_⟩
      refine ⟨rfl, ?_⟩
      refine ⟨rfl, ?_⟩
      refine ⟨rfl, ?_⟩
      obtain ⟨t4, ht4, h⟩ := of_bind h
      refine ⟨t4, ⟨sig_plain.fun_ ht4, trivial⟩, ?_⟩
      refine ⟨trivial, ?_⟩
      obtain rfl := Option.some.inj h
      exact ⟨trivial, ⟨trivial, trivial⟩, rfl, rfl⟩
/-! halter/sig.Post -/
def sig_Post.f (a0 : Int) (a1 : Int) (a2 : (List Int)) (a3 : Int) : Option (Int × Int × (List Int) × (Option Int)) :=
  (sig_Check.f a0 a1 a2).bind fun t1 =>
  if ¬ (t1 = none) then
    some ((0 : Int), (0 : Int), (List.replicate 32 (0 : Int)), (some (22 : Int)))
  else
    (sig_signal.f a3).bind fun t3 =>
    if ¬ (t3 = true) then
      some ((0 : Int), (0 : Int), (List.replicate 32 (0 : Int)), (some (22 : Int)))
    else
      (sig_against.f a3).bind fun t5 =>
      (sigset_Has.f a1 a3).bind fun t6 =>
      if t6 = true then
        (sigset_Add.f (bits .andNot .u32 a0 t5) a3).bind fun t8 =>
        some (t8, a1, a2, none)
      else
        (sig_What.f (bits .andNot .u32 a0 t5) a1 a2 a3).bind fun t9 =>
        if ¬ t9 = (0 : Int) then
          (sigset_Add.f (bits .andNot .u32 a0 t5) a3).bind fun t11 =>
          some (t11, a1, a2, none)
        else
          some ((bits .andNot .u32 a0 t5), a1, a2, none)
def sig_Post.R (r : Int × Int × (List Int) × (Option Int)) : Tm := .tup [.agg [.c (.sc (.int .u32 r.1)), .c (.sc (.int .u32 r.2.1)), .row 32 (.int .u32) r.2.2.1], .one (.err r.2.2.2)]
theorem sig_Post.fun_ {a0 : Int} {a1 : Int} {a2 : (List Int)} {a3 : Int} {r : Int × Int × (List Int) × (Option Int)} (h : sig_Post.f a0 a1 a2 a3 = some r) : Fun cfg 8 [.agg [.c (.sc (.int .u32 a0)), .c (.sc (.int .u32 a1)), .row 32 (.int .u32) a2], .one (.sc (.int .i64 a3))] [] (sig_Post.R r) [] := by
  unfold sig_Post.f at h
  refine fun_of_run cfg_ok (f := 8) (fn := Tryd.f8) Tryd.func8 rfl (by kernel_rfl) (rs := [.cell 4 27, .tmp 5]) rfl (nt := 38) rfl (l := fin) (k := (.call true [] ((Option Int)) (fun t1 => sig_Check.R t1) (fun t1 => (.br (.one true (.one true (.one true (.one true (.adj [] (.adj [] (.adj [.drop 0] .nil))))))) (.one false (.call true [] (Bool) (fun t3 => sig_signal.R t3) (fun t3 => (.one false (.one false (.br (.adj [] (.adj [] (.adj [.drop 0] .nil))) (.ex (Int) (fun t5 => (.dr [(0, ⟨none, .no⟩), (2, ⟨none, .no⟩), (3, ⟨none, .callP true [] (sig_against.R t5)⟩), (1, ⟨none, .no⟩), (4, ⟨none, .no⟩), (5, ⟨none, .no⟩), (6, ⟨none, .no⟩)] (.call true [] (Bool) (fun t6 => sigset_Has.R t6) (fun t6 => (.br (.one true (.one true (.one true (.one true (.one true (.call true [] (Int) (fun t8 => sigset_Add.R t8) (fun t8 => (.adj [] (.adj [] (.adj [.drop 0] .nil)))))))))) (.one false (.one false (.call true [] (Int) (fun t9 => sig_What.R t9) (fun t9 => (.one false (.one false (.br (.call true [] (Int) (fun t11 => sigset_Add.R t11) (fun t11 => (.adj [] (.adj [] (.adj [.drop 0] .nil))))) (.adj [] (.adj [] (.adj [] (.adj [.drop 0] .nil))))))))))))))))))))))))))) (to_goal (q := (True) ∧ (∃ t1 : (Option Int), (Fun cfg 14 [.agg [.c (.sc (.int .u32 a0)), .c (.sc (.int .u32 a1)), .row 32 (.int .u32) a2]] [] (sig_Check.R t1) [] ∧ True) ∧ (True) ∧ (((!(Option.isNone t1)) = false → ((!(Option.isNone t1)) = false ∧ (∃ t3 : Bool, (Fun cfg 28 [.one (.sc (.int .i64 a3))] [] (sig_signal.R t3) [] ∧ True) ∧ ((!(Option.isNone t1)) = false ∧ ((!(Option.isNone t1)) = false ∧ (((!t3) = true → (True ∧ (True) ∧ (True ∧ (((True) ∧ True) ∧ ((True) ∧ True) ∧ (.tup [.agg [.c (.sc (.int .u32 (0 : Int))), .c (.sc (.int .u32 (0 : Int))), .row 32 (.int .u32) (List.replicate 32 (0 : Int))], .one (.err (some (22 : Int)))] : Tm) = sig_Post.R r ∧ ([] : List Box) = [])))) ∧ ((!t3) = false → (∃ t5 : Int, (Fun cfg 29 [.one (.sc (.int .i64 a3))] [] (sig_against.R t5) [] ∧ True) ∧ (True) ∧ (True) ∧ (True) ∧ (True) ∧ (∃ t6 : Bool, (Fun cfg 11 [.one (.sc (.int .u32 a1)), .one (.sc (.int .i64 a3))] [] (sigset_Has.R t6) [] ∧ True) ∧ ((t6 = false → (True) ∧ (t6 = false ∧ (t6 = false ∧ (∃ t9 : Int, (Fun cfg 13 [.agg [.c (.sc (.int .u32 (bits .andNot .u32 a0 t5))), .c (.sc (.int .u32 a1)), .row 32 (.int .u32) a2], .one (.sc (.int .i64 a3))] [] (sig_What.R t9) [] ∧ True) ∧ (t6 = false ∧ (True) ∧ (t6 = false ∧ (((t9 != (0 : Int)) = true → (True) ∧ (∃ t11 : Int, (Fun cfg 30 [.one (.sc (.int .u32 (bits .andNot .u32 a0 t5))), .one (.sc (.int .i64 a3))] [] (sigset_Add.R t11) [] ∧ True) ∧ (True) ∧ (True ∧ (True) ∧ (True) ∧ (True ∧ (((True) ∧ True) ∧ ((True) ∧ True) ∧ (.tup [.agg [.c (.sc (.int .u32 t11)), .c (.sc (.int .u32 a1)), .row 32 (.int .u32) a2], .one (.err none)] : Tm) = sig_Post.R r ∧ ([] : List Box) = []))))) ∧ ((t9 != (0 : Int)) = false → (True ∧ (True ∧ (True) ∧ (True) ∧ (True ∧ (((True) ∧ True) ∧ ((True) ∧ True) ∧ (.tup [.agg [.c (.sc (.int .u32 (bits .andNot .u32 a0 t5))), .c (.sc (.int .u32 a1)), .row 32 (.int .u32) a2], .one (.err none)] : Tm) = sig_Post.R r ∧ ([] : List Box) = [])))))))))))) ∧ (t6 = true → (t6 = true ∧ (t6 = true ∧ (t6 = true ∧ (t6 = true ∧ (true = true ∧ (True) ∧ (∃ t8 : Int, (Fun cfg 30 [.one (.sc (.int .u32 (bits .andNot .u32 a0 t5))), .one (.sc (.int .i64 a3))] [] (sigset_Add.R t8) [] ∧ True) ∧ (True) ∧ (True ∧ (True) ∧ (True) ∧ (True ∧ (((True) ∧ True) ∧ ((True) ∧ True) ∧ (.tup [.agg [.c (.sc (.int .u32 t8)), .c (.sc (.int .u32 a1)), .row 32 (.int .u32) a2], .one (.err none)] : Tm) = sig_Post.R r ∧ ([] : List Box) = [])))))))))))))))))))) ∧ ((!(Option.isNone t1)) = true → ((!(Option.isNone t1)) = true ∧ ((!(Option.isNone t1)) = true ∧ ((!(Option.isNone t1)) = true ∧ (true = true ∧ (True ∧ (True) ∧ (True ∧ (((True) ∧ True) ∧ ((True) ∧ True) ∧ (.tup [.agg [.c (.sc (.int .u32 (0 : Int))), .c (.sc (.int .u32 (0 : Int))), .row 32 (.int .u32) (List.replicate 32 (0 : Int))], .one (.err (some (22 : Int)))] : Tm) = sig_Post.R r ∧ ([] : List Box) = []))))))))))) (by kernel_rfl) ?_)
  refine ⟨trivial, ?_⟩
  obtain ⟨t1, ht1, h⟩ := of_bind h
  refine ⟨t1, ⟨sig_Check.fun_ ht1, trivial⟩, ?_⟩
  refine ⟨trivial, ?_⟩
  refine ⟨fun b2 => ?_, fun b2 => ?_⟩
  · rw [if_neg (not_not_intro (none_t (not_f b2)))] at h
    refine ⟨b2, ?_⟩
    obtain ⟨t3, ht3, h⟩ := of_bind h
    refine ⟨t3, ⟨sig_signal.fun_ ht3, trivial⟩, ?_⟩
    refine ⟨b2, ?_⟩
    refine ⟨b2, ?_⟩
    refine ⟨fun b4 => ?_, fun b4 => ?_⟩
    · rw [if_pos (ff (not_t b4))] at h
      refine ⟨trivial, ?_⟩
      refine ⟨trivial, ?_⟩
      refine ⟨trivial, ?_⟩
      obtain rfl := Option.some.inj h
      exact ⟨⟨trivial, trivial⟩, ⟨trivial, trivial⟩, rfl, rfl⟩
    · rw [if_neg (not_not_intro (not_f b4))] at h
      obtain ⟨t5, ht5, h⟩ := of_bind h
      refine ⟨t5, ?_⟩
      refine ⟨⟨sig_against.fun_ ht5, trivial⟩, trivial, trivial, trivial, ?_⟩
      refine ⟨trivial, ?_⟩
      obtain ⟨t6, ht6, h⟩ := of_bind h
      refine ⟨t6, ⟨sigset_Has.fun_ ht6, trivial⟩, ?_⟩
      refine ⟨fun b7 => ?_, fun b7 => ?_⟩
      · rw [if_neg (ff b7)] at h
        refine ⟨trivial, ?_⟩
        refine ⟨b7, ?_⟩
        refine ⟨b7, ?_⟩
        obtain ⟨t9, ht9, h⟩ := of_bind h
        refine ⟨t9, ⟨sig_What.fun_ ht9, trivial⟩, ?_⟩
        refine ⟨b7, ?_⟩
        refine ⟨trivial, ?_⟩
        refine ⟨b7, ?_⟩
        refine ⟨fun b10 => ?_, fun b10 => ?_⟩
        · rw [if_pos (bne_t b10)] at h
          refine ⟨trivial, ?_⟩
          obtain ⟨t11, ht11, h⟩ := of_bind h
          refine ⟨t11, ⟨sigset_Add.fun_ ht11, trivial⟩, ?_⟩
          refine ⟨trivial, ?_⟩
          refine ⟨trivial, ?_⟩
          refine ⟨trivial, ?_⟩
          refine ⟨trivial, ?_⟩
          refine ⟨trivial, ?_⟩
          obtain rfl := Option.some.inj h
          exact ⟨⟨trivial, trivial⟩, ⟨trivial, trivial⟩, rfl, rfl⟩
        · rw [if_neg (not_not_intro (bne_f b10))] at h
          refine ⟨trivial, ?_⟩
          refine ⟨trivial, ?_⟩
          refine ⟨trivial, ?_⟩
          refine ⟨trivial, ?_⟩
          refine ⟨trivial, ?_⟩
          obtain rfl := Option.some.inj h
          exact ⟨⟨trivial, trivial⟩, ⟨trivial, trivial⟩, rfl, rfl⟩
      · rw [if_pos b7] at h
        refine ⟨b7, ?_⟩
        refine ⟨b7, ?_⟩
        refine ⟨b7, ?_⟩
        refine ⟨b7, ?_⟩
        refine ⟨rfl, ?_⟩
        refine ⟨trivial, ?_⟩
        obtain ⟨t8, ht8, h⟩ := of_bind h
        refine ⟨t8, ⟨sigset_Add.fun_ ht8, trivial⟩, ?_⟩
        refine ⟨trivial, ?_⟩
        refine ⟨trivial, ?_⟩
        refine ⟨trivial, ?_⟩
        refine ⟨trivial, ?_⟩
        refine ⟨trivial, ?_⟩
        obtain rfl := Option.some.inj h
        exact ⟨⟨trivial, trivial⟩, ⟨trivial, trivial⟩, rfl, rfl⟩
  · rw [if_pos (none_f (not_t b2))] at h
    refine ⟨b2, ?_⟩
    refine ⟨b2, ?_⟩
    refine ⟨b2, ?_⟩
    refine ⟨rfl, ?_⟩
    refine ⟨trivial, ?_⟩
    refine ⟨trivial, ?_⟩
    refine ⟨trivial, ?_⟩
    obtain rfl := Option.some.inj h
    exact ⟨⟨trivial, trivial⟩, ⟨trivial, trivial⟩, rfl, rfl⟩
/-! halter/halterref03.List -/
def halterref03_List.l0 : Nat → (List Int) → Int → Int → Option (List Int)
  | 0, _, _, _ => none
  | n + 1, x10, x11, x12 =>
    if x12 ≤ (31 : Int) then
      if (Int.tmod x11 (2 : Int)) = (1 : Int) then
        if (0 = 0 ∧ 1 = 1) ∧ 0 = 0 ∧ (List.length x10) = (List.length x10) ∧ (((List.length x10) + 1) * 8 ≤ 140737488355328 ∧ (List.length x10) + 1 ≤ 9223372036854775807) then
          halterref03_List.l0 n (x10 ++ [x12]) (IntKind.wrap .u32 (Int.tdiv x11 (2 : Int))) (IntKind.wrap .i64 (x12 + (1 : Int)))
        else none
      else
        halterref03_List.l0 n x10 (IntKind.wrap .u32 (Int.tdiv x11 (2 : Int))) (IntKind.wrap .i64 (x12 + (1 : Int)))
    else
      some x10
def halterref03_List.l0_S (x10 : List Int) (x11 : Int) (x12 : Int) : St := ⟨[.v (.one (.sc (.int .u32 x11))), .any, .any, .v (.one (.os 0 0 0 1 (List.length x10) none)), .v (.one (.sc (.int .i64 x12))), .any, .any, .any, .any, .any, .any, .any, .any, .any, .any, .any, .any, .any, .any], [.gro false (.int .i64) x10 3], 0⟩
def halterref03_List.l0_Q (t : (List Int)) : Exit → St → Prop := fun e s => e = (.exit 0) ∧ s = ⟨[.any, .any, .any, .v (.one (.os 0 0 0 1 (List.length t) none)), .any, .any, .any, .any, .any, .any, .any, .any, .any, .any, .any, .any, .any, .any, .any], [.gro false (.int .i64) t 3], 0⟩
theorem halterref03_List.l0_ok : ∀ (n : Nat) (x10 : List Int) (x11 : Int) (x12 : Int) (r : (List Int)), halterref03_List.l0 n x10 x11 x12 = some r → TripN cfg (cpath (Tryd.f39.body.getD .skip) [1, 1, 0, 1, 0, 0]) n (halterref03_List.l0_S x10 x11 x12) (halterref03_List.l0_Q r) := by
  intro n
  induction n with
  | zero => intro x10 x11 x12 r h; cases h
  | succ n ih =>
    intro x10 x11 x12 r h
    rw [halterref03_List.l0] at h
    refine TripN.of_run cfg_ok (k := (.br (.br (.d (.b true) (.adj [] (.adj [] (.adj [.keep [0, 3, 4], .drop 1] .nil)))) (.adj [] (.adj [] (.adj [] (.adj [.keep [0, 3, 4], .drop 1] .nil))))) (.adj [.keep [3], .drop 1] .nil))) (to_goal (q := (True) ∧ (((decide (x12 ≤ (31 : Int))) = true → ((2 : Int) ≠ 0) ∧ (True) ∧ ((((Int.tmod x11 (2 : Int)) == (1 : Int)) = true → ((0 = 0 ∧ 1 = 1) ∧ 0 = 0 ∧ (List.length x10) = (List.length x10) ∧ (((List.length x10) + 1) * 8 ≤ 140737488355328 ∧ (List.length x10) + 1 ≤ 9223372036854775807)) ∧ (True ∧ ((2 : Int) ≠ 0) ∧ (True ∧ (True) ∧ (((True) ∧ (True) ∧ True) ∧ TripN cfg (cpath (Tryd.f39.body.getD .skip) [1, 1, 0, 1, 0, 0]) n (halterref03_List.l0_S (x10 ++ [x12]) (IntKind.wrap .u32 (Int.tdiv x11 (2 : Int))) (IntKind.wrap .i64 (x12 + (1 : Int)))) (halterref03_List.l0_Q r))))) ∧ (((Int.tmod x11 (2 : Int)) == (1 : Int)) = false → (True ∧ (True ∧ ((2 : Int) ≠ 0) ∧ (True ∧ (True) ∧ (((True) ∧ (True) ∧ True) ∧ TripN cfg (cpath (Tryd.f39.body.getD .skip) [1, 1, 0, 1, 0, 0]) n (halterref03_List.l0_S x10 (IntKind.wrap .u32 (Int.tdiv x11 (2 : Int))) (IntKind.wrap .i64 (x12 + (1 : Int)))) (halterref03_List.l0_Q r)))))))) ∧ ((decide (x12 ≤ (31 : Int))) = false → (((True) ∧ (True) ∧ True) ∧ halterref03_List.l0_Q r (.exit 0) ⟨[.any, .any, .any, .v (.one (.os 0 0 0 1 (List.length x10) none)), .any, .any, .any, .any, .any, .any, .any, .any, .any, .any, .any, .any, .any, .any, .any], [.gro false (.int .i64) x10 3], 0⟩)))) (by kernel_rfl) ?_)
    refine ⟨trivial, ?_⟩
    refine ⟨fun b18 => ?_, fun b18 => ?_⟩
    · rw [if_pos (of_decide_eq_true b18)] at h
      refine ⟨(by decide), ?_⟩
      refine ⟨trivial, ?_⟩
      refine ⟨fun b19 => ?_, fun b19 => ?_⟩
      · rw [if_pos (beq_t b19)] at h
        obtain ⟨g20, h⟩ := of_guard h
        refine ⟨g20, ?_⟩
        refine ⟨trivial, ?_⟩
        refine ⟨(by decide), ?_⟩
        refine ⟨trivial, ?_⟩
        refine ⟨trivial, ?_⟩
        exact ⟨⟨trivial, trivial, trivial⟩, ih (x10 ++ [x12]) (IntKind.wrap .u32 (Int.tdiv x11 (2 : Int))) (IntKind.wrap .i64 (x12 + (1 : Int))) r h⟩
      · rw [if_neg (beq_f b19)] at h
        refine ⟨trivial, ?_⟩
        refine ⟨trivial, ?_⟩
        refine ⟨(by decide), ?_⟩
        refine ⟨trivial, ?_⟩
        refine ⟨trivial, ?_⟩
        exact ⟨⟨trivial, trivial, trivial⟩, ih x10 (IntKind.wrap .u32 (Int.tdiv x11 (2 : Int))) (IntKind.wrap .i64 (x12 + (1 : Int))) r h⟩
    · rw [if_neg (of_decide_eq_false b18)] at h
      obtain rfl := Option.some.inj h
      exact ⟨⟨trivial, trivial, trivial⟩, rfl, rfl⟩
def halterref03_List.f (a0 : Int) : Option (List Int) :=
  (halterref03_List.l0 FUEL ([] : List Int) a0 (1 : Int)).bind fun t17 =>
  some t17
def halterref03_List.R (r : (List Int)) : Tm := .v (.one (.os 0 0 0 1 (List.length r) none))
def halterref03_List.B (a0 : Int) (r : (List Int)) : List Box := [.gro false (.int .i64) r 3]
theorem halterref03_List.fun_ {a0 : Int} {r : (List Int)} (h : halterref03_List.f a0 = some r) : Fun cfg 39 [.one (.sc (.int .u32 a0))] [] (halterref03_List.R r) (halterref03_List.B a0 r) := by
  unfold halterref03_List.f at h
  refine fun_of_run cfg_ok (f := 39) (fn := Tryd.f39) Tryd.func39 rfl (by kernel_rfl) (rs := [.tmp 2]) rfl (nt := 19) rfl (l := fin) (k := (.adj [] (.adj [] (.adj [] (.adj [.keep [0, 3, 4], .nilGro 3 (.int .i64) 3] (.sub ((List Int)) (fun _ => (.exit 0)) (fun t17 => ⟨[.any, .any, .any, .v (.one (.os 0 0 0 1 (List.length t17) none)), .any, .any, .any, .any, .any, .any, .any, .any, .any, .any, .any, .any, .any, .any, .any], [.gro false (.int .i64) t17 3], 0⟩) (fun t17 => (.adj [] (.adj [] (.adj [] .nil)))))))))) (to_goal (q := (True ∧ (True ∧ (True ∧ (((True) ∧ (True) ∧ True) ∧ (∃ t17 : (List Int), Trip cfg (.loop (cpath (Tryd.f39.body.getD .skip) [1, 1, 0, 1, 0, 0])) ⟨[.v (.one (.sc (.int .u32 a0))), .any, .any, .v (.one (.os 0 0 0 1 0 none)), .v (.one (.sc (.int .i64 (1 : Int)))), .any, .any, .any, .any, .any, .any, .any, .any, .any, .any, .any, .any, .any, .any], [.gro false (.int .i64) ([] : List Int) 3], 0⟩ (fun e s => e = (.exit 0) ∧ s = ⟨[.any, .any, .any, .v (.one (.os 0 0 0 1 (List.length t17) none)), .any, .any, .any, .any, .any, .any, .any, .any, .any, .any, .any, .any, .any, .any, .any], [.gro false (.int .i64) t17 3], 0⟩) ∧ (True ∧ (True ∧ ((True) ∧ (True) ∧ (.v (.one (.os 0 0 0 1 (List.length t17) none)) : Tm) = halterref03_List.R r ∧ ([.gro false (.int .i64) t17 3] : List Box) = halterref03_List.B a0 r))))))))) (by kernel_rfl) ?_)
  refine ⟨trivial, ?_⟩
  refine ⟨trivial, ?_⟩
  refine ⟨trivial, ?_⟩
  obtain ⟨t17, ht17, h⟩ := of_bind h
  refine ⟨⟨trivial, trivial, trivial⟩, t17, Trip.loop FUEL (halterref03_List.l0_ok FUEL ([] : List Int) a0 (1 : Int) t17 ht17), ?_⟩
  refine ⟨trivial, ?_⟩
  refine ⟨trivial, ?_⟩
  obtain rfl := Option.some.inj h
  exact ⟨trivial, trivial, rfl, rfl⟩
/-! halter/halterref03.Has -/
def halterref03_Has.l0 (t1 : (List Int)) (a1 : Int) : Nat → Int → Option ((Unit) ⊕ (Unit))
  | 0, _ => none
  | n + 1, x2 =>
    if x2 < (((List.length t1) : Nat) : Int) then
      if 0 ≤ x2 ∧ x2 < (((List.length t1) : Nat) : Int) then
        if (0 + (Int.toNat x2)) < (List.length t1) then
          if (List.getD t1 (0 + (Int.toNat x2)) (0 : Int)) = a1 then
            some (.inr ())
          else
            halterref03_Has.l0 t1 a1 n (IntKind.wrap .i64 (x2 + (1 : Int)))
        else none
      else none
    else
      some (.inl ())
def halterref03_Has.l0_S (t1 : (List Int)) (a1 : Int) (x2 : Int) : St := ⟨[.any, .v (.one (.sc (.int .i64 a1))), .any, .any, .any, .v (.one (.os 0 0 0 1 (List.length t1) none)), .v (.one (.sc (.int .i64 x2))), .any, .any, .any, .any, .any, .any, .any, .any, .any, .any, .any, .any, .any, .any], [.gro false (.int .i64) t1 3], 0⟩
def halterref03_Has.l0_Q (t1 : (List Int)) (a1 : Int) : (Unit) ⊕ (Unit) → Exit → St → Prop
  | .inl t => fun e s => e = (.exit 0) ∧ s = ⟨[.any, .any, .any, .any, .any, .any, .any, .any, .any, .any, .any, .any, .any, .any, .any, .any, .any, .any, .any, .any, .any], [.gro false (.int .i64) t1 3], 0⟩
  | .inr t => fun e s => e = .ret ∧ s = ⟨[.any, .any, .any, .any, .v (.one (.sc (.bool true))), .any, .any, .any, .any, .any, .any, .any, .any, .any, .any, .any, .any, .any, .any, .any, .any], [.gro false (.int .i64) t1 3], 0⟩
theorem halterref03_Has.l0_ok (t1 : (List Int)) (a1 : Int) : ∀ (n : Nat) (x2 : Int) (r : (Unit) ⊕ (Unit)), halterref03_Has.l0 t1 a1 n x2 = some r → TripN cfg (cpath (Tryd.f36.body.getD .skip) [1, 1, 0, 1, 0, 0]) n (halterref03_Has.l0_S t1 a1 x2) (halterref03_Has.l0_Q t1 a1 r) := by
  intro n
  induction n with
  | zero => intro x2 r h; cases h
  | succ n ih =>
    intro x2 r h
    rw [halterref03_Has.l0] at h
    refine TripN.of_run cfg_ok (k := (.br (.br (.adj [] (.adj [.keep [4], .drop 1] .nil)) (.adj [] (.adj [] (.adj [.keep [1, 5, 6], .drop 1] .nil)))) (.adj [.keep [], .drop 1] .nil))) (to_goal (q := (True) ∧ (True) ∧ (((decide (x2 < (((List.length t1) : Nat) : Int))) = true → (0 ≤ x2 ∧ x2 < (((List.length t1) : Nat) : Int)) ∧ ((0 + (Int.toNat x2)) < (List.length t1)) ∧ (True) ∧ ((((List.getD t1 (0 + (Int.toNat x2)) (0 : Int)) == a1) = true → (True ∧ (((True) ∧ (True) ∧ True) ∧ halterref03_Has.l0_Q t1 a1 r .ret ⟨[.any, .any, .any, .any, .v (.one (.sc (.bool true))), .any, .any, .any, .any, .any, .any, .any, .any, .any, .any, .any, .any, .any, .any, .any, .any], [.gro false (.int .i64) t1 3], 0⟩))) ∧ (((List.getD t1 (0 + (Int.toNat x2)) (0 : Int)) == a1) = false → (True ∧ (True ∧ (True) ∧ (((True) ∧ (True) ∧ True) ∧ TripN cfg (cpath (Tryd.f36.body.getD .skip) [1, 1, 0, 1, 0, 0]) n (halterref03_Has.l0_S t1 a1 (IntKind.wrap .i64 (x2 + (1 : Int)))) (halterref03_Has.l0_Q t1 a1 r))))))) ∧ ((decide (x2 < (((List.length t1) : Nat) : Int))) = false → (((True) ∧ (True) ∧ True) ∧ halterref03_Has.l0_Q t1 a1 r (.exit 0) ⟨[.any, .any, .any, .any, .any, .any, .any, .any, .any, .any, .any, .any, .any, .any, .any, .any, .any, .any, .any, .any, .any], [.gro false (.int .i64) t1 3], 0⟩)))) (by kernel_rfl) ?_)
    refine ⟨trivial, ?_⟩
    refine ⟨trivial, ?_⟩
    refine ⟨fun b8 => ?_, fun b8 => ?_⟩
    · rw [if_pos (of_decide_eq_true b8)] at h
      obtain ⟨g11, h⟩ := of_guard h
      refine ⟨g11, ?_⟩
      obtain ⟨g10, h⟩ := of_guard h
      refine ⟨g10, ?_⟩
      refine ⟨trivial, ?_⟩
      refine ⟨fun b9 => ?_, fun b9 => ?_⟩
      · rw [if_pos (beq_t b9)] at h
        refine ⟨trivial, ?_⟩
        obtain rfl := Option.some.inj h
        exact ⟨⟨trivial, trivial, trivial⟩, rfl, rfl⟩
      · rw [if_neg (beq_f b9)] at h
        refine ⟨trivial, ?_⟩
        refine ⟨trivial, ?_⟩
        refine ⟨trivial, ?_⟩
        exact ⟨⟨trivial, trivial, trivial⟩, ih (IntKind.wrap .i64 (x2 + (1 : Int))) r h⟩
    · rw [if_neg (of_decide_eq_false b8)] at h
      obtain rfl := Option.some.inj h
      exact ⟨⟨trivial, trivial, trivial⟩, rfl, rfl⟩
def halterref03_Has.f (a0 : Int) (a1 : Int) : Option Bool :=
  (halterref03_List.f a0).bind fun t1 =>
  (halterref03_Has.l0 t1 a1 FUEL (0 : Int)).bind fun t7 =>
  match t7 with
  | .inl t12 =>
    some false
  | .inr t13 =>
    some true
def halterref03_Has.R (r : Bool) : Tm := .v (.one (.sc (.bool r)))
theorem halterref03_Has.fun_ {a0 : Int} {a1 : Int} {r : Bool} (h : halterref03_Has.f a0 a1 = some r) : Fun cfg 36 [.one (.sc (.int .u32 a0)), .one (.sc (.int .i64 a1))] [] (halterref03_Has.R r) [] := by
  unfold halterref03_Has.f at h
  refine fun_of_run cfg_ok (f := 36) (fn := Tryd.f36) Tryd.func36 rfl (by kernel_rfl) (rs := [.tmp 4]) rfl (nt := 21) rfl (l := fin) (k := (.callR true [] [] ((List Int)) (fun t1 => (halterref03_List.R t1)) (fun t1 => (halterref03_List.B a0 t1)) (fun t1 => (.adj [] (.adj [.keep [1, 5, 6]] (.alt (.sub (Unit) (fun _ => (.exit 0)) (fun t12 => ⟨[.any, .any, .any, .any, .any, .any, .any, .any, .any, .any, .any, .any, .any, .any, .any, .any, .any, .any, .any, .any, .any], [.gro false (.int .i64) t1 3], 0⟩) (fun t12 => (.adj [] (.adj [] (.adj [.drop 0] .nil))))) (.sub (Unit) (fun _ => .ret) (fun t13 => ⟨[.any, .any, .any, .any, .v (.one (.sc (.bool true))), .any, .any, .any, .any, .any, .any, .any, .any, .any, .any, .any, .any, .any, .any, .any, .any], [.gro false (.int .i64) t1 3], 0⟩) (fun t13 => (.adj [.drop 0] .nil))))))))) (to_goal (q := (∃ t1 : (List Int), (Fun cfg 39 [.one (.sc (.int .u32 a0))] [] (halterref03_List.R t1) (halterref03_List.B a0 t1) ∧ True) ∧ (True ∧ (((True) ∧ True) ∧ ((∃ t12 : Unit, Trip cfg (.loop (cpath (Tryd.f36.body.getD .skip) [1, 1, 0, 1, 0, 0])) ⟨[.any, .v (.one (.sc (.int .i64 a1))), .any, .any, .any, .v (.one (.os 0 0 0 1 (List.length t1) none)), .v (.one (.sc (.int .i64 (0 : Int)))), .any, .any, .any, .any, .any, .any, .any, .any, .any, .any, .any, .any, .any, .any], [.gro false (.int .i64) t1 3], 0⟩ (fun e s => e = (.exit 0) ∧ s = ⟨[.any, .any, .any, .any, .any, .any, .any, .any, .any, .any, .any, .any, .any, .any, .any, .any, .any, .any, .any, .any, .any], [.gro false (.int .i64) t1 3], 0⟩) ∧ (True ∧ (True ∧ ((True) ∧ ((True) ∧ True) ∧ (.v (.one (.sc (.bool false))) : Tm) = halterref03_Has.R r ∧ ([] : List Box) = [])))) ∨ (∃ t13 : Unit, Trip cfg (.loop (cpath (Tryd.f36.body.getD .skip) [1, 1, 0, 1, 0, 0])) ⟨[.any, .v (.one (.sc (.int .i64 a1))), .any, .any, .any, .v (.one (.os 0 0 0 1 (List.length t1) none)), .v (.one (.sc (.int .i64 (0 : Int)))), .any, .any, .any, .any, .any, .any, .any, .any, .any, .any, .any, .any, .any, .any], [.gro false (.int .i64) t1 3], 0⟩ (fun e s => e = .ret ∧ s = ⟨[.any, .any, .any, .any, .v (.one (.sc (.bool true))), .any, .any, .any, .any, .any, .any, .any, .any, .any, .any, .any, .any, .any, .any, .any, .any], [.gro false (.int .i64) t1 3], 0⟩) ∧ ((True) ∧ ((True) ∧ True) ∧ (.v (.one (.sc (.bool true))) : Tm) = halterref03_Has.R r ∧ ([] : List Box) = []))))))) (by kernel_rfl) ?_)
  obtain ⟨t1, ht1, h⟩ := of_bind h
  refine ⟨t1, ⟨halterref03_List.fun_ ht1, trivial⟩, ?_⟩
  refine ⟨trivial, ?_⟩
  obtain ⟨t7, ht7, h⟩ := of_bind h
  refine ⟨⟨trivial, trivial⟩, ?_⟩
  rcases t7 with t12 | t13
  · dsimp only at h
    left
    refine ⟨t12, Trip.loop FUEL (halterref03_Has.l0_ok t1 a1 FUEL (0 : Int) (.inl t12) ht7), ?_⟩
    refine ⟨trivial, ?_⟩
    refine ⟨trivial, ?_⟩
    obtain rfl := Option.some.inj h
    exact ⟨trivial, ⟨trivial, trivial⟩, rfl, rfl⟩
  · dsimp only at h
    right
    refine ⟨t13, Trip.loop FUEL (halterref03_Has.l0_ok t1 a1 FUEL (0 : Int) (.inr t13) ht7), ?_⟩
    obtain rfl := Option.some.inj h
    exact ⟨trivial, ⟨trivial, trivial⟩, rfl, rfl⟩
/-! halter/halterref25.May -/
def halterref25_May.f (a0 : Int) (a1 : Int) (a2 : (List Int)) : Option Bool :=
  (halterref03_Has.f a1 (9 : Int)).bind fun t1 =>
  if ¬ (t1 = true) then
    (halterref03_Has.f a1 (19 : Int)).bind fun t3 =>
    if ¬ (t3 = true) then
      if (List.getD a2 0 (0 : Int)) = (0 : Int) then
        if (List.getD a2 9 (0 : Int)) = (0 : Int) then
          if (List.getD a2 19 (0 : Int)) = (0 : Int) then
            if a0 < (2147483648 : Int) then
              some (decide (a1 < (2147483648 : Int)))
            else
              some false
          else
            some false
        else
          some false
      else
        some false
    else
      some false
  else
    some false
def halterref25_May.R (r : Bool) : Tm := .v (.one (.sc (.bool r)))
theorem halterref25_May.fun_ {a0 : Int} {a1 : Int} {a2 : (List Int)} {r : Bool} (h : halterref25_May.f a0 a1 a2 = some r) : Fun cfg 27 [.agg [.c (.sc (.int .u32 a0)), .c (.sc (.int .u32 a1)), .row 32 (.int .u32) a2]] [] (halterref25_May.R r) [] := by
  unfold halterref25_May.f at h
  refine fun_of_run cfg_ok (f := 27) (fn := Tryd.f27) Tryd.func27 rfl (by kernel_rfl) (rs := [.tmp 2]) rfl (nt := 41) rfl (l := fin) (k := (.call true [] (Bool) (fun t1 => halterref03_Has.R t1) (fun t1 => (.br (.one true (.one true (.call true [] (Bool) (fun t3 => halterref03_Has.R t3) (fun t3 => (.one true (.one true (.br (.one true (.one true (.one true (.one true (.br (.one true (.one true (.one true (.one true (.br (.one true (.one true (.one true (.one true (.br (.one true (.one true (.one true (.br (.one true (.one true (.one true (.adj [] (.adj [.drop 0] .nil))))) (.one false (.one false (.one false (.adj [] (.adj [.drop 0] .nil))))))))) (.one false (.one false (.one false (.one false (.one false (.one false (.one false (.adj [] (.adj [.drop 0] .nil)))))))))))))) (.one false (.one false (.one false (.one false (.one false (.one false (.one false (.one false (.one false (.one false (.one false (.one false (.adj [] (.adj [.drop 0] .nil))))))))))))))))))) (.one false (.one false (.one false (.one false (.one false (.one false (.one false (.one false (.one false (.one false (.one false (.one false (.one false (.one false (.one false (.one false (.one false (.adj [] (.adj [.drop 0] .nil)))))))))))))))))))))))) (.one false (.one false (.one false (.one false (.one false (.one false (.one false (.one false (.one false (.one false (.one false (.one false (.one false (.one false (.one false (.one false (.one false (.one false (.one false (.one false (.one false (.one false (.adj [] (.adj [.drop 0] .nil))))))))))))))))))))))))))))))) (.one false (.one false (.one false (.one false (.one false (.one false (.one false (.one false (.one false (.one false (.one false (.one false (.one false (.one false (.one false (.one false (.one false (.one false (.one false (.one false (.one false (.one false (.one false (.one false (.one false (.one false (.one false (.adj [] (.adj [.drop 0] .nil))))))))))))))))))))))))))))))))) (to_goal (q := (True) ∧ (∃ t1 : Bool, (Fun cfg 36 [.one (.sc (.int .u32 a1)), .one (.sc (.int .i64 (9 : Int)))] [] (halterref03_Has.R t1) [] ∧ True) ∧ (((!t1) = true → ((!t1) = true ∧ (True) ∧ ((!t1) = true ∧ (∃ t3 : Bool, (Fun cfg 36 [.one (.sc (.int .u32 a1)), .one (.sc (.int .i64 (19 : Int)))] [] (halterref03_Has.R t3) [] ∧ True) ∧ ((!t1) = true ∧ ((!t1) = true ∧ (((!t3) = true → ((!t3) = true ∧ (0 ≤ (0 : Int) ∧ (0 : Int) < ((32 : Nat) : Int)) ∧ ((!t3) = true ∧ (0 < 32) ∧ ((!t3) = true ∧ (True) ∧ ((!t3) = true ∧ ((((List.getD a2 0 (0 : Int)) == (0 : Int)) = true → (((List.getD a2 0 (0 : Int)) == (0 : Int)) = true ∧ (0 ≤ (9 : Int) ∧ (9 : Int) < ((32 : Nat) : Int)) ∧ (((List.getD a2 0 (0 : Int)) == (0 : Int)) = true ∧ (9 < 32) ∧ (((List.getD a2 0 (0 : Int)) == (0 : Int)) = true ∧ (True) ∧ (((List.getD a2 0 (0 : Int)) == (0 : Int)) = true ∧ ((((List.getD a2 9 (0 : Int)) == (0 : Int)) = true → (((List.getD a2 9 (0 : Int)) == (0 : Int)) = true ∧ (0 ≤ (19 : Int) ∧ (19 : Int) < ((32 : Nat) : Int)) ∧ (((List.getD a2 9 (0 : Int)) == (0 : Int)) = true ∧ (19 < 32) ∧ (((List.getD a2 9 (0 : Int)) == (0 : Int)) = true ∧ (True) ∧ (((List.getD a2 9 (0 : Int)) == (0 : Int)) = true ∧ ((((List.getD a2 19 (0 : Int)) == (0 : Int)) = true → (((List.getD a2 19 (0 : Int)) == (0 : Int)) = true ∧ (True) ∧ (((List.getD a2 19 (0 : Int)) == (0 : Int)) = true ∧ (True) ∧ (((List.getD a2 19 (0 : Int)) == (0 : Int)) = true ∧ (((decide (a0 < (2147483648 : Int))) = true → ((decide (a0 < (2147483648 : Int))) = true ∧ (True) ∧ ((decide (a0 < (2147483648 : Int))) = true ∧ (True) ∧ ((decide (a0 < (2147483648 : Int))) = true ∧ (True ∧ ((True) ∧ ((True) ∧ True) ∧ (.v (.one (.sc (.bool (decide (a1 < (2147483648 : Int)))))) : Tm) = halterref25_May.R r ∧ ([] : List Box) = [])))))) ∧ ((decide (a0 < (2147483648 : Int))) = false → ((decide (a0 < (2147483648 : Int))) = false ∧ ((decide (a0 < (2147483648 : Int))) = false ∧ ((decide (a0 < (2147483648 : Int))) = false ∧ (True ∧ ((True) ∧ ((True) ∧ True) ∧ (.v (.one (.sc (.bool false))) : Tm) = halterref25_May.R r ∧ ([] : List Box) = []))))))))))) ∧ (((List.getD a2 19 (0 : Int)) == (0 : Int)) = false → (((List.getD a2 19 (0 : Int)) == (0 : Int)) = false ∧ (((List.getD a2 19 (0 : Int)) == (0 : Int)) = false ∧ (((List.getD a2 19 (0 : Int)) == (0 : Int)) = false ∧ (false = false ∧ (false = false ∧ (false = false ∧ (false = false ∧ (True ∧ ((True) ∧ ((True) ∧ True) ∧ (.v (.one (.sc (.bool false))) : Tm) = halterref25_May.R r ∧ ([] : List Box) = [])))))))))))))))) ∧ (((List.getD a2 9 (0 : Int)) == (0 : Int)) = false → (((List.getD a2 9 (0 : Int)) == (0 : Int)) = false ∧ (((List.getD a2 9 (0 : Int)) == (0 : Int)) = false ∧ (((List.getD a2 9 (0 : Int)) == (0 : Int)) = false ∧ (((List.getD a2 9 (0 : Int)) == (0 : Int)) = false ∧ (false = false ∧ (false = false ∧ (false = false ∧ (false = false ∧ (false = false ∧ (false = false ∧ (false = false ∧ (false = false ∧ (True ∧ ((True) ∧ ((True) ∧ True) ∧ (.v (.one (.sc (.bool false))) : Tm) = halterref25_May.R r ∧ ([] : List Box) = []))))))))))))))))))))) ∧ (((List.getD a2 0 (0 : Int)) == (0 : Int)) = false → (((List.getD a2 0 (0 : Int)) == (0 : Int)) = false ∧ (((List.getD a2 0 (0 : Int)) == (0 : Int)) = false ∧ (((List.getD a2 0 (0 : Int)) == (0 : Int)) = false ∧ (((List.getD a2 0 (0 : Int)) == (0 : Int)) = false ∧ (false = false ∧ (false = false ∧ (false = false ∧ (false = false ∧ (false = false ∧ (false = false ∧ (false = false ∧ (false = false ∧ (false = false ∧ (false = false ∧ (false = false ∧ (false = false ∧ (false = false ∧ (True ∧ ((True) ∧ ((True) ∧ True) ∧ (.v (.one (.sc (.bool false))) : Tm) = halterref25_May.R r ∧ ([] : List Box) = [])))))))))))))))))))))))))) ∧ ((!t3) = false → ((!t3) = false ∧ ((!t3) = false ∧ ((!t3) = false ∧ ((!t3) = false ∧ (false = false ∧ (false = false ∧ (false = false ∧ (false = false ∧ (false = false ∧ (false = false ∧ (false = false ∧ (false = false ∧ (false = false ∧ (false = false ∧ (false = false ∧ (false = false ∧ (false = false ∧ (false = false ∧ (false = false ∧ (false = false ∧ (false = false ∧ (false = false ∧ (True ∧ ((True) ∧ ((True) ∧ True) ∧ (.v (.one (.sc (.bool false))) : Tm) = halterref25_May.R r ∧ ([] : List Box) = [])))))))))))))))))))))))))))))))) ∧ ((!t1) = false → ((!t1) = false ∧ ((!t1) = false ∧ ((!t1) = false ∧ ((!t1) = false ∧ (false = false ∧ (false = false ∧ (false = false ∧ (false = false ∧ (false = false ∧ (false = false ∧ (false = false ∧ (false = false ∧ (false = false ∧ (false = false ∧ (false = false ∧ (false = false ∧ (false = false ∧ (false = false ∧ (false = false ∧ (false = false ∧ (false = false ∧ (false = false ∧ (false = false ∧ (false = false ∧ (false = false ∧ (false = false ∧ (false = false ∧ (True ∧ ((True) ∧ ((True) ∧ True) ∧ (.v (.one (.sc (.bool false))) : Tm) = halterref25_May.R r ∧ ([] : List Box) = []))))))))))))))))))))))))))))))))) (by kernel_rfl) ?_)
  refine ⟨trivial, ?_⟩
  obtain ⟨t1, ht1, h⟩ := of_bind h
  refine ⟨t1, ⟨halterref03_Has.fun_ ht1, trivial⟩, ?_⟩
  refine ⟨fun b2 => ?_, fun b2 => ?_⟩
  · rw [if_pos (ff (not_t b2))] at h
    refine ⟨b2, ?_⟩
    refine ⟨trivial, ?_⟩
    refine ⟨b2, ?_⟩
    obtain ⟨t3, ht3, h⟩ := of_bind h
    refine ⟨t3, ⟨halterref03_Has.fun_ ht3, trivial⟩, ?_⟩
    refine ⟨b2, ?_⟩
    refine ⟨b2, ?_⟩
    refine ⟨fun b4 => ?_, fun b4 => ?_⟩
    · rw [if_pos (ff (not_t b4))] at h
      refine ⟨b4, ?_⟩
      refine ⟨(by decide), ?_⟩
      refine ⟨b4, ?_⟩
      refine ⟨(by decide), ?_⟩
      refine ⟨b4, ?_⟩
      refine ⟨trivial, ?_⟩
      refine ⟨b4, ?_⟩
      refine ⟨fun b5 => ?_, fun b5 => ?_⟩
      · rw [if_pos (beq_t b5)] at h
        refine ⟨b5, ?_⟩
        refine ⟨(by decide), ?_⟩
        refine ⟨b5, ?_⟩
        refine ⟨(by decide), ?_⟩
        refine ⟨b5, ?_⟩
        refine ⟨trivial, ?_⟩
        refine ⟨b5, ?_⟩
        refine ⟨fun b6 => ?_, fun b6 => ?_⟩
        · rw [if_pos (beq_t b6)] at h
          refine ⟨b6, ?_⟩
          refine ⟨(by decide), ?_⟩
          refine ⟨b6, ?_⟩
          refine ⟨(by decide), ?_⟩
          refine ⟨b6, ?_⟩
          refine ⟨trivial, ?_⟩
          refine ⟨b6, ?_⟩
          refine ⟨fun b7 => ?_, fun b7 => ?_⟩
          · rw [if_pos (beq_t b7)] at h
            refine ⟨b7, ?_⟩
            refine ⟨trivial, ?_⟩
            refine ⟨b7, ?_⟩
            refine ⟨trivial, ?_⟩
            refine ⟨b7, ?_⟩
            refine ⟨fun b8 => ?_, fun b8 => ?_⟩
            · rw [if_pos (of_decide_eq_true b8)] at h
              refine ⟨b8, ?_⟩
              refine ⟨trivial, ?_⟩
              refine ⟨b8, ?_⟩
              refine ⟨trivial, ?_⟩
              refine ⟨b8, ?_⟩
              refine ⟨trivial, ?_⟩
              obtain rfl := Option.some.inj h
              exact ⟨trivial, ⟨trivial, trivial⟩, rfl, rfl⟩
            · rw [if_neg (of_decide_eq_false b8)] at h
              refine ⟨b8, ?_⟩
              refine ⟨b8, ?_⟩
              refine ⟨b8, ?_⟩
              refine ⟨trivial, ?_⟩
              obtain rfl := Option.some.inj h
              exact ⟨trivial, ⟨trivial, trivial⟩, rfl, rfl⟩
          · rw [if_neg (beq_f b7)] at h
            refine ⟨b7, ?_⟩
            refine ⟨b7, ?_⟩
            refine ⟨b7, ?_⟩
            refine ⟨rfl, ?_⟩
            refine ⟨rfl, ?_⟩
            refine ⟨rfl, ?_⟩
            refine ⟨rfl, ?_⟩
            refine ⟨trivial, ?_⟩
            obtain rfl := Option.some.inj h
            exact ⟨trivial, ⟨trivial, trivial⟩, rfl, rfl⟩
        · rw [if_neg (beq_f b6)] at h
          refine ⟨b6, ?_⟩
          refine ⟨b6, ?_⟩
          refine ⟨b6, ?_⟩
          refine ⟨b6, ?_⟩
          refine ⟨rfl, ?_⟩
          refine ⟨rfl, ?_⟩
          refine ⟨rfl, ?_⟩
          refine ⟨rfl, ?_⟩
          refine ⟨rfl, ?_⟩
          refine ⟨rfl, ?_⟩
          refine ⟨rfl, ?_⟩
          refine ⟨rfl, ?_⟩
          refine ⟨trivial, ?_⟩
          obtain rfl := Option.some.inj h
          exact ⟨trivial, ⟨trivial, trivial⟩, rfl, rfl⟩
      · rw [if_neg (beq_f b5)] at h
        refine ⟨b5, ?_⟩
        refine ⟨b5, ?_⟩
        refine ⟨b5, ?_⟩
        refine ⟨b5, ?_⟩
        refine ⟨rfl, ?_⟩
        refine ⟨rfl, ?_⟩
        refine ⟨rfl, ?_⟩
        refine ⟨rfl, ?_⟩
        refine ⟨rfl, ?_⟩
        refine ⟨rfl, ?_⟩
        refine ⟨rfl, ?_⟩
        refine ⟨rfl, ?_⟩
        refine ⟨rfl, ?_⟩
        refine ⟨rfl, ?_⟩
        refine ⟨rfl, ?_⟩
        refine ⟨rfl, ?_⟩
        refine ⟨rfl, ?_⟩
        refine ⟨trivial, ?_⟩
        obtain rfl := Option.some.inj h
        exact ⟨trivial, ⟨trivial, trivial⟩, rfl, rfl⟩
    · rw [if_neg (not_not_intro (not_f b4))] at h
      refine ⟨b4, ?_⟩
      refine ⟨b4, ?_⟩
      refine ⟨b4, ?_⟩
      refine ⟨b4, ?_⟩
      refine ⟨rfl, ?_⟩
      refine ⟨rfl, ?_⟩
      refine ⟨rfl, ?_⟩
      refine ⟨rfl, ?_⟩
      refine ⟨rfl, ?_⟩
      refine ⟨rfl, ?_⟩
      refine ⟨rfl, ?_⟩
      refine ⟨rfl, ?_⟩
      refine ⟨rfl, ?_⟩
      refine ⟨rfl, ?_⟩
      refine ⟨rfl, ?_⟩
      refine ⟨rfl, ?_⟩
      refine ⟨rfl, ?_⟩
      refine ⟨rfl, ?_⟩
      refine ⟨rfl, ?_⟩
      refine ⟨rfl, ?_⟩
      refine ⟨rfl, ?_⟩
      refine ⟨rfl, ?_⟩
      refine ⟨trivial, ?_⟩
      obtain rfl := Option.some.inj h
      exact ⟨trivial, ⟨trivial, trivial⟩, rfl, rfl⟩
  · rw [if_neg (not_not_intro (not_f b2))] at h
    refine ⟨b2, ?_⟩
    refine ⟨b2, ?_⟩
    refine ⟨b2, ?_⟩
    refine ⟨b2, ?_⟩
    refine ⟨rfl, ?_⟩
    refine ⟨rfl, ?_⟩
    refine ⟨rfl, ?_⟩
    refine ⟨rfl, ?_⟩
    refine ⟨rfl, ?_⟩
    refine ⟨rfl, ?_⟩
    refine ⟨rfl, ?_⟩
    refine ⟨rfl, ?_⟩
    refine ⟨rfl, ?_⟩
    refine ⟨rfl, ?_⟩
    refine ⟨rfl, ?_⟩
    refine ⟨rfl, ?_⟩
    refine ⟨rfl, ?_⟩
    refine ⟨rfl, ?_⟩
    refine ⟨rfl, ?_⟩
    refine ⟨rfl, ?_⟩
    refine ⟨rfl, ?_⟩
    refine ⟨rfl, ?_⟩
    refine ⟨rfl, ?_⟩
    refine ⟨rfl, ?_⟩
    refine ⟨rfl, ?_⟩
    refine ⟨rfl, ?_⟩
    refine ⟨rfl, ?_⟩
    refine ⟨trivial, ?_⟩
    obtain rfl := Option.some.inj h
    exact ⟨trivial, ⟨trivial, trivial⟩, rfl, rfl⟩
/-! halter/halterref03.Of -/
def halterref03_Of.l1 (x2 : Int) (a0 : (List Int)) : Nat → Int → Int → Option Int
  | 0, _, _ => none
  | n + 1, x16, x17 =>
    if x17 < (((List.length a0) : Nat) : Int) then
      if 0 ≤ x17 ∧ x17 < (((List.length a0) : Nat) : Int) then
        if (List.getD a0 (Int.toNat x17) (0 : Int)) = x2 then
          some (IntKind.wrap .u32 (x16 + (1 : Int)))
        else
          halterref03_Of.l1 x2 a0 n x16 (IntKind.wrap .i64 (x17 + (1 : Int)))
      else none
    else
      some x16
def halterref03_Of.l1_S (x2 : Int) (a0 : (List Int)) (x16 : Int) (x17 : Int) : St := ⟨[.v (.one (.fs (.int .i64) a0 false)), .any, .any, .v (.one (.sc (.int .u32 x16))), .v (.one (.sc (.int .i64 x2))), .v (.one (.sc (.int .i64 x17))), .any, .any, .any, .any, .any, .any, .any, .any, .any, .any, .any, .any, .any, .any, .any, .any, .any, .any, .any, .any, .any], [], 0⟩
def halterref03_Of.l1_Q (x2 : Int) (a0 : (List Int)) (t : Int) : Exit → St → Prop := fun e s => e = (.exit 2) ∧ s = ⟨[.v (.one (.fs (.int .i64) a0 false)), .any, .any, .v (.one (.sc (.int .u32 t))), .v (.one (.sc (.int .i64 x2))), .any, .any, .any, .any, .any, .any, .any, .any, .any, .any, .any, .any, .any, .any, .any, .any, .any, .any, .any, .any, .any, .any], [], 0⟩
theorem halterref03_Of.l1_ok (x2 : Int) (a0 : (List Int)) : ∀ (n : Nat) (x16 : Int) (x17 : Int) (r : Int), halterref03_Of.l1 x2 a0 n x16 x17 = some r → TripN cfg (cpath (Tryd.f38.body.getD .skip) [1, 1, 0, 1, 0, 0, 1, 0, 0, 1, 1, 0, 0]) n (halterref03_Of.l1_S x2 a0 x16 x17) (halterref03_Of.l1_Q x2 a0 r) := by
  intro n
  induction n with
  | zero => intro x16 x17 r h; cases h
  | succ n ih =>
    intro x16 x17 r h
    rw [halterref03_Of.l1] at h
    refine TripN.of_run cfg_ok (k := (.br (.br (.adj [] (.adj [.keep [0, 3, 4], .drop 0] .nil)) (.adj [] (.adj [] (.adj [.keep [0, 3, 4, 5], .drop 0] .nil)))) (.adj [.keep [0, 3, 4], .drop 0] .nil))) (to_goal (q := (True) ∧ (True) ∧ (((decide (x17 < (((List.length a0) : Nat) : Int))) = true → (0 ≤ x17 ∧ x17 < (((List.length a0) : Nat) : Int)) ∧ (True) ∧ (True) ∧ ((((List.getD a0 (Int.toNat x17) (0 : Int)) == x2) = true → (True ∧ (True) ∧ (((True) ∧ (True) ∧ True) ∧ halterref03_Of.l1_Q x2 a0 r (.exit 2) ⟨[.v (.one (.fs (.int .i64) a0 false)), .any, .any, .v (.one (.sc (.int .u32 (IntKind.wrap .u32 (x16 + (1 : Int)))))), .v (.one (.sc (.int .i64 x2))), .any, .any, .any, .any, .any, .any, .any, .any, .any, .any, .any, .any, .any, .any, .any, .any, .any, .any, .any, .any, .any, .any], [], 0⟩))) ∧ (((List.getD a0 (Int.toNat x17) (0 : Int)) == x2) = false → (True ∧ (True ∧ (True) ∧ (((True) ∧ (True) ∧ True) ∧ TripN cfg (cpath (Tryd.f38.body.getD .skip) [1, 1, 0, 1, 0, 0, 1, 0, 0, 1, 1, 0, 0]) n (halterref03_Of.l1_S x2 a0 x16 (IntKind.wrap .i64 (x17 + (1 : Int)))) (halterref03_Of.l1_Q x2 a0 r))))))) ∧ ((decide (x17 < (((List.length a0) : Nat) : Int))) = false → (((True) ∧ (True) ∧ True) ∧ halterref03_Of.l1_Q x2 a0 r (.exit 2) ⟨[.v (.one (.fs (.int .i64) a0 false)), .any, .any, .v (.one (.sc (.int .u32 x16))), .v (.one (.sc (.int .i64 x2))), .any, .any, .any, .any, .any, .any, .any, .any, .any, .any, .any, .any, .any, .any, .any, .any, .any, .any, .any, .any, .any, .any], [], 0⟩)))) (by kernel_rfl) ?_)
    refine ⟨trivial, ?_⟩
    refine ⟨trivial, ?_⟩
    refine ⟨fun b23 => ?_, fun b23 => ?_⟩
    · rw [if_pos (of_decide_eq_true b23)] at h
      obtain ⟨g25, h⟩ := of_guard h
      refine ⟨g25, ?_⟩
      refine ⟨trivial, ?_⟩
      refine ⟨trivial, ?_⟩
      refine ⟨fun b24 => ?_, fun b24 => ?_⟩
      · rw [if_pos (beq_t b24)] at h
        refine ⟨trivial, ?_⟩
        refine ⟨trivial, ?_⟩
        obtain rfl := Option.some.inj h
        exact ⟨⟨trivial, trivial, trivial⟩, rfl, rfl⟩
      · rw [if_neg (beq_f b24)] at h
        refine ⟨trivial, ?_⟩
        refine ⟨trivial, ?_⟩
        refine ⟨trivial, ?_⟩
        exact ⟨⟨trivial, trivial, trivial⟩, ih x16 (IntKind.wrap .i64 (x17 + (1 : Int))) r h⟩
    · rw [if_neg (of_decide_eq_false b23)] at h
      obtain rfl := Option.some.inj h
      exact ⟨⟨trivial, trivial, trivial⟩, rfl, rfl⟩
def halterref03_Of.l0 (a0 : (List Int)) : Nat → Int → Int → Option Int
  | 0, _, _ => none
  | n + 1, x1, x2 =>
    if x2 ≥ (1 : Int) then
      (halterref03_Of.l1 x2 a0 FUEL (IntKind.wrap .u32 ((2 : Int) * x1)) (0 : Int)).bind fun t22 =>
      halterref03_Of.l0 a0 n t22 (IntKind.wrap .i64 (x2 - (1 : Int)))
    else
      some x1
def halterref03_Of.l0_S (a0 : (List Int)) (x1 : Int) (x2 : Int) : St := ⟨[.v (.one (.fs (.int .i64) a0 false)), .any, .any, .v (.one (.sc (.int .u32 x1))), .v (.one (.sc (.int .i64 x2))), .any, .any, .any, .any, .any, .any, .any, .any, .any, .any, .any, .any, .any, .any, .any, .any, .any, .any, .any, .any, .any, .any], [], 0⟩
def halterref03_Of.l0_Q (a0 : (List Int)) (t : Int) : Exit → St → Prop := fun e s => e = (.exit 0) ∧ s = ⟨[.any, .any, .any, .v (.one (.sc (.int .u32 t))), .any, .any, .any, .any, .any, .any, .any, .any, .any, .any, .any, .any, .any, .any, .any, .any, .any, .any, .any, .any, .any, .any, .any], [], 0⟩
theorem halterref03_Of.l0_ok (a0 : (List Int)) : ∀ (n : Nat) (x1 : Int) (x2 : Int) (r : Int), halterref03_Of.l0 a0 n x1 x2 = some r → TripN cfg (cpath (Tryd.f38.body.getD .skip) [1, 1, 0, 1, 0, 0]) n (halterref03_Of.l0_S a0 x1 x2) (halterref03_Of.l0_Q a0 r) := by
  intro n
  induction n with
  | zero => intro x1 x2 r h; cases h
  | succ n ih =>
    intro x1 x2 r h
    rw [halterref03_Of.l0] at h
    refine TripN.of_run cfg_ok (k := (.br (.adj [] (.adj [] (.adj [] (.adj [.keep [0, 3, 4, 5]] (.sub (Int) (fun _ => (.exit 2)) (fun t22 => ⟨[.v (.one (.fs (.int .i64) a0 false)), .any, .any, .v (.one (.sc (.int .u32 t22))), .v (.one (.sc (.int .i64 x2))), .any, .any, .any, .any, .any, .any, .any, .any, .any, .any, .any, .any, .any, .any, .any, .any, .any, .any, .any, .any, .any, .any], [], 0⟩) (fun t22 => (.adj [] (.adj [.keep [0, 3, 4], .drop 0] .nil)))))))) (.adj [.keep [3], .drop 0] .nil))) (to_goal (q := (True) ∧ (((decide (x2 ≥ (1 : Int))) = true → (True ∧ (True ∧ (True) ∧ (True ∧ (((True) ∧ True) ∧ (∃ t22 : Int, Trip cfg (.loop (cpath (Tryd.f38.body.getD .skip) [1, 1, 0, 1, 0, 0, 1, 0, 0, 1, 1, 0, 0])) ⟨[.v (.one (.fs (.int .i64) a0 false)), .any, .any, .v (.one (.sc (.int .u32 (IntKind.wrap .u32 ((2 : Int) * x1))))), .v (.one (.sc (.int .i64 x2))), .v (.one (.sc (.int .i64 (0 : Int)))), .any, .any, .any, .any, .any, .any, .any, .any, .any, .any, .any, .any, .any, .any, .any, .any, .any, .any, .any, .any, .any], [], 0⟩ (fun e s => e = (.exit 2) ∧ s = ⟨[.v (.one (.fs (.int .i64) a0 false)), .any, .any, .v (.one (.sc (.int .u32 t22))), .v (.one (.sc (.int .i64 x2))), .any, .any, .any, .any, .any, .any, .any, .any, .any, .any, .any, .any, .any, .any, .any, .any, .any, .any, .any, .any, .any, .any], [], 0⟩) ∧ (True ∧ (True) ∧ (((True) ∧ (True) ∧ True) ∧ TripN cfg (cpath (Tryd.f38.body.getD .skip) [1, 1, 0, 1, 0, 0]) n (halterref03_Of.l0_S a0 t22 (IntKind.wrap .i64 (x2 - (1 : Int)))) (halterref03_Of.l0_Q a0 r))))))))) ∧ ((decide (x2 ≥ (1 : Int))) = false → (((True) ∧ (True) ∧ True) ∧ halterref03_Of.l0_Q a0 r (.exit 0) ⟨[.any, .any, .any, .v (.one (.sc (.int .u32 x1))), .any, .any, .any, .any, .any, .any, .any, .any, .any, .any, .any, .any, .any, .any, .any, .any, .any, .any, .any, .any, .any, .any, .any], [], 0⟩)))) (by kernel_rfl) ?_)
    refine ⟨trivial, ?_⟩
    refine ⟨fun b15 => ?_, fun b15 => ?_⟩
    · rw [if_pos (of_decide_eq_true b15)] at h
      refine ⟨trivial, ?_⟩
      refine ⟨trivial, ?_⟩
      refine ⟨trivial, ?_⟩
      refine ⟨trivial, ?_⟩
      obtain ⟨t22, ht22, h⟩ := of_bind h
      refine ⟨⟨trivial, trivial⟩, t22, Trip.loop FUEL (halterref03_Of.l1_ok x2 a0 FUEL (IntKind.wrap .u32 ((2 : Int) * x1)) (0 : Int) t22 ht22), ?_⟩
      refine ⟨trivial, ?_⟩
      refine ⟨trivial, ?_⟩
      exact ⟨⟨trivial, trivial, trivial⟩, ih t22 (IntKind.wrap .i64 (x2 - (1 : Int))) r h⟩
    · rw [if_neg (of_decide_eq_false b15)] at h
      obtain rfl := Option.some.inj h
      exact ⟨⟨trivial, trivial, trivial⟩, rfl, rfl⟩
def halterref03_Of.f (a0 : (List Int)) : Option Int :=
  (halterref03_Of.l0 a0 FUEL (0 : Int) (31 : Int)).bind fun t14 =>
  some t14
def halterref03_Of.R (r : Int) : Tm := .v (.one (.sc (.int .u32 r)))
theorem halterref03_Of.fun_ {a0 : (List Int)} {r : Int} (h : halterref03_Of.f a0 = some r) : Fun cfg 38 [.one (.fs (.int .i64) a0 false)] [] (halterref03_Of.R r) [] := by
  unfold halterref03_Of.f at h
  refine fun_of_run cfg_ok (f := 38) (fn := Tryd.f38) Tryd.func38 rfl (by kernel_rfl) (rs := [.tmp 2]) rfl (nt := 27) rfl (l := fin) (k := (.adj [] (.adj [] (.adj [] (.adj [.keep [0, 3, 4]] (.sub (Int) (fun _ => (.exit 0)) (fun t14 => ⟨[.any, .any, .any, .v (.one (.sc (.int .u32 t14))), .any, .any, .any, .any, .any, .any, .any, .any, .any, .any, .any, .any, .any, .any, .any, .any, .any, .any, .any, .any, .any, .any, .any], [], 0⟩) (fun t14 => (.adj [] (.adj [] (.adj [] .nil)))))))))) (to_goal (q := (True ∧ (True ∧ (True ∧ (((True) ∧ True) ∧ (∃ t14 : Int, Trip cfg (.loop (cpath (Tryd.f38.body.getD .skip) [1, 1, 0, 1, 0, 0])) ⟨[.v (.one (.fs (.int .i64) a0 false)), .any, .any, .v (.one (.sc (.int .u32 (0 : Int)))), .v (.one (.sc (.int .i64 (31 : Int)))), .any, .any, .any, .any, .any, .any, .any, .any, .any, .any, .any, .any, .any, .any, .any, .any, .any, .any, .any, .any, .any, .any], [], 0⟩ (fun e s => e = (.exit 0) ∧ s = ⟨[.any, .any, .any, .v (.one (.sc (.int .u32 t14))), .any, .any, .any, .any, .any, .any, .any, .any, .any, .any, .any, .any, .any, .any, .any, .any, .any, .any, .any, .any, .any, .any, .any], [], 0⟩) ∧ (True ∧ (True ∧ ((True) ∧ (True) ∧ (.v (.one (.sc (.int .u32 t14))) : Tm) = halterref03_Of.R r ∧ ([] : List Box) = []))))))))) (by kernel_rfl) ?_)
  refine ⟨trivial, ?_⟩
  refine ⟨trivial, ?_⟩
  refine ⟨trivial, ?_⟩
  obtain ⟨t14, ht14, h⟩ := of_bind h
  refine ⟨⟨trivial, trivial⟩, t14, Trip.loop FUEL (halterref03_Of.l0_ok a0 FUEL (0 : Int) (31 : Int) t14 ht14), ?_⟩
  refine ⟨trivial, ?_⟩
  refine ⟨trivial, ?_⟩
  obtain rfl := Option.some.inj h
  exact ⟨trivial, trivial, rfl, rfl⟩
/-! halter/halterref03.Del -/
def halterref03_Del.l0 (t1 : (List Int)) (a1 : Int) : Nat → (List Int) → Int → Option (List Int)
  | 0, _, _ => none
  | n + 1, x17, x18 =>
    if x18 < (((List.length t1) : Nat) : Int) then
      if 0 ≤ x18 ∧ x18 < (((List.length t1) : Nat) : Int) then
        if (0 + (Int.toNat x18)) < (List.length t1) then
          if ¬ (List.getD t1 (0 + (Int.toNat x18)) (0 : Int)) = a1 then
            if 0 ≤ x18 ∧ x18 < (((List.length t1) : Nat) : Int) then
              if (0 + (Int.toNat x18)) < (List.length t1) then
                if (0 = 0 ∧ 1 = 1) ∧ 0 = 0 ∧ (List.length x17) = (List.length x17) ∧ (((List.length x17) + 1) * 8 ≤ 140737488355328 ∧ (List.length x17) + 1 ≤ 9223372036854775807) then
                  halterref03_Del.l0 t1 a1 n (x17 ++ [(List.getD t1 (0 + (Int.toNat x18)) (0 : Int))]) (IntKind.wrap .i64 (x18 + (1 : Int)))
                else none
              else none
            else none
          else
            halterref03_Del.l0 t1 a1 n x17 (IntKind.wrap .i64 (x18 + (1 : Int)))
        else none
      else none
    else
      some x17
def halterref03_Del.l0_S (t1 : (List Int)) (a1 : Int) (x17 : List Int) (x18 : Int) : St := ⟨[.any, .v (.one (.sc (.int .i64 a1))), .any, .any, .any, .v (.one (.os 0 0 0 1 (List.length t1) none)), .v (.one (.os 1 0 0 1 (List.length x17) none)), .v (.one (.sc (.int .i64 x18))), .any, .any, .any, .any, .any, .any, .any, .any, .any, .any, .any, .any, .any, .any, .any, .any, .any, .any, .any, .any, .any, .any, .any], [.gro false (.int .i64) t1 3, .gro false (.int .i64) x17 3], 0⟩
def halterref03_Del.l0_Q (t1 : (List Int)) (a1 : Int) (t : (List Int)) : Exit → St → Prop := fun e s => e = (.exit 0) ∧ s = ⟨[.any, .any, .any, .any, .any, .any, .v (.one (.os 1 0 0 1 (List.length t) none)), .any, .any, .any, .any, .any, .any, .any, .any, .any, .any, .any, .any, .any, .any, .any, .any, .any, .any, .any, .any, .any, .any, .any, .any], [.gro false (.int .i64) t1 3, .gro false (.int .i64) t 3], 0⟩
theorem halterref03_Del.l0_ok (t1 : (List Int)) (a1 : Int) : ∀ (n : Nat) (x17 : List Int) (x18 : Int) (r : (List Int)), halterref03_Del.l0 t1 a1 n x17 x18 = some r → TripN cfg (cpath (Tryd.f21.body.getD .skip) [1, 1, 1, 0, 1, 0, 0]) n (halterref03_Del.l0_S t1 a1 x17 x18) (halterref03_Del.l0_Q t1 a1 r) := by
  intro n
  induction n with
  | zero => intro x17 x18 r h; cases h
  | succ n ih =>
    intro x17 x18 r h
    rw [halterref03_Del.l0] at h
    refine TripN.of_run cfg_ok (k := (.br (.br (.d (.b true) (.adj [] (.adj [.keep [1, 5, 6, 7], .drop 2] .nil))) (.adj [] (.adj [] (.adj [.keep [1, 5, 6, 7], .drop 2] .nil)))) (.adj [.keep [6], .drop 2] .nil))) (to_goal (q := (True) ∧ (True) ∧ (((decide (x18 < (((List.length t1) : Nat) : Int))) = true → (0 ≤ x18 ∧ x18 < (((List.length t1) : Nat) : Int)) ∧ ((0 + (Int.toNat x18)) < (List.length t1)) ∧ (True) ∧ ((((List.getD t1 (0 + (Int.toNat x18)) (0 : Int)) != a1) = true → (0 ≤ x18 ∧ x18 < (((List.length t1) : Nat) : Int)) ∧ ((0 + (Int.toNat x18)) < (List.length t1)) ∧ ((0 = 0 ∧ 1 = 1) ∧ 0 = 0 ∧ (List.length x17) = (List.length x17) ∧ (((List.length x17) + 1) * 8 ≤ 140737488355328 ∧ (List.length x17) + 1 ≤ 9223372036854775807)) ∧ (True ∧ (True) ∧ (((True) ∧ (True) ∧ True) ∧ TripN cfg (cpath (Tryd.f21.body.getD .skip) [1, 1, 1, 0, 1, 0, 0]) n (halterref03_Del.l0_S t1 a1 (x17 ++ [(List.getD t1 (0 + (Int.toNat x18)) (0 : Int))]) (IntKind.wrap .i64 (x18 + (1 : Int)))) (halterref03_Del.l0_Q t1 a1 r)))) ∧ (((List.getD t1 (0 + (Int.toNat x18)) (0 : Int)) != a1) = false → (True ∧ (True ∧ (True) ∧ (((True) ∧ (True) ∧ True) ∧ TripN cfg (cpath (Tryd.f21.body.getD .skip) [1, 1, 1, 0, 1, 0, 0]) n (halterref03_Del.l0_S t1 a1 x17 (IntKind.wrap .i64 (x18 + (1 : Int)))) (halterref03_Del.l0_Q t1 a1 r))))))) ∧ ((decide (x18 < (((List.length t1) : Nat) : Int))) = false → (((True) ∧ (True) ∧ True) ∧ halterref03_Del.l0_Q t1 a1 r (.exit 0) ⟨[.any, .any, .any, .any, .any, .any, .v (.one (.os 1 0 0 1 (List.length x17) none)), .any, .any, .any, .any, .any, .any, .any, .any, .any, .any, .any, .any, .any, .any, .any, .any, .any, .any, .any, .any, .any, .any, .any, .any], [.gro false (.int .i64) t1 3, .gro false (.int .i64) x17 3], 0⟩)))) (by kernel_rfl) ?_)
    refine ⟨trivial, ?_⟩
    refine ⟨trivial, ?_⟩
    refine ⟨fun b28 => ?_, fun b28 => ?_⟩
    · rw [if_pos (of_decide_eq_true b28)] at h
      obtain ⟨g34, h⟩ := of_guard h
      refine ⟨g34, ?_⟩
      obtain ⟨g33, h⟩ := of_guard h
      refine ⟨g33, ?_⟩
      refine ⟨trivial, ?_⟩
      refine ⟨fun b29 => ?_, fun b29 => ?_⟩
      · rw [if_pos (bne_t b29)] at h
        obtain ⟨g32, h⟩ := of_guard h
        refine ⟨g32, ?_⟩
        obtain ⟨g31, h⟩ := of_guard h
        refine ⟨g31, ?_⟩
        obtain ⟨g30, h⟩ := of_guard h
        refine ⟨g30, ?_⟩
        refine ⟨trivial, ?_⟩
        refine ⟨trivial, ?_⟩
        exact ⟨⟨trivial, trivial, trivial⟩, ih (x17 ++ [(List.getD t1 (0 + (Int.toNat x18)) (0 : Int))]) (IntKind.wrap .i64 (x18 + (1 : Int))) r h⟩
      · rw [if_neg (not_not_intro (bne_f b29))] at h
        refine ⟨trivial, ?_⟩
        refine ⟨trivial, ?_⟩
        refine ⟨trivial, ?_⟩
        exact ⟨⟨trivial, trivial, trivial⟩, ih x17 (IntKind.wrap .i64 (x18 + (1 : Int))) r h⟩
    · rw [if_neg (of_decide_eq_false b28)] at h
      obtain rfl := Option.some.inj h
      exact ⟨⟨trivial, trivial, trivial⟩, rfl, rfl⟩
def halterref03_Del.f (a0 : Int) (a1 : Int) : Option Int :=
  (halterref03_List.f a0).bind fun t1 =>
  (halterref03_Del.l0 t1 a1 FUEL ([] : List Int) (0 : Int)).bind fun t27 =>
  (halterref03_Of.f t27).bind fun t37 =>
  some t37
def halterref03_Del.R (r : Int) : Tm := .v (.one (.sc (.int .u32 r)))
theorem halterref03_Del.fun_ {a0 : Int} {a1 : Int} {r : Int} (h : halterref03_Del.f a0 a1 = some r) : Fun cfg 21 [.one (.sc (.int .u32 a0)), .one (.sc (.int .i64 a1))] [] (halterref03_Del.R r) [] := by
  unfold halterref03_Del.f at h
  refine fun_of_run cfg_ok (f := 21) (fn := Tryd.f21) Tryd.func21 rfl (by kernel_rfl) (rs := [.tmp 4]) rfl (nt := 31) rfl (l := fin) (k := (.callR true [] [] ((List Int)) (fun t1 => (halterref03_List.R t1)) (fun t1 => (halterref03_List.B a0 t1)) (fun t1 => (.adj [] (.adj [] (.adj [.keep [1, 5, 6, 7], .nilGro 6 (.int .i64) 3] (.sub ((List Int)) (fun _ => (.exit 0)) (fun t27 => ⟨[.any, .any, .any, .any, .any, .any, .v (.one (.os 1 0 0 1 (List.length t27) none)), .any, .any, .any, .any, .any, .any, .any, .any, .any, .any, .any, .any, .any, .any, .any, .any, .any, .any, .any, .any, .any, .any, .any, .any], [.gro false (.int .i64) t1 3, .gro false (.int .i64) t27 3], 0⟩) (fun t27 => (.call true [] (Int) (fun t37 => halterref03_Of.R t37) (fun t37 => (.adj [] (.adj [.drop 0] .nil)))))))))))) (to_goal (q := (∃ t1 : (List Int), (Fun cfg 39 [.one (.sc (.int .u32 a0))] [] (halterref03_List.R t1) (halterref03_List.B a0 t1) ∧ True) ∧ (True ∧ (True ∧ (((True) ∧ (True) ∧ True) ∧ (∃ t27 : (List Int), Trip cfg (.loop (cpath (Tryd.f21.body.getD .skip) [1, 1, 1, 0, 1, 0, 0])) ⟨[.any, .v (.one (.sc (.int .i64 a1))), .any, .any, .any, .v (.one (.os 0 0 0 1 (List.length t1) none)), .v (.one (.os 1 0 0 1 0 none)), .v (.one (.sc (.int .i64 (0 : Int)))), .any, .any, .any, .any, .any, .any, .any, .any, .any, .any, .any, .any, .any, .any, .any, .any, .any, .any, .any, .any, .any, .any, .any], [.gro false (.int .i64) t1 3, .gro false (.int .i64) ([] : List Int) 3], 0⟩ (fun e s => e = (.exit 0) ∧ s = ⟨[.any, .any, .any, .any, .any, .any, .v (.one (.os 1 0 0 1 (List.length t27) none)), .any, .any, .any, .any, .any, .any, .any, .any, .any, .any, .any, .any, .any, .any, .any, .any, .any, .any, .any, .any, .any, .any, .any, .any], [.gro false (.int .i64) t1 3, .gro false (.int .i64) t27 3], 0⟩) ∧ (∃ t37 : Int, ((0 = 0 ∧ (List.length t27) = (List.length t27)) ∧ Fun cfg 38 [.one (.fs (.int .i64) t27 false)] [] (halterref03_Of.R t37) [] ∧ True) ∧ (True ∧ ((True) ∧ ((True) ∧ True) ∧ (.v (.one (.sc (.int .u32 t37))) : Tm) = halterref03_Del.R r ∧ ([] : List Box) = []))))))))) (by kernel_rfl) ?_)
  obtain ⟨t1, ht1, h⟩ := of_bind h
  refine ⟨t1, ⟨halterref03_List.fun_ ht1, trivial⟩, ?_⟩
  refine ⟨trivial, ?_⟩
  refine ⟨trivial, ?_⟩
  obtain ⟨t27, ht27, h⟩ := of_bind h
  refine ⟨⟨trivial, trivial, trivial⟩, t27, Trip.loop FUEL (halterref03_Del.l0_ok t1 a1 FUEL ([] : List Int) (0 : Int) t27 ht27), ?_⟩
  obtain ⟨t37, ht37, h⟩ := of_bind h
  refine ⟨t37, ⟨⟨rfl, rfl⟩, halterref03_Of.fun_ ht37, trivial⟩, ?_⟩
  refine ⟨trivial, ?_⟩
  obtain rfl := Option.some.inj h
  exact ⟨trivial, ⟨trivial, trivial⟩, rfl, rfl⟩
/-! halter/halterref03.Add -/
def halterref03_Add.f (a0 : Int) (a1 : Int) : Option Int :=
  (halterref03_List.f a0).bind fun t1 =>
  if (0 = 0 ∧ 1 = 1) ∧ 0 = 0 ∧ (List.length t1) = (List.length t1) ∧ (((List.length t1) + 1) * 8 ≤ 140737488355328 ∧ (List.length t1) + 1 ≤ 9223372036854775807) then
    (halterref03_Of.f (t1 ++ [a1])).bind fun t2 =>
    some t2
  else none
def halterref03_Add.R (r : Int) : Tm := .v (.one (.sc (.int .u32 r)))
theorem halterref03_Add.fun_ {a0 : Int} {a1 : Int} {r : Int} (h : halterref03_Add.f a0 a1 = some r) : Fun cfg 37 [.one (.sc (.int .u32 a0)), .one (.sc (.int .i64 a1))] [] (halterref03_Add.R r) [] := by
  unfold halterref03_Add.f at h
  refine fun_of_run cfg_ok (f := 37) (fn := Tryd.f37) Tryd.func37 rfl (by kernel_rfl) (rs := [.tmp 4]) rfl (nt := 11) rfl (l := fin) (k := (.callR true [] [] ((List Int)) (fun t1 => (halterref03_List.R t1)) (fun t1 => (halterref03_List.B a0 t1)) (fun t1 => (.d (.b true) (.call true [] (Int) (fun t2 => halterref03_Of.R t2) (fun t2 => (.adj [] (.adj [.drop 0] .nil)))))))) (to_goal (q := (∃ t1 : (List Int), (Fun cfg 39 [.one (.sc (.int .u32 a0))] [] (halterref03_List.R t1) (halterref03_List.B a0 t1) ∧ True) ∧ ((0 = 0 ∧ 1 = 1) ∧ 0 = 0 ∧ (List.length t1) = (List.length t1) ∧ (((List.length t1) + 1) * 8 ≤ 140737488355328 ∧ (List.length t1) + 1 ≤ 9223372036854775807)) ∧ (∃ t2 : Int, ((0 = 0 ∧ (List.length (t1 ++ [a1])) = (List.length (t1 ++ [a1]))) ∧ Fun cfg 38 [.one (.fs (.int .i64) (t1 ++ [a1]) false)] [] (halterref03_Of.R t2) [] ∧ True) ∧ (True ∧ ((True) ∧ ((True) ∧ True) ∧ (.v (.one (.sc (.int .u32 t2))) : Tm) = halterref03_Add.R r ∧ ([] : List Box) = []))))) (by kernel_rfl) ?_)
  obtain ⟨t1, ht1, h⟩ := of_bind h
  refine ⟨t1, ⟨halterref03_List.fun_ ht1, trivial⟩, ?_⟩
  obtain ⟨g3, h⟩ := of_guard h
  refine ⟨g3, ?_⟩
  obtain ⟨t2, ht2, h⟩ := of_bind h
  refine ⟨t2, ⟨⟨rfl, rfl⟩, halterref03_Of.fun_ ht2, trivial⟩, ?_⟩
  refine ⟨trivial, ?_⟩
  obtain rfl := Option.some.inj h
  exact ⟨trivial, ⟨trivial, trivial⟩, rfl, rfl⟩
/-! halter/halterref25.What -/
def halterref25_What.f (a0 : Int) (a1 : Int) (a2 : (List Int)) (a3 : Int) : Option Int :=
  if a3 < (1 : Int) then
    some (0 : Int)
  else
    if a3 > (31 : Int) then
      some (0 : Int)
    else
      if 0 ≤ a3 ∧ a3 < ((32 : Nat) : Int) then
        if (Int.toNat a3) < 32 then
          if a3 = (9 : Int) then
            if a3 = (18 : Int) then
              some (3 : Int)
            else
              if a3 = (17 : Int) then
                some (0 : Int)
              else
                if a3 = (19 : Int) then
                  some (2 : Int)
                else
                  if a3 = (20 : Int) then
                    some (2 : Int)
                  else
                    some (1 : Int)
          else
            if a3 = (19 : Int) then
              if a3 = (18 : Int) then
                some (3 : Int)
              else
                if a3 = (17 : Int) then
                  some (0 : Int)
                else
                  some (2 : Int)
            else
              if (List.getD a2 (Int.toNat a3) (0 : Int)) > (1 : Int) then
                some (4 : Int)
              else
                if a3 = (18 : Int) then
                  some (3 : Int)
                else
                  if (List.getD a2 (Int.toNat a3) (0 : Int)) = (1 : Int) then
                    some (0 : Int)
                  else
                    if a3 = (17 : Int) then
                      some (0 : Int)
                    else
                      if a3 = (20 : Int) then
                        some (2 : Int)
                      else
                        some (1 : Int)
        else none
      else none
def halterref25_What.R (r : Int) : Tm := .v (.one (.sc (.int .i64 r)))
theorem halterref25_What.fun_ {a0 : Int} {a1 : Int} {a2 : (List Int)} {a3 : Int} {r : Int} (h : halterref25_What.f a0 a1 a2 a3 = some r) : Fun cfg 26 [.agg [.c (.sc (.int .u32 a0)), .c (.sc (.int .u32 a1)), .row 32 (.int .u32) a2], .one (.sc (.int .i64 a3))] [] (halterref25_What.R r) [] := by
  unfold halterref25_What.f at h
  refine fun_of_run cfg_ok (f := 26) (fn := Tryd.f26) Tryd.func26 rfl (by kernel_rfl) (rs := [.tmp 4]) rfl (nt := 38) rfl (l := fin) (k := (.br (.one true (.one true (.one true (.adj [] (.adj [] (.adj [.drop 0] .nil)))))) (.one false (.one false (.br (.adj [] (.adj [] (.adj [.drop 0] .nil))) (.br (.one true (.one true (.one true (.one false (.br (.adj [] (.adj [] (.adj [.drop 0] .nil))) (.one false (.one false (.one false (.br (.adj [] (.adj [] (.adj [.drop 0] .nil))) (.br (.one true (.one true (.one true (.adj [] (.adj [] (.adj [.drop 0] .nil)))))) (.one false (.one false (.br (.adj [] (.adj [] (.adj [.drop 0] .nil))) (.adj [] (.adj [] (.adj [] (.adj [.drop 0] .nil))))))))))))))))) (.one false (.one false (.br (.one false (.br (.adj [] (.adj [] (.adj [.drop 0] .nil))) (.one false (.one false (.one false (.br (.adj [] (.adj [] (.adj [.drop 0] .nil))) (.one true (.one true (.one true (.one true (.adj [] (.adj [] (.adj [.drop 0] .nil))))))))))))) (.br (.adj [] (.adj [] (.adj [.drop 0] .nil))) (.br (.adj [] (.adj [] (.adj [.drop 0] .nil))) (.br (.one true (.one true (.one true (.adj [] (.adj [] (.adj [.drop 0] .nil)))))) (.one false (.one false (.br (.adj [] (.adj [] (.adj [.drop 0] .nil))) (.one false (.one false (.one false (.br (.adj [] (.adj [] (.adj [.drop 0] .nil))) (.adj [] (.adj [] (.adj [] (.adj [.drop 0] .nil))))))))))))))))))))))) (to_goal (q := (True) ∧ (((decide (a3 < (1 : Int))) = false → ((decide (a3 < (1 : Int))) = false ∧ (True) ∧ ((decide (a3 < (1 : Int))) = false ∧ (((decide (a3 > (31 : Int))) = true → (True ∧ (True ∧ ((True) ∧ ((True) ∧ True) ∧ (.v (.one (.sc (.int .i64 (0 : Int)))) : Tm) = halterref25_What.R r ∧ ([] : List Box) = [])))) ∧ ((decide (a3 > (31 : Int))) = false → (0 ≤ a3 ∧ a3 < ((32 : Nat) : Int)) ∧ ((Int.toNat a3) < 32) ∧ (True) ∧ (((a3 == (9 : Int)) = false → ((a3 == (9 : Int)) = false ∧ (True) ∧ ((a3 == (9 : Int)) = false ∧ (((a3 == (19 : Int)) = true → (True) ∧ (false = false ∧ (True) ∧ (((a3 == (18 : Int)) = true → (True ∧ (True ∧ ((True) ∧ ((True) ∧ True) ∧ (.v (.one (.sc (.int .i64 (3 : Int)))) : Tm) = halterref25_What.R r ∧ ([] : List Box) = [])))) ∧ ((a3 == (18 : Int)) = false → (True) ∧ (false = false ∧ (false = false ∧ (True) ∧ (false = false ∧ (((a3 == (17 : Int)) = true → (True ∧ (True ∧ ((True) ∧ ((True) ∧ True) ∧ (.v (.one (.sc (.int .i64 (0 : Int)))) : Tm) = halterref25_What.R r ∧ ([] : List Box) = [])))) ∧ ((a3 == (17 : Int)) = false → (True) ∧ ((a3 == (19 : Int)) = true ∧ ((a3 == (19 : Int)) = true ∧ ((a3 == (19 : Int)) = true ∧ (true = true ∧ (True ∧ (True ∧ ((True) ∧ ((True) ∧ True) ∧ (.v (.one (.sc (.int .i64 (2 : Int)))) : Tm) = halterref25_What.R r ∧ ([] : List Box) = [])))))))))))))))) ∧ ((a3 == (19 : Int)) = false → (True) ∧ (((decide ((List.getD a2 (Int.toNat a3) (0 : Int)) > (1 : Int))) = true → (True ∧ (True ∧ ((True) ∧ ((True) ∧ True) ∧ (.v (.one (.sc (.int .i64 (4 : Int)))) : Tm) = halterref25_What.R r ∧ ([] : List Box) = [])))) ∧ ((decide ((List.getD a2 (Int.toNat a3) (0 : Int)) > (1 : Int))) = false → (True) ∧ (((a3 == (18 : Int)) = true → (True ∧ (True ∧ ((True) ∧ ((True) ∧ True) ∧ (.v (.one (.sc (.int .i64 (3 : Int)))) : Tm) = halterref25_What.R r ∧ ([] : List Box) = [])))) ∧ ((a3 == (18 : Int)) = false → (True) ∧ ((((List.getD a2 (Int.toNat a3) (0 : Int)) == (1 : Int)) = false → (((List.getD a2 (Int.toNat a3) (0 : Int)) == (1 : Int)) = false ∧ (True) ∧ (((List.getD a2 (Int.toNat a3) (0 : Int)) == (1 : Int)) = false ∧ (((a3 == (17 : Int)) = true → (True ∧ (True ∧ ((True) ∧ ((True) ∧ True) ∧ (.v (.one (.sc (.int .i64 (0 : Int)))) : Tm) = halterref25_What.R r ∧ ([] : List Box) = [])))) ∧ ((a3 == (17 : Int)) = false → (True) ∧ ((a3 == (19 : Int)) = false ∧ ((a3 == (19 : Int)) = false ∧ (True) ∧ ((a3 == (19 : Int)) = false ∧ (((a3 == (20 : Int)) = true → (True ∧ (True ∧ ((True) ∧ ((True) ∧ True) ∧ (.v (.one (.sc (.int .i64 (2 : Int)))) : Tm) = halterref25_What.R r ∧ ([] : List Box) = [])))) ∧ ((a3 == (20 : Int)) = false → (True ∧ (True ∧ (True ∧ ((True) ∧ ((True) ∧ True) ∧ (.v (.one (.sc (.int .i64 (1 : Int)))) : Tm) = halterref25_What.R r ∧ ([] : List Box) = [])))))))))))))) ∧ (((List.getD a2 (Int.toNat a3) (0 : Int)) == (1 : Int)) = true → (((List.getD a2 (Int.toNat a3) (0 : Int)) == (1 : Int)) = true ∧ (((List.getD a2 (Int.toNat a3) (0 : Int)) == (1 : Int)) = true ∧ (true = true ∧ (True ∧ (True ∧ ((True) ∧ ((True) ∧ True) ∧ (.v (.one (.sc (.int .i64 (0 : Int)))) : Tm) = halterref25_What.R r ∧ ([] : List Box) = []))))))))))))))))) ∧ ((a3 == (9 : Int)) = true → ((a3 == (9 : Int)) = true ∧ ((a3 == (9 : Int)) = true ∧ (true = true ∧ (True) ∧ (false = false ∧ (True) ∧ (((a3 == (18 : Int)) = true → (True ∧ (True ∧ ((True) ∧ ((True) ∧ True) ∧ (.v (.one (.sc (.int .i64 (3 : Int)))) : Tm) = halterref25_What.R r ∧ ([] : List Box) = [])))) ∧ ((a3 == (18 : Int)) = false → (True) ∧ (false = false ∧ (false = false ∧ (True) ∧ (false = false ∧ (((a3 == (17 : Int)) = true → (True ∧ (True ∧ ((True) ∧ ((True) ∧ True) ∧ (.v (.one (.sc (.int .i64 (0 : Int)))) : Tm) = halterref25_What.R r ∧ ([] : List Box) = [])))) ∧ ((a3 == (17 : Int)) = false → (True) ∧ (((a3 == (19 : Int)) = false → ((a3 == (19 : Int)) = false ∧ (True) ∧ ((a3 == (19 : Int)) = false ∧ (((a3 == (20 : Int)) = true → (True ∧ (True ∧ ((True) ∧ ((True) ∧ True) ∧ (.v (.one (.sc (.int .i64 (2 : Int)))) : Tm) = halterref25_What.R r ∧ ([] : List Box) = [])))) ∧ ((a3 == (20 : Int)) = false → (True ∧ (True ∧ (True ∧ ((True) ∧ ((True) ∧ True) ∧ (.v (.one (.sc (.int .i64 (1 : Int)))) : Tm) = halterref25_What.R r ∧ ([] : List Box) = []))))))))) ∧ ((a3 == (19 : Int)) = true → ((a3 == (19 : Int)) = true ∧ ((a3 == (19 : Int)) = true ∧ (true = true ∧ (True ∧ (True ∧ ((True) ∧ ((True) ∧ True) ∧ (.v (.one (.sc (.int .i64 (2 : Int)))) : Tm) = halterref25_What.R r ∧ ([] : List Box) = [])))))))))))))))))))))))))) ∧ ((decide (a3 < (1 : Int))) = true → ((decide (a3 < (1 : Int))) = true ∧ ((decide (a3 < (1 : Int))) = true ∧ (true = true ∧ (True ∧ (True ∧ ((True) ∧ ((True) ∧ True) ∧ (.v (.one (.sc (.int .i64 (0 : Int)))) : Tm) = halterref25_What.R r ∧ ([] : List Box) = []))))))))) (by kernel_rfl) ?_)
  refine ⟨trivial, ?_⟩
  refine ⟨fun b1 => ?_, fun b1 => ?_⟩
  · rw [if_neg (of_decide_eq_false b1)] at h
    refine ⟨b1, ?_⟩
    refine ⟨trivial, ?_⟩
    refine ⟨b1, ?_⟩
    refine ⟨fun b2 => ?_, fun b2 => ?_⟩
    · rw [if_pos (of_decide_eq_true b2)] at h
      refine ⟨trivial, ?_⟩
      refine ⟨trivial, ?_⟩
      obtain rfl := Option.some.inj h
      exact ⟨trivial, ⟨trivial, trivial⟩, rfl, rfl⟩
    · rw [if_neg (of_decide_eq_false b2)] at h
      obtain ⟨g17, h⟩ := of_guard h
      refine ⟨g17, ?_⟩
      obtain ⟨g16, h⟩ := of_guard h
      refine ⟨g16, ?_⟩
      refine ⟨trivial, ?_⟩
      refine ⟨fun b3 => ?_, fun b3 => ?_⟩
      · rw [if_neg (beq_f b3)] at h
        refine ⟨b3, ?_⟩
        refine ⟨trivial, ?_⟩
        refine ⟨b3, ?_⟩
        refine ⟨fun b8 => ?_, fun b8 => ?_⟩
        · rw [if_pos (beq_t b8)] at h
          refine ⟨trivial, ?_⟩
          refine ⟨rfl, ?_⟩
          refine ⟨trivial, ?_⟩
          refine ⟨fun b9 => ?_, fun b9 => ?_⟩
          · rw [if_pos (beq_t b9)] at h
            refine ⟨trivial, ?_⟩
            refine ⟨trivial, ?_⟩
            obtain rfl := Option.some.inj h
            exact ⟨trivial, ⟨trivial, trivial⟩, rfl, rfl⟩
          · rw [if_neg (beq_f b9)] at h
            refine ⟨trivial, ?_⟩
            refine ⟨rfl, ?_⟩
            refine ⟨rfl, ?_⟩
            refine ⟨trivial, ?_⟩
            refine ⟨rfl, ?_⟩
            refine ⟨fun b10 => ?_, fun b10 => ?_⟩
            · rw [if_pos (beq_t b10)] at h
              refine ⟨trivial, ?_⟩
              refine ⟨trivial, ?_⟩
              obtain rfl := Option.some.inj h
              exact ⟨trivial, ⟨trivial, trivial⟩, rfl, rfl⟩
            · rw [if_neg (beq_f b10)] at h
              refine ⟨trivial, ?_⟩
              refine ⟨b8, ?_⟩
              refine ⟨b8, ?_⟩
              refine ⟨b8, ?_⟩
              refine ⟨rfl, ?_⟩
              refine ⟨trivial, ?_⟩
              refine ⟨trivial, ?_⟩
              obtain rfl := Option.some.inj h
              exact ⟨trivial, ⟨trivial, trivial⟩, rfl, rfl⟩
        · rw [if_neg (beq_f b8)] at h
          refine ⟨trivial, ?_⟩
          refine ⟨fun b11 => ?_, fun b11 => ?_⟩
          · rw [if_pos (of_decide_eq_true b11)] at h
            refine ⟨trivial, ?_⟩
            refine ⟨trivial, ?_⟩
            obtain rfl := Option.some.inj h
            exact ⟨trivial, ⟨trivial, trivial⟩, rfl, rfl⟩
          · rw [if_neg (of_decide_eq_false b11)] at h
            refine ⟨trivial, ?_⟩
            refine ⟨fun b12 => ?_, fun b12 => ?_⟩
            · rw [if_pos (beq_t b12)] at h
              refine ⟨trivial, ?_⟩
              refine ⟨trivial, ?_⟩
              obtain rfl := Option.some.inj h
              exact ⟨trivial, ⟨trivial, trivial⟩, rfl, rfl⟩
            · rw [if_neg (beq_f b12)] at h
              refine ⟨trivial, ?_⟩
              refine ⟨fun b13 => ?_, fun b13 => ?_⟩
              · rw [if_neg (beq_f b13)] at h
                refine ⟨b13, ?_⟩
                refine ⟨trivial, ?_⟩
                refine ⟨b13, ?_⟩
                refine ⟨fun b14 => ?_, fun b14 => ?_⟩
                · rw [if_pos (beq_t b14)] at h
                  refine ⟨trivial, ?_⟩
                  refine ⟨trivial, ?_⟩
                  obtain rfl := Option.some.inj h
                  exact ⟨trivial, ⟨trivial, trivial⟩, rfl, rfl⟩
                · rw [if_neg (beq_f b14)] at h
                  refine ⟨trivial, ?_⟩
                  refine ⟨b8, ?_⟩
                  refine ⟨b8, ?_⟩
                  refine ⟨trivial, ?_⟩
                  refine ⟨b8, ?_⟩
                  refine ⟨fun b15 => ?_, fun b15 => ?_⟩
                  · rw [if_pos (beq_t b15)] at h
                    refine ⟨trivial, ?_⟩
                    refine ⟨trivial, ?_⟩
                    obtain rfl := Option.some.inj h
                    exact ⟨trivial, ⟨trivial, trivial⟩, rfl, rfl⟩
                  · rw [if_neg (beq_f b15)] at h
                    refine ⟨trivial, ?_⟩
                    refine ⟨trivial, ?_⟩
                    refine ⟨trivial, ?_⟩
                    obtain rfl := Option.some.inj h
                    exact ⟨trivial, ⟨trivial, trivial⟩, rfl, rfl⟩
              · rw [if_pos (beq_t b13)] at h
                refine ⟨b13, ?_⟩
                refine ⟨b13, ?_⟩
                refine ⟨rfl, ?_⟩
                refine ⟨trivial, ?_⟩
                refine ⟨trivial, ?_⟩
                obtain rfl := Option.some.inj h
                exact ⟨trivial, ⟨trivial, trivial⟩, rfl, rfl⟩
      · rw [if_pos (beq_t b3)] at h
        refine ⟨b3, ?_⟩
        refine ⟨b3, ?_⟩
        refine ⟨rfl, ?_⟩
        refine ⟨trivial, ?_⟩
        refine ⟨rfl, ?_⟩
        refine ⟨trivial, ?_⟩
        refine ⟨fun b4 => ?_, fun b4 => ?_⟩
        · rw [if_pos (beq_t b4)] at h
          refine ⟨trivial, ?_⟩
          refine ⟨trivial, ?_⟩
          obtain rfl := Option.some.inj h
          exact ⟨trivial, ⟨trivial, trivial⟩, rfl, rfl⟩
        · rw [if_neg (beq_f b4)] at h
          refine ⟨trivial, ?_⟩
          refine ⟨rfl, ?_⟩
          refine ⟨rfl, ?_⟩
          refine ⟨trivial, ?_⟩
          refine ⟨rfl, ?_⟩
          refine ⟨fun b5 => ?_, fun b5 => ?_⟩
          · rw [if_pos (beq_t b5)] at h
            refine ⟨trivial, ?_⟩
            refine ⟨trivial, ?_⟩
            obtain rfl := Option.some.inj h
            exact ⟨trivial, ⟨trivial, trivial⟩, rfl, rfl⟩
          · rw [if_neg (beq_f b5)] at h
            refine ⟨trivial, ?_⟩
            refine ⟨fun b6 => ?_, fun b6 => ?_⟩
            · rw [if_neg (beq_f b6)] at h
              refine ⟨b6, ?_⟩
              refine ⟨trivial, ?_⟩
              refine ⟨b6, ?_⟩
              refine ⟨fun b7 => ?_, fun b7 => ?_⟩
              · rw [if_pos (beq_t b7)] at h
                refine ⟨trivial, ?_⟩
                refine ⟨trivial, ?_⟩
                obtain rfl := Option.some.inj h
                exact ⟨trivial, ⟨trivial, trivial⟩, rfl, rfl⟩
              · rw [if_neg (beq_f b7)] at h
                refine ⟨trivial, ?_⟩
                refine ⟨trivial, ?_⟩
                refine ⟨trivial, ?_⟩
                obtain rfl := Option.some.inj h
                exact ⟨trivial, ⟨trivial, trivial⟩, rfl, rfl⟩
            · rw [if_pos (beq_t b6)] at h
              refine ⟨b6, ?_⟩
              refine ⟨b6, ?_⟩
              refine ⟨rfl, ?_⟩
              refine ⟨trivial, ?_⟩
              refine ⟨trivial, ?_⟩
              obtain rfl := Option.some.inj h
              exact ⟨trivial, ⟨trivial, trivial⟩, rfl, rfl⟩
  · rw [if_pos (of_decide_eq_true b1)] at h
    refine ⟨b1, ?_⟩
    refine ⟨b1, ?_⟩
    refine ⟨rfl, ?_⟩
    refine ⟨trivial, ?_⟩
    refine ⟨trivial, ?_⟩
    obtain rfl := Option.some.inj h
    exact ⟨trivial, ⟨trivial, trivial⟩, rfl, rfl⟩
/-! halter/halterref25.Post -/
def halterref25_Post.f (a0 : Int) (a1 : Int) (a2 : (List Int)) (a3 : Int) : Option (Int × Int × (List Int) × Int) :=
  (halterref25_May.f a0 a1 a2).bind fun t1 =>
  if ¬ (t1 = true) then
    some ((0 : Int), (0 : Int), (List.replicate 32 (0 : Int)), (22 : Int))
  else
    if a3 < (1 : Int) then
      some ((0 : Int), (0 : Int), (List.replicate 32 (0 : Int)), (22 : Int))
    else
      if a3 > (31 : Int) then
        some ((0 : Int), (0 : Int), (List.replicate 32 (0 : Int)), (22 : Int))
      else
        if a3 = (18 : Int) then
          (halterref03_Del.f a0 (19 : Int)).bind fun t6 =>
          (halterref03_Del.f t6 (20 : Int)).bind fun t7 =>
          if a3 = (19 : Int) then
            (halterref03_Del.f t7 (18 : Int)).bind fun t9 =>
            (halterref03_Has.f a1 a3).bind fun t10 =>
            if t10 = true then
              (halterref03_Add.f t9 a3).bind fun t12 =>
              some (t12, a1, a2, (0 : Int))
            else
              (halterref25_What.f t9 a1 a2 a3).bind fun t13 =>
              if t13 > (0 : Int) then
                (halterref03_Add.f t9 a3).bind fun t15 =>
                some (t15, a1, a2, (0 : Int))
              else
                some (t9, a1, a2, (0 : Int))
          else
            if a3 = (20 : Int) then
              (halterref03_Del.f t7 (18 : Int)).bind fun t17 =>
              (halterref03_Has.f a1 a3).bind fun t18 =>
              if t18 = true then
                (halterref03_Add.f t17 a3).bind fun t20 =>
                some (t20, a1, a2, (0 : Int))
              else
                (halterref25_What.f t17 a1 a2 a3).bind fun t21 =>
                if t21 > (0 : Int) then
                  (halterref03_Add.f t17 a3).bind fun t23 =>
                  some (t23, a1, a2, (0 : Int))
                else
                  some (t17, a1, a2, (0 : Int))
            else
              (halterref03_Has.f a1 a3).bind fun t24 =>
              if t24 = true then
                (halterref03_Add.f t7 a3).bind fun t26 =>
                some (t26, a1, a2, (0 : Int))
              else
                (halterref25_What.f t7 a1 a2 a3).bind fun t27 =>
                if t27 > (0 : Int) then
                  (halterref03_Add.f t7 a3).bind fun t29 =>
                  some (t29, a1, a2, (0 : Int))
                else
                  some (t7, a1, a2, (0 : Int))
        else
          if a3 = (19 : Int) then
            (halterref03_Del.f a0 (18 : Int)).bind fun t31 =>
            (halterref03_Has.f a1 a3).bind fun t32 =>
            if t32 = true then
              (halterref03_Add.f t31 a3).bind fun t34 =>
              some (t34, a1, a2, (0 : Int))
            else
              (halterref25_What.f t31 a1 a2 a3).bind fun t35 =>
              if t35 > (0 : Int) then
                (halterref03_Add.f t31 a3).bind fun t37 =>
                some (t37, a1, a2, (0 : Int))
              else
                some (t31, a1, a2, (0 : Int))
          else
            if a3 = (20 : Int) then
              (halterref03_Del.f a0 (18 : Int)).bind fun t39 =>
              (halterref03_Has.f a1 a3).bind fun t40 =>
              if t40 = true then
                (halterref03_Add.f t39 a3).bind fun t42 =>
                some (t42, a1, a2, (0 : Int))
              else
                (halterref25_What.f t39 a1 a2 a3).bind fun t43 =>
                if t43 > (0 : Int) then
                  (halterref03_Add.f t39 a3).bind fun t45 =>
                  some (t45, a1, a2, (0 : Int))
                else
                  some (t39, a1, a2, (0 : Int))
            else
              (halterref03_Has.f a1 a3).bind fun t46 =>
              if t46 = true then
                (halterref03_Add.f a0 a3).bind fun t48 =>
                some (t48, a1, a2, (0 : Int))
              else
                (halterref25_What.f a0 a1 a2 a3).bind fun t49 =>
                if t49 > (0 : Int) then
                  (halterref03_Add.f a0 a3).bind fun t51 =>
                  some (t51, a1, a2, (0 : Int))
                else
                  some (a0, a1, a2, (0 : Int))
def halterref25_Post.R (r : Int × Int × (List Int) × Int) : Tm := .tup [.agg [.c (.sc (.int .u32 r.1)), .c (.sc (.int .u32 r.2.1)), .row 32 (.int .u32) r.2.2.1], .one (.sc (.int .i64 r.2.2.2))]
theorem halterref25_Post.fun_ {a0 : Int} {a1 : Int} {a2 : (List Int)} {a3 : Int} {r : Int × Int × (List Int) × Int} (h : halterref25_Post.f a0 a1 a2 a3 = some r) : Fun cfg 17 [.agg [.c (.sc (.int .u32 a0)), .c (.sc (.int .u32 a1)), .row 32 (.int .u32) a2], .one (.sc (.int .i64 a3))] [] (halterref25_Post.R r) [] := by
  unfold halterref25_Post.f at h
  refine fun_of_run cfg_ok (f := 17) (fn := Tryd.f17) Tryd.func17 rfl (by kernel_rfl) (rs := [.cell 4 48, .tmp 5]) rfl (nt := 51) rfl (l := fin) (k := (.call true [] (Bool) (fun t1 => halterref25_May.R t1) (fun t1 => (.br (.one true (.one true (.one true (.one true (.one true (.one true (.adj [] (.adj [] (.adj [.drop 0] .nil))))))))) (.one false (.one false (.br (.one true (.one true (.one true (.adj [] (.adj [] (.adj [.drop 0] .nil)))))) (.one false (.one false (.br (.adj [] (.adj [] (.adj [.drop 0] .nil))) (.br (.call true [] (Int) (fun t6 => halterref03_Del.R t6) (fun t6 => (.call true [] (Int) (fun t7 => halterref03_Del.R t7) (fun t7 => (.br (.one true (.one true (.one true (.call true [] (Int) (fun t9 => halterref03_Del.R t9) (fun t9 => (.call true [] (Bool) (fun t10 => halterref03_Has.R t10) (fun t10 => (.br (.one true (.one true (.one true (.one true (.one true (.call true [] (Int) (fun t12 => halterref03_Add.R t12) (fun t12 => (.adj [] (.adj [] (.adj [.drop 0] .nil)))))))))) (.one false (.one false (.call true [] (Int) (fun t13 => halterref25_What.R t13) (fun t13 => (.one false (.one false (.br (.call true [] (Int) (fun t15 => halterref03_Add.R t15) (fun t15 => (.adj [] (.adj [] (.adj [.drop 0] .nil))))) (.adj [] (.adj [] (.adj [] (.adj [.drop 0] .nil))))))))))))))))))) (.one false (.one false (.br (.call true [] (Int) (fun t17 => halterref03_Del.R t17) (fun t17 => (.call true [] (Bool) (fun t18 => halterref03_Has.R t18) (fun t18 => (.br (.one true (.one true (.one true (.one true (.one true (.call true [] (Int) (fun t20 => halterref03_Add.R t20) (fun t20 => (.adj [] (.adj [] (.adj [.drop 0] .nil)))))))))) (.one false (.one false (.call true [] (Int) (fun t21 => halterref25_What.R t21) (fun t21 => (.one false (.one false (.br (.call true [] (Int) (fun t23 => halterref03_Add.R t23) (fun t23 => (.adj [] (.adj [] (.adj [.drop 0] .nil))))) (.adj [] (.adj [] (.adj [] (.adj [.drop 0] .nil)))))))))))))))) (.call true [] (Bool) (fun t24 => halterref03_Has.R t24) (fun t24 => (.br (.one true (.one true (.one true (.one true (.one true (.call true [] (Int) (fun t26 => halterref03_Add.R t26) (fun t26 => (.adj [] (.adj [] (.adj [.drop 0] .nil)))))))))) (.one false (.one false (.call true [] (Int) (fun t27 => halterref25_What.R t27) (fun t27 => (.one false (.one false (.br (.call true [] (Int) (fun t29 => halterref03_Add.R t29) (fun t29 => (.adj [] (.adj [] (.adj [.drop 0] .nil))))) (.adj [] (.adj [] (.adj [] (.adj [.drop 0] .nil)))))))))))))))))))))) (.br (.one true (.one true (.one true (.call true [] (Int) (fun t31 => halterref03_Del.R t31) (fun t31 => (.call true [] (Bool) (fun t32 => halterref03_Has.R t32) (fun t32 => (.br (.one true (.one true (.one true (.one true (.one true (.call true [] (Int) (fun t34 => halterref03_Add.R t34) (fun t34 => (.adj [] (.adj [] (.adj [.drop 0] .nil)))))))))) (.one false (.one false (.call true [] (Int) (fun t35 => halterref25_What.R t35) (fun t35 => (.one false (.one false (.br (.call true [] (Int) (fun t37 => halterref03_Add.R t37) (fun t37 => (.adj [] (.adj [] (.adj [.drop 0] .nil))))) (.adj [] (.adj [] (.adj [] (.adj [.drop 0] .nil))))))))))))))))))) (.one false (.one false (.br (.call true [] (Int) (fun t39 => halterref03_Del.R t39) (fun t39 => (.call true [] (Bool) (fun t40 => halterref03_Has.R t40) (fun t40 => (.br (.one true (.one true (.one true (.one true (.one true (.call true [] (Int) (fun t42 => halterref03_Add.R t42) (fun t42 => (.adj [] (.adj [] (.adj [.drop 0] .nil)))))))))) (.one false (.one false (.call true [] (Int) (fun t43 => halterref25_What.R t43) (fun t43 => (.one false (.one false (.br (.call true [] (Int) (fun t45 => halterref03_Add.R t45) (fun t45 => (.adj [] (.adj [] (.adj [.drop 0] .nil))))) (.adj [] (.adj [] (.adj [] (.adj [.drop 0] .nil)))))))))))))))) (.call true [] (Bool) (fun t46 => halterref03_Has.R t46) (fun t46 => (.br (.one true (.one true (.one true (.one true (.one true (.call true [] (Int) (fun t48 => halterref03_Add.R t48) (fun t48 => (.adj [] (.adj [] (.adj [.drop 0] .nil)))))))))) (.one false (.one false (.call true [] (Int) (fun t49 => halterref25_What.R t49) (fun t49 => (.one false (.one false (.br (.call true [] (Int) (fun t51 => halterref03_Add.R t51) (fun t51 => (.adj [] (.adj [] (.adj [.drop 0] .nil))))) (.adj [] (.adj [] (.adj [] (.adj [.drop 0] .nil))))))))))))))))))))))))))))) (to_goal (q := (True) ∧ (∃ t1 : Bool, (Fun cfg 27 [.agg [.c (.sc (.int .u32 a0)), .c (.sc (.int .u32 a1)), .row 32 (.int .u32) a2]] [] (halterref25_May.R t1) [] ∧ True) ∧ (((!t1) = false → ((!t1) = false ∧ (True) ∧ ((!t1) = false ∧ (((decide (a3 < (1 : Int))) = false → ((decide (a3 < (1 : Int))) = false ∧ (True) ∧ ((decide (a3 < (1 : Int))) = false ∧ (((decide (a3 > (31 : Int))) = true → (True ∧ (True) ∧ (True ∧ (((True) ∧ True) ∧ ((True) ∧ True) ∧ (.tup [.agg [.c (.sc (.int .u32 (0 : Int))), .c (.sc (.int .u32 (0 : Int))), .row 32 (.int .u32) (List.replicate 32 (0 : Int))], .one (.sc (.int .i64 (22 : Int)))] : Tm) = halterref25_Post.R r ∧ ([] : List Box) = [])))) ∧ ((decide (a3 > (31 : Int))) = false → (True) ∧ (((a3 == (18 : Int)) = true → (True) ∧ (∃ t6 : Int, (Fun cfg 21 [.one (.sc (.int .u32 a0)), .one (.sc (.int .i64 (19 : Int)))] [] (halterref03_Del.R t6) [] ∧ True) ∧ (∃ t7 : Int, (Fun cfg 21 [.one (.sc (.int .u32 t6)), .one (.sc (.int .i64 (20 : Int)))] [] (halterref03_Del.R t7) [] ∧ True) ∧ (True) ∧ (True) ∧ (((a3 == (19 : Int)) = false → ((a3 == (19 : Int)) = false ∧ (True) ∧ ((a3 == (19 : Int)) = false ∧ (((a3 == (20 : Int)) = true → (True) ∧ (∃ t17 : Int, (Fun cfg 21 [.one (.sc (.int .u32 t7)), .one (.sc (.int .i64 (18 : Int)))] [] (halterref03_Del.R t17) [] ∧ True) ∧ (True) ∧ (True) ∧ (∃ t18 : Bool, (Fun cfg 36 [.one (.sc (.int .u32 a1)), .one (.sc (.int .i64 a3))] [] (halterref03_Has.R t18) [] ∧ True) ∧ ((t18 = false → (True) ∧ (t18 = false ∧ (t18 = false ∧ (∃ t21 : Int, (Fun cfg 26 [.agg [.c (.sc (.int .u32 t17)), .c (.sc (.int .u32 a1)), .row 32 (.int .u32) a2], .one (.sc (.int .i64 a3))] [] (halterref25_What.R t21) [] ∧ True) ∧ (t18 = false ∧ (True) ∧ (t18 = false ∧ (((decide (t21 > (0 : Int))) = true → (True) ∧ (∃ t23 : Int, (Fun cfg 37 [.one (.sc (.int .u32 t17)), .one (.sc (.int .i64 a3))] [] (halterref03_Add.R t23) [] ∧ True) ∧ (True) ∧ (True ∧ (True) ∧ (True) ∧ (True ∧ (((True) ∧ True) ∧ ((True) ∧ True) ∧ (.tup [.agg [.c (.sc (.int .u32 t23)), .c (.sc (.int .u32 a1)), .row 32 (.int .u32) a2], .one (.sc (.int .i64 (0 : Int)))] : Tm) = halterref25_Post.R r ∧ ([] : List Box) = []))))) ∧ ((decide (t21 > (0 : Int))) = false → (True ∧ (True ∧ (True) ∧ (True) ∧ (True ∧ (((True) ∧ True) ∧ ((True) ∧ True) ∧ (.tup [.agg [.c (.sc (.int .u32 t17)), .c (.sc (.int .u32 a1)), .row 32 (.int .u32) a2], .one (.sc (.int .i64 (0 : Int)))] : Tm) = halterref25_Post.R r ∧ ([] : List Box) = [])))))))))))) ∧ (t18 = true → (t18 = true ∧ (t18 = true ∧ (t18 = true ∧ (t18 = true ∧ (true = true ∧ (True) ∧ (∃ t20 : Int, (Fun cfg 37 [.one (.sc (.int .u32 t17)), .one (.sc (.int .i64 a3))] [] (halterref03_Add.R t20) [] ∧ True) ∧ (True) ∧ (True ∧ (True) ∧ (True) ∧ (True ∧ (((True) ∧ True) ∧ ((True) ∧ True) ∧ (.tup [.agg [.c (.sc (.int .u32 t20)), .c (.sc (.int .u32 a1)), .row 32 (.int .u32) a2], .one (.sc (.int .i64 (0 : Int)))] : Tm) = halterref25_Post.R r ∧ ([] : List Box) = [])))))))))))))) ∧ ((a3 == (20 : Int)) = false → (True) ∧ (∃ t24 : Bool, (Fun cfg 36 [.one (.sc (.int .u32 a1)), .one (.sc (.int .i64 a3))] [] (halterref03_Has.R t24) [] ∧ True) ∧ ((t24 = false → (True) ∧ (t24 = false ∧ (t24 = false ∧ (∃ t27 : Int, (Fun cfg 26 [.agg [.c (.sc (.int .u32 t7)), .c (.sc (.int .u32 a1)), .row 32 (.int .u32) a2], .one (.sc (.int .i64 a3))] [] (halterref25_What.R t27) [] ∧ True) ∧ (t24 = false ∧ (True) ∧ (t24 = false ∧ (((decide (t27 > (0 : Int))) = true → (True) ∧ (∃ t29 : Int, (Fun cfg 37 [.one (.sc (.int .u32 t7)), .one (.sc (.int .i64 a3))] [] (halterref03_Add.R t29) [] ∧ True) ∧ (True) ∧ (True ∧ (True) ∧ (True) ∧ (True ∧ (((True) ∧ True) ∧ ((True) ∧ True) ∧ (.tup [.agg [.c (.sc (.int .u32 t29)), .c (.sc (.int .u32 a1)), .row 32 (.int .u32) a2], .one (.sc (.int .i64 (0 : Int)))] : Tm) = halterref25_Post.R r ∧ ([] : List Box) = []))))) ∧ ((decide (t27 > (0 : Int))) = false → (True ∧ (True ∧ (True) ∧ (True) ∧ (True ∧ (((True) ∧ True) ∧ ((True) ∧ True) ∧ (.tup [.agg [.c (.sc (.int .u32 t7)), .c (.sc (.int .u32 a1)), .row 32 (.int .u32) a2], .one (.sc (.int .i64 (0 : Int)))] : Tm) = halterref25_Post.R r ∧ ([] : List Box) = [])))))))))))) ∧ (t24 = true → (t24 = true ∧ (t24 = true ∧ (t24 = true ∧ (t24 = true ∧ (true = true ∧ (True) ∧ (∃ t26 : Int, (Fun cfg 37 [.one (.sc (.int .u32 t7)), .one (.sc (.int .i64 a3))] [] (halterref03_Add.R t26) [] ∧ True) ∧ (True) ∧ (True ∧ (True) ∧ (True) ∧ (True ∧ (((True) ∧ True) ∧ ((True) ∧ True) ∧ (.tup [.agg [.c (.sc (.int .u32 t26)), .c (.sc (.int .u32 a1)), .row 32 (.int .u32) a2], .one (.sc (.int .i64 (0 : Int)))] : Tm) = halterref25_Post.R r ∧ ([] : List Box) = []))))))))))))))))) ∧ ((a3 == (19 : Int)) = true → ((a3 == (19 : Int)) = true ∧ ((a3 == (19 : Int)) = true ∧ (true = true ∧ (True) ∧ (∃ t9 : Int, (Fun cfg 21 [.one (.sc (.int .u32 t7)), .one (.sc (.int .i64 (18 : Int)))] [] (halterref03_Del.R t9) [] ∧ True) ∧ (True) ∧ (True) ∧ (∃ t10 : Bool, (Fun cfg 36 [.one (.sc (.int .u32 a1)), .one (.sc (.int .i64 a3))] [] (halterref03_Has.R t10) [] ∧ True) ∧ ((t10 = false → (True) ∧ (t10 = false ∧ (t10 = false ∧ (∃ t13 : Int, (Fun cfg 26 [.agg [.c (.sc (.int .u32 t9)), .c (.sc (.int .u32 a1)), .row 32 (.int .u32) a2], .one (.sc (.int .i64 a3))] [] (halterref25_What.R t13) [] ∧ True) ∧ (t10 = false ∧ (True) ∧ (t10 = false ∧ (((decide (t13 > (0 : Int))) = true → (True) ∧ (∃ t15 : Int, (Fun cfg 37 [.one (.sc (.int .u32 t9)), .one (.sc (.int .i64 a3))] [] (halterref03_Add.R t15) [] ∧ True) ∧ (True) ∧ (True ∧ (True) ∧ (True) ∧ (True ∧ (((True) ∧ True) ∧ ((True) ∧ True) ∧ (.tup [.agg [.c (.sc (.int .u32 t15)), .c (.sc (.int .u32 a1)), .row 32 (.int .u32) a2], .one (.sc (.int .i64 (0 : Int)))] : Tm) = halterref25_Post.R r ∧ ([] : List Box) = []))))) ∧ ((decide (t13 > (0 : Int))) = false → (True ∧ (True ∧ (True) ∧ (True) ∧ (True ∧ (((True) ∧ True) ∧ ((True) ∧ True) ∧ (.tup [.agg [.c (.sc (.int .u32 t9)), .c (.sc (.int .u32 a1)), .row 32 (.int .u32) a2], .one (.sc (.int .i64 (0 : Int)))] : Tm) = halterref25_Post.R r ∧ ([] : List Box) = [])))))))))))) ∧ (t10 = true → (t10 = true ∧ (t10 = true ∧ (t10 = true ∧ (t10 = true ∧ (true = true ∧ (True) ∧ (∃ t12 : Int, (Fun cfg 37 [.one (.sc (.int .u32 t9)), .one (.sc (.int .i64 a3))] [] (halterref03_Add.R t12) [] ∧ True) ∧ (True) ∧ (True ∧ (True) ∧ (True) ∧ (True ∧ (((True) ∧ True) ∧ ((True) ∧ True) ∧ (.tup [.agg [.c (.sc (.int .u32 t12)), .c (.sc (.int .u32 a1)), .row 32 (.int .u32) a2], .one (.sc (.int .i64 (0 : Int)))] : Tm) = halterref25_Post.R r ∧ ([] : List Box) = []))))))))))))))))))))) ∧ ((a3 == (18 : Int)) = false → (True) ∧ (((a3 == (19 : Int)) = false → ((a3 == (19 : Int)) = false ∧ (True) ∧ ((a3 == (19 : Int)) = false ∧ (((a3 == (20 : Int)) = true → (True) ∧ (∃ t39 : Int, (Fun cfg 21 [.one (.sc (.int .u32 a0)), .one (.sc (.int .i64 (18 : Int)))] [] (halterref03_Del.R t39) [] ∧ True) ∧ (True) ∧ (True) ∧ (∃ t40 : Bool, (Fun cfg 36 [.one (.sc (.int .u32 a1)), .one (.sc (.int .i64 a3))] [] (halterref03_Has.R t40) [] ∧ True) ∧ ((t40 = false → (True) ∧ (t40 = false ∧ (t40 = false ∧ (∃ t43 : Int, (Fun cfg 26 [.agg [.c (.sc (.int .u32 t39)), .c (.sc (.int .u32 a1)), .row 32 (.int .u32) a2], .one (.sc (.int .i64 a3))] [] (halterref25_What.R t43) [] ∧ True) ∧ (t40 = false ∧ (True) ∧ (t40 = false ∧ (((decide (t43 > (0 : Int))) = true → (True) ∧ (∃ t45 : Int, (Fun cfg 37 [.one (.sc (.int .u32 t39)), .one (.sc (.int .i64 a3))] [] (halterref03_Add.R t45) [] ∧ True) ∧ (True) ∧ (True ∧ (True) ∧ (True) ∧ (True ∧ (((True) ∧ True) ∧ ((True) ∧ True) ∧ (.tup [.agg [.c (.sc (.int .u32 t45)), .c (.sc (.int .u32 a1)), .row 32 (.int .u32) a2], .one (.sc (.int .i64 (0 : Int)))] : Tm) = halterref25_Post.R r ∧ ([] : List Box) = []))))) ∧ ((decide (t43 > (0 : Int))) = false → (True ∧ (True ∧ (True) ∧ (True) ∧ (True ∧ (((True) ∧ True) ∧ ((True) ∧ True) ∧ (.tup [.agg [.c (.sc (.int .u32 t39)), .c (.sc (.int .u32 a1)), .row 32 (.int .u32) a2], .one (.sc (.int .i64 (0 : Int)))] : Tm) = halterref25_Post.R r ∧ ([] : List Box) = [])))))))))))) ∧ (t40 = true → (t40 = true ∧ (t40 = true ∧ (t40 = true ∧ (t40 = true ∧ (true = true ∧ (True) ∧ (∃ t42 : Int, (Fun cfg 37 [.one (.sc (.int .u32 t39)), .one (.sc (.int .i64 a3))] [] (halterref03_Add.R t42) [] ∧ True) ∧ (True) ∧ (True ∧ (True) ∧ (True) ∧ (True ∧ (((True) ∧ True) ∧ ((True) ∧ True) ∧ (.tup [.agg [.c (.sc (.int .u32 t42)), .c (.sc (.int .u32 a1)), .row 32 (.int .u32) a2], .one (.sc (.int .i64 (0 : Int)))] : Tm) = halterref25_Post.R r ∧ ([] : List Box) = [])))))))))))))) ∧ ((a3 == (20 : Int)) = false → (True) ∧ (∃ t46 : Bool, (Fun cfg 36 [.one (.sc (.int .u32 a1)), .one (.sc (.int .i64 a3))] [] (halterref03_Has.R t46) [] ∧ True) ∧ ((t46 = false → (True) ∧ (t46 = false ∧ (t46 = false ∧ (∃ t49 : Int, (Fun cfg 26 [.agg [.c (.sc (.int .u32 a0)), .c (.sc (.int .u32 a1)), .row 32 (.int .u32) a2], .one (.sc (.int .i64 a3))] [] (halterref25_What.R t49) [] ∧ True) ∧ (t46 = false ∧ (True) ∧ (t46 = false ∧ (((decide (t49 > (0 : Int))) = true → (True) ∧ (∃ t51 : Int, (Fun cfg 37 [.one (.sc (.int .u32 a0)), .one (.sc (.int .i64 a3))] [] (halterref03_Add.R t51) [] ∧ True) ∧ (True) ∧ (True ∧ (True) ∧ (True) ∧ (True ∧ (((True) ∧ True) ∧ ((True) ∧ True) ∧ (.tup [.agg [.c (.sc (.int .u32 t51)), .c (.sc (.int .u32 a1)), .row 32 (.int .u32) a2], .one (.sc (.int .i64 (0 : Int)))] : Tm) = halterref25_Post.R r ∧ ([] : List Box) = []))))) ∧ ((decide (t49 > (0 : Int))) = false → (True ∧ (True ∧ (True) ∧ (True) ∧ (True ∧ (((True) ∧ True) ∧ ((True) ∧ True) ∧ (.tup [.agg [.c (.sc (.int .u32 a0)), .c (.sc (.int .u32 a1)), .row 32 (.int .u32) a2], .one (.sc (.int .i64 (0 : Int)))] : Tm) = halterref25_Post.R r ∧ ([] : List Box) = [])))))))))))) ∧ (t46 = true → (t46 = true ∧ (t46 = true ∧ (t46 = true ∧ (t46 = true ∧ (true = true ∧ (True) ∧ (∃ t48 : Int, (Fun cfg 37 [.one (.sc (.int .u32 a0)), .one (.sc (.int .i64 a3))] [] (halterref03_Add.R t48) [] ∧ True) ∧ (True) ∧ (True ∧ (True) ∧ (True) ∧ (True ∧ (((True) ∧ True) ∧ ((True) ∧ True) ∧ (.tup [.agg [.c (.sc (.int .u32 t48)), .c (.sc (.int .u32 a1)), .row 32 (.int .u32) a2], .one (.sc (.int .i64 (0 : Int)))] : Tm) = halterref25_Post.R r ∧ ([] : List Box) = []))))))))))))))))) ∧ ((a3 == (19 : Int)) = true → ((a3 == (19 : Int)) = true ∧ ((a3 == (19 : Int)) = true ∧ (true = true ∧ (True) ∧ (∃ t31 : Int, (Fun cfg 21 [.one (.sc (.int .u32 a0)), .one (.sc (.int .i64 (18 : Int)))] [] (halterref03_Del.R t31) [] ∧ True) ∧ (True) ∧ (True) ∧ (∃ t32 : Bool, (Fun cfg 36 [.one (.sc (.int .u32 a1)), .one (.sc (.int .i64 a3))] [] (halterref03_Has.R t32) [] ∧ True) ∧ ((t32 = false → (True) ∧ (t32 = false ∧ (t32 = false ∧ (∃ t35 : Int, (Fun cfg 26 [.agg [.c (.sc (.int .u32 t31)), .c (.sc (.int .u32 a1)), .row 32 (.int .u32) a2], .one (.sc (.int .i64 a3))] [] (halterref25_What.R t35) [] ∧ True) ∧ (t32 = false ∧ (True) ∧ (t32 = false ∧ (((decide (t35 > (0 : Int))) = true → (True) ∧ (∃ t37 : Int, (Fun cfg 37 [.one (.sc (.int .u32 t31)), .one (.sc (.int .i64 a3))] [] (halterref03_Add.R t37) [] ∧ True) ∧ (True) ∧ (True ∧ (True) ∧ (True) ∧ (True ∧ (((True) ∧ True) ∧ ((True) ∧ True) ∧ (.tup [.agg [.c (.sc (.int .u32 t37)), .c (.sc (.int .u32 a1)), .row 32 (.int .u32) a2], .one (.sc (.int .i64 (0 : Int)))] : Tm) = halterref25_Post.R r ∧ ([] : List Box) = []))))) ∧ ((decide (t35 > (0 : Int))) = false → (True ∧ (True ∧ (True) ∧ (True) ∧ (True ∧ (((True) ∧ True) ∧ ((True) ∧ True) ∧ (.tup [.agg [.c (.sc (.int .u32 t31)), .c (.sc (.int .u32 a1)), .row 32 (.int .u32) a2], .one (.sc (.int .i64 (0 : Int)))] : Tm) = halterref25_Post.R r ∧ ([] : List Box) = [])))))))))))) ∧ (t32 = true → (t32 = true ∧ (t32 = true ∧ (t32 = true ∧ (t32 = true ∧ (true = true ∧ (True) ∧ (∃ t34 : Int, (Fun cfg 37 [.one (.sc (.int .u32 t31)), .one (.sc (.int .i64 a3))] [] (halterref03_Add.R t34) [] ∧ True) ∧ (True) ∧ (True ∧ (True) ∧ (True) ∧ (True ∧ (((True) ∧ True) ∧ ((True) ∧ True) ∧ (.tup [.agg [.c (.sc (.int .u32 t34)), .c (.sc (.int .u32 a1)), .row 32 (.int .u32) a2], .one (.sc (.int .i64 (0 : Int)))] : Tm) = halterref25_Post.R r ∧ ([] : List Box) = []))))))))))))))))))))))))) ∧ ((decide (a3 < (1 : Int))) = true → ((decide (a3 < (1 : Int))) = true ∧ ((decide (a3 < (1 : Int))) = true ∧ (true = true ∧ (True ∧ (True) ∧ (True ∧ (((True) ∧ True) ∧ ((True) ∧ True) ∧ (.tup [.agg [.c (.sc (.int .u32 (0 : Int))), .c (.sc (.int .u32 (0 : Int))), .row 32 (.int .u32) (List.replicate 32 (0 : Int))], .one (.sc (.int .i64 (22 : Int)))] : Tm) = halterref25_Post.R r ∧ ([] : List Box) = []))))))))))) ∧ ((!t1) = true → ((!t1) = true ∧ ((!t1) = true ∧ (true = true ∧ (true = true ∧ (true = true ∧ (true = true ∧ (True ∧ (True) ∧ (True ∧ (((True) ∧ True) ∧ ((True) ∧ True) ∧ (.tup [.agg [.c (.sc (.int .u32 (0 : Int))), .c (.sc (.int .u32 (0 : Int))), .row 32 (.int .u32) (List.replicate 32 (0 : Int))], .one (.sc (.int .i64 (22 : Int)))] : Tm) = halterref25_Post.R r ∧ ([] : List Box) = []))))))))))))) (by kernel_rfl) ?_)
  refine ⟨trivial, ?_⟩
  obtain ⟨t1, ht1, h⟩ := of_bind h
  refine ⟨t1, ⟨halterref25_May.fun_ ht1, trivial⟩, ?_⟩
  refine ⟨fun b2 => ?_, fun b2 => ?_⟩
  · rw [if_neg (not_not_intro (not_f b2))] at h
    refine ⟨b2, ?_⟩
    refine ⟨trivial, ?_⟩
    refine ⟨b2, ?_⟩
    refine ⟨fun b3 => ?_, fun b3 => ?_⟩
    · rw [if_neg (of_decide_eq_false b3)] at h
      refine ⟨b3, ?_⟩
      refine ⟨trivial, ?_⟩
      refine ⟨b3, ?_⟩
      refine ⟨fun b4 => ?_, fun b4 => ?_⟩
      · rw [if_pos (of_decide_eq_true b4)] at h
        refine ⟨trivial, ?_⟩
        refine ⟨trivial, ?_⟩
        refine ⟨trivial, ?_⟩
        obtain rfl := Option.some.inj h
        exact ⟨⟨trivial, trivial⟩, ⟨trivial, trivial⟩, rfl, rfl⟩
      · rw [if_neg (of_decide_eq_false b4)] at h
        refine ⟨trivial, ?_⟩
        refine ⟨fun b5 => ?_, fun b5 => ?_⟩
        · rw [if_pos (beq_t b5)] at h
          refine ⟨trivial, ?_⟩
          obtain ⟨t6, ht6, h⟩ := of_bind h
          refine ⟨t6, ⟨halterref03_Del.fun_ ht6, trivial⟩, ?_⟩
          obtain ⟨t7, ht7, h⟩ := of_bind h
          refine ⟨t7, ⟨halterref03_Del.fun_ ht7, trivial⟩, ?_⟩
          refine ⟨trivial, ?_⟩
          refine ⟨trivial, ?_⟩
          refine ⟨fun b8 => ?_, fun b8 => ?_⟩
          · rw [if_neg (beq_f b8)] at h
            refine ⟨b8, ?_⟩
            refine ⟨trivial, ?_⟩
            refine ⟨b8, ?_⟩
            refine ⟨fun b16 => ?_, fun b16 => ?_⟩
            · rw [if_pos (beq_t b16)] at h
              refine ⟨trivial, ?_⟩
              obtain ⟨t17, ht17, h⟩ := of_bind h
              refine ⟨t17, ⟨halterref03_Del.fun_ ht17, trivial⟩, ?_⟩
              refine ⟨trivial, ?_⟩
              refine ⟨trivial, ?_⟩
              obtain ⟨t18, ht18, h⟩ := of_bind h
              refine ⟨t18, ⟨halterref03_Has.fun_ ht18, trivial⟩, ?_⟩
              refine ⟨fun b19 => ?_, fun b19 => ?_⟩
              · rw [if_neg (ff b19)] at h
                refine ⟨trivial, ?_⟩
                refine ⟨b19, ?_⟩
                refine ⟨b19, ?_⟩
                obtain ⟨t21, ht21, h⟩ := of_bind h
                refine ⟨t21, ⟨halterref25_What.fun_ ht21, trivial⟩, ?_⟩
                refine ⟨b19, ?_⟩
                refine ⟨trivial, ?_⟩
                refine ⟨b19, ?_⟩
                refine ⟨fun b22 => ?_, fun b22 => ?_⟩
                · rw [if_pos (of_decide_eq_true b22)] at h
                  refine ⟨trivial, ?_⟩
                  obtain ⟨t23, ht23, h⟩ := of_bind h
                  refine ⟨t23, ⟨halterref03_Add.fun_ ht23, trivial⟩, ?_⟩
                  refine ⟨trivial, ?_⟩
                  refine ⟨trivial, ?_⟩
                  refine ⟨trivial, ?_⟩
                  refine ⟨trivial, ?_⟩
                  refine ⟨trivial, ?_⟩
                  obtain rfl := Option.some.inj h
                  exact ⟨⟨trivial, trivial⟩, ⟨trivial, trivial⟩, rfl, rfl⟩
                · rw [if_neg (of_decide_eq_false b22)] at h
                  refine ⟨trivial, ?_⟩
                  refine ⟨trivial, ?_⟩
                  refine ⟨trivial, ?_⟩
                  refine ⟨trivial, ?_⟩
                  refine ⟨trivial, ?_⟩
                  obtain rfl := Option.some.inj h
                  exact ⟨⟨trivial, trivial⟩, ⟨trivial, trivial⟩, rfl, rfl⟩
              · rw [if_pos b19] at h
                refine ⟨b19, ?_⟩
                refine ⟨b19, ?_⟩
                refine ⟨b19, ?_⟩
                refine ⟨b19, ?_⟩
                refine ⟨rfl, ?_⟩
                refine ⟨trivial, ?_⟩
                obtain ⟨t20, ht20, h⟩ := of_bind h
                refine ⟨t20, ⟨halterref03_Add.fun_ ht20, trivial⟩, ?_⟩
                refine ⟨trivial, ?_⟩
                refine ⟨trivial, ?_⟩
                refine ⟨trivial, ?_⟩
                refine ⟨trivial, ?_⟩
                refine ⟨trivial, ?_⟩
                obtain rfl := Option.some.inj h
                exact ⟨⟨trivial, trivial⟩, ⟨trivial, trivial⟩, rfl, rfl⟩
            · rw [if_neg (beq_f b16)] at h
              refine ⟨trivial, ?_⟩
              obtain ⟨t24, ht24, h⟩ := of_bind h
              refine ⟨t24, ⟨halterref03_Has.fun_ ht24, trivial⟩, ?_⟩
              refine ⟨fun b25 => ?_, fun b25 => ?_⟩
              · rw [if_neg (ff b25)] at h
                refine ⟨trivial, ?_⟩
                refine ⟨b25, ?_⟩
                refine ⟨b25, ?_⟩
                obtain ⟨t27, ht27, h⟩ := of_bind h
                refine ⟨t27, ⟨halterref25_What.fun_ ht27, trivial⟩, ?_⟩
                refine ⟨b25, ?_⟩
                refine ⟨trivial, ?_⟩
                refine ⟨b25, ?_⟩
                refine ⟨fun b28 => ?_, fun b28 => ?_⟩
                · rw [if_pos (of_decide_eq_true b28)] at h
                  refine ⟨trivial, ?_⟩
                  obtain ⟨t29, ht29, h⟩ := of_bind h
                  refine ⟨t29, ⟨halterref03_Add.fun_ ht29, trivial⟩, ?_⟩
                  refine ⟨trivial, ?_⟩
                  refine ⟨trivial, ?_⟩
                  refine ⟨trivial, ?_⟩
                  refine ⟨trivial, ?_⟩
                  refine ⟨trivial, ?_⟩
                  obtain rfl := Option.some.inj h
                  exact ⟨⟨trivial, trivial⟩, ⟨trivial, trivial⟩, rfl, rfl⟩
                · rw [if_neg (of_decide_eq_false b28)] at h
                  refine ⟨trivial, ?_⟩
                  refine ⟨trivial, ?_⟩
                  refine ⟨trivial, ?_⟩
                  refine ⟨trivial, ?_⟩
                  refine ⟨trivial, ?_⟩
                  obtain rfl := Option.some.inj h
                  exact ⟨⟨trivial, trivial⟩, ⟨trivial, trivial⟩, rfl, rfl⟩
              · rw [if_pos b25] at h
                refine ⟨b25, ?_⟩
                refine ⟨b25, ?_⟩
                refine ⟨b25, ?_⟩
                refine ⟨b25, ?_⟩
                refine ⟨rfl, ?_⟩
                refine ⟨trivial, ?_⟩
                obtain ⟨t26, ht26, h⟩ := of_bind h
                refine ⟨t26, ⟨halterref03_Add.fun_ ht26, trivial⟩, ?_⟩
                refine ⟨trivial, ?_⟩
                refine ⟨trivial, ?_⟩
                refine ⟨trivial, ?_⟩
                refine ⟨trivial, ?_⟩
                refine ⟨trivial, ?_⟩
                obtain rfl := Option.some.inj h
                exact ⟨⟨trivial, trivial⟩, ⟨trivial, trivial⟩, rfl, rfl⟩
          · rw [if_pos (beq_t b8)] at h
            refine ⟨b8, ?_⟩
            refine ⟨b8, ?_⟩
            refine ⟨rfl, ?_⟩
            refine ⟨trivial, ?_⟩
            obtain ⟨t9, ht9, h⟩ := of_bind h
            refine ⟨t9, ⟨halterref03_Del.fun_ ht9, trivial⟩, ?_⟩
            refine ⟨trivial, ?_⟩
            refine ⟨trivial, ?_⟩
            obtain ⟨t10, ht10, h⟩ := of_bind h
            refine ⟨t10, ⟨halterref03_Has.fun_ ht10, trivial⟩, ?_⟩
            refine ⟨fun b11 => ?_, fun b11 => ?_⟩
            · rw [if_neg (ff b11)] at h
              refine ⟨trivial, ?_⟩
              refine ⟨b11, ?_⟩
              refine ⟨b11, ?_⟩
              obtain ⟨t13, ht13, h⟩ := of_bind h
              refine ⟨t13, ⟨halterref25_What.fun_ ht13, trivial⟩, ?_⟩
              refine ⟨b11, ?_⟩
              refine ⟨trivial, ?_⟩
              refine ⟨b11, ?_⟩
              refine ⟨fun b14 => ?_, fun b14 => ?_⟩
              · rw [if_pos (of_decide_eq_true b14)] at h
                refine ⟨trivial, ?_⟩
                obtain ⟨t15, ht15, h⟩ := of_bind h
                refine ⟨t15, ⟨halterref03_Add.fun_ ht15, trivial⟩, ?_⟩
                refine ⟨trivial, ?_⟩
                refine ⟨trivial, ?_⟩
                refine ⟨trivial, ?_⟩
                refine ⟨trivial, ?_⟩
                refine ⟨trivial, ?_⟩
                obtain rfl := Option.some.inj h
                exact ⟨⟨trivial, trivial⟩, ⟨trivial, trivial⟩, rfl, rfl⟩
              · rw [if_neg (of_decide_eq_false b14)] at h
                refine ⟨trivial, ?_⟩
                refine ⟨trivial, ?_⟩
                refine ⟨trivial, ?_⟩
                refine ⟨trivial, ?_⟩
                refine ⟨trivial, ?_⟩
                obtain rfl := Option.some.inj h
                exact ⟨⟨trivial, trivial⟩, ⟨trivial, trivial⟩, rfl, rfl⟩
            · rw [if_pos b11] at h
              refine ⟨b11, ?_⟩
              refine ⟨b11, ?_⟩
              refine ⟨b11, ?_⟩
              refine ⟨b11, ?_⟩
              refine ⟨rfl, ?_⟩
              refine ⟨trivial, ?_⟩
              obtain ⟨t12, ht12, h⟩ := of_bind h
              refine ⟨t12, ⟨halterref03_Add.fun_ ht12, trivial⟩, ?_⟩
              refine ⟨trivial, ?_⟩
              refine ⟨trivial, ?_⟩
              refine ⟨trivial, ?_⟩
              refine ⟨trivial, ?_⟩
              refine ⟨trivial, ?_⟩
              obtain rfl := Option.some.inj h
              exact ⟨⟨trivial, trivial⟩, ⟨trivial, trivial⟩, rfl, rfl⟩
        · rw [if_neg (beq_f b5)] at h
          refine ⟨trivial, ?_⟩
          refine ⟨fun b30 => ?_, fun b30 => ?_⟩
          · rw [if_neg (beq_f b30)] at h
            refine ⟨b30, ?_⟩
            refine ⟨trivial, ?_⟩
            refine ⟨b30, ?_⟩
            refine ⟨fun b38 => ?_, fun b38 => ?_⟩
            · rw [if_pos (beq_t b38)] at h
              refine ⟨trivial, ?_⟩
              obtain ⟨t39, ht39, h⟩ := of_bind h
              refine ⟨t39, ⟨halterref03_Del.fun_ ht39, trivial⟩, ?_⟩
              refine ⟨trivial, ?_⟩
              refine ⟨trivial, ?_⟩
              obtain ⟨t40, ht40, h⟩ := of_bind h
              refine ⟨t40, ⟨halterref03_Has.fun_ ht40, trivial⟩, ?_⟩
              refine ⟨fun b41 => ?_, fun b41 => ?_⟩
              · rw [if_neg (ff b41)] at h
                refine ⟨trivial, ?_⟩
                refine ⟨b41, ?_⟩
                refine ⟨b41, ?_⟩
                obtain ⟨t43, ht43, h⟩ := of_bind h
                refine ⟨t43, ⟨halterref25_What.fun_ ht43, trivial⟩, ?_⟩
                refine ⟨b41, ?_⟩
                refine ⟨trivial, ?_⟩
                refine ⟨b41, ?_⟩
                refine ⟨fun b44 => ?_, fun b44 => ?_⟩
                · rw [if_pos (of_decide_eq_true b44)] at h
                  refine ⟨trivial, ?_⟩
                  obtain ⟨t45, ht45, h⟩ := of_bind h
                  refine ⟨t45, ⟨halterref03_Add.fun_ ht45, trivial⟩, ?_⟩
                  refine ⟨trivial, ?_⟩
                  refine ⟨trivial, ?_⟩
                  refine ⟨trivial, ?_⟩
                  refine ⟨trivial, ?_⟩
                  refine ⟨trivial, ?_⟩
                  obtain rfl := Option.some.inj h
                  exact ⟨⟨trivial, trivial⟩, ⟨trivial, trivial⟩, rfl, rfl⟩
                · rw [if_neg (of_decide_eq_false b44)] at h
                  refine ⟨trivial, ?_⟩
                  refine ⟨trivial, ?_⟩
                  refine ⟨trivial, ?_⟩
                  refine ⟨trivial, ?_⟩
                  refine ⟨trivial, ?_⟩
                  obtain rfl := Option.some.inj h
                  exact ⟨⟨trivial, trivial⟩, ⟨trivial, trivial⟩, rfl, rfl⟩
              · rw [if_pos b41] at h
                refine ⟨b41, ?_⟩
                refine ⟨b41, ?_⟩
                refine ⟨b41, ?_⟩
                refine ⟨b41, ?_⟩
                refine ⟨rfl, ?_⟩
                refine ⟨trivial, ?_⟩
                obtain ⟨t42, ht42, h⟩ := of_bind h
                refine ⟨t42, ⟨halterref03_Add.fun_ ht42, trivial⟩, ?_⟩
                refine ⟨trivial, ?_⟩
                refine ⟨trivial, ?_⟩
                refine ⟨trivial, ?_⟩
                refine ⟨trivial, ?_⟩
                refine ⟨trivial, ?_⟩
                obtain rfl := Option.some.inj h
                exact ⟨⟨trivial, trivial⟩, ⟨trivial, trivial⟩, rfl, rfl⟩
            · rw [if_neg (beq_f b38)] at h
              refine ⟨trivial, ?_⟩
              obtain ⟨t46, ht46, h⟩ := of_bind h
              refine ⟨t46, ⟨halterref03_Has.fun_ ht46, trivial⟩, ?_⟩
              refine ⟨fun b47 => ?_, fun b47 => ?_⟩
              · rw [if_neg (ff b47)] at h
                refine ⟨trivial, ?_⟩
                refine ⟨b47, ?_⟩
                refine ⟨b47, ?_⟩
                obtain ⟨t49, ht49, h⟩ := of_bind h
                refine ⟨t49, ⟨halterref25_What.fun_ ht49, trivial⟩, ?_⟩
                refine ⟨b47, ?_⟩
                refine ⟨trivial, ?_⟩
                refine ⟨b47, ?_⟩
                refine ⟨fun b50 => ?_, fun b50 => ?_⟩
                · rw [if_pos (of_decide_eq_true b50)] at h
                  refine ⟨trivial, ?_⟩
                  obtain ⟨t51, ht51, h⟩ := of_bind h
                  refine ⟨t51, ⟨halterref03_Add.fun_ ht51, trivial⟩, ?_⟩
                  refine ⟨trivial, ?_⟩
                  refine ⟨trivial, ?_⟩
                  refine ⟨trivial, ?_⟩
                  refine ⟨trivial, ?_⟩
                  refine ⟨trivial, ?_⟩
                  obtain rfl := Option.some.inj h
                  exact ⟨⟨trivial, trivial⟩, ⟨trivial, trivial⟩, rfl, rfl⟩
                · rw [if_neg (of_decide_eq_false b50)] at h
                  refine ⟨trivial, ?_⟩
                  refine ⟨trivial, ?_⟩
                  refine ⟨trivial, ?_⟩
                  refine ⟨trivial, ?_⟩
                  refine ⟨trivial, ?_⟩
                  obtain rfl := Option.some.inj h
                  exact ⟨⟨trivial, trivial⟩, ⟨trivial, trivial⟩, rfl, rfl⟩
              · rw [if_pos b47] at h
                refine ⟨b47, ?_⟩
                refine ⟨b47, ?_⟩
                refine ⟨b47, ?_⟩
                refine ⟨b47, ?_⟩
                refine ⟨rfl, ?_⟩
                refine ⟨trivial, ?_⟩
                obtain ⟨t48, ht48, h⟩ := of_bind h
                refine ⟨t48, ⟨halterref03_Add.fun_ ht48, trivial⟩, ?_⟩
                refine ⟨trivial, ?_⟩
                refine ⟨trivial, ?_⟩
                refine ⟨trivial, ?_⟩
                refine ⟨trivial, ?_⟩
                refine ⟨trivial, ?_⟩
                obtain rfl := Option.some.inj h
                exact ⟨⟨trivial, trivial⟩, ⟨trivial, trivial⟩, rfl, rfl⟩
          · rw [if_pos (beq_t b30)] at h
            refine ⟨b30, ?_⟩
            refine ⟨b30, ?_⟩
            refine ⟨rfl, ?_⟩
            refine ⟨trivial, ?_⟩
            obtain ⟨t31, ht31, h⟩ := of_bind h
            refine ⟨t31, ⟨halterref03_Del.fun_ ht31, trivial⟩, ?_⟩
            refine ⟨trivial, ?_⟩
            refine ⟨trivial, ?_⟩
            obtain ⟨t32, ht32, h⟩ := of_bind h
            refine ⟨t32, ⟨halterref03_Has.fun_ ht32, trivial⟩, ?_⟩
            refine ⟨fun b33 => ?_, fun b33 => ?_⟩
            · rw [if_neg (ff b33)] at h
              refine ⟨trivial, ?_⟩
              refine ⟨b33, ?_⟩
              refine ⟨b33, ?_⟩
              obtain ⟨t35, ht35, h⟩ := of_bind h
              refine ⟨t35, ⟨halterref25_What.fun_ ht35, trivial⟩, ?_⟩
              refine ⟨b33, ?_⟩
              refine ⟨trivial, ?_⟩
              refine ⟨b33, ?_⟩
              refine ⟨fun b36 => ?_, fun b36 => ?_⟩
              · rw [if_pos (of_decide_eq_true b36)] at h
                refine ⟨trivial, ?_⟩
                obtain ⟨t37, ht37, h⟩ := of_bind h
                refine ⟨t37, ⟨halterref03_Add.fun_ ht37, trivial⟩, ?_⟩
                refine ⟨trivial, ?_⟩
                refine ⟨trivial, ?_⟩
                refine ⟨trivial, ?_⟩
                refine ⟨trivial, ?_⟩
                refine ⟨trivial, ?_⟩
                obtain rfl := Option.some.inj h
                exact ⟨⟨trivial, trivial⟩, ⟨trivial, trivial⟩, rfl, rfl⟩
              · rw [if_neg (of_decide_eq_false b36)] at h
                refine ⟨trivial, ?_⟩
                refine ⟨trivial, ?_⟩
                refine ⟨trivial, ?_⟩
                refine ⟨trivial, ?_⟩
                refine ⟨trivial, ?_⟩
                obtain rfl := Option.some.inj h
                exact ⟨⟨trivial, trivial⟩, ⟨trivial, trivial⟩, rfl, rfl⟩
            · rw [if_pos b33] at h
              refine ⟨b33, ?_⟩
              refine ⟨b33, ?_⟩
              refine ⟨b33, ?_⟩
              refine ⟨b33, ?_⟩
              refine ⟨rfl, ?_⟩
              refine ⟨trivial, ?_⟩
              obtain ⟨t34, ht34, h⟩ := of_bind h
              refine ⟨t34, ⟨halterref03_Add.fun_ ht34, trivial⟩, ?_⟩
              refine ⟨trivial, ?_⟩
              refine ⟨trivial, ?_⟩
              refine ⟨trivial, ?_⟩
              refine ⟨trivial, ?_⟩
              refine ⟨trivial, ?_⟩
              obtain rfl := Option.some.inj h
              exact ⟨⟨trivial, trivial⟩, ⟨trivial, trivial⟩, rfl, rfl⟩
    · rw [if_pos (of_decide_eq_true b3)] at h
      refine ⟨b3, ?_⟩
      refine ⟨b3, ?_⟩
      refine ⟨rfl, ?_⟩
      refine ⟨trivial, ?_⟩
      refine ⟨trivial, ?_⟩
      refine ⟨trivial, ?_⟩
      obtain rfl := Option.some.inj h
      exact ⟨⟨trivial, trivial⟩, ⟨trivial, trivial⟩, rfl, rfl⟩
  · rw [if_pos (ff (not_t b2))] at h
    refine ⟨b2, ?_⟩
    refine ⟨b2, ?_⟩
    refine ⟨rfl, ?_⟩
    refine ⟨rfl, ?_⟩
    refine ⟨rfl, ?_⟩
    refine ⟨rfl, ?_⟩
    refine ⟨trivial, ?_⟩
    refine ⟨trivial, ?_⟩
    refine ⟨trivial, ?_⟩
    obtain rfl := Option.some.inj h
    exact ⟨⟨trivial, trivial⟩, ⟨trivial, trivial⟩, rfl, rfl⟩
/-! halter/sigset.Del -/
def sigset_Del.f (a0 : Int) (a1 : Int) : Option Int :=
  (sigset_One.f a1).bind fun t1 =>
  some (bits .andNot .u32 (bits .and .u32 a0 (2147483647 : Int)) t1)
def sigset_Del.R (r : Int) : Tm := .v (.one (.sc (.int .u32 r)))
theorem sigset_Del.fun_ {a0 : Int} {a1 : Int} {r : Int} (h : sigset_Del.f a0 a1 = some r) : Fun cfg 32 [.one (.sc (.int .u32 a0)), .one (.sc (.int .i64 a1))] [] (sigset_Del.R r) [] := by
  unfold sigset_Del.f at h
  refine fun_of_run cfg_ok (f := 32) (fn := Tryd.f32) Tryd.func32 rfl (by kernel_rfl) (rs := [.tmp 4]) rfl (nt := 10) rfl (l := fin) (k := (.call true [] (Int) (fun t1 => sigset_One.R t1) (fun t1 => (.adj [] (.adj [] .nil))))) (to_goal (q := (True) ∧ (∃ t1 : Int, (Fun cfg 33 [.one (.sc (.int .i64 a1))] [] (sigset_One.R t1) [] ∧ True) ∧ (True) ∧ (True ∧ ((True) ∧ (True) ∧ (.v (.one (.sc (.int .u32 (bits .andNot .u32 (bits .and .u32 a0 (2147483647 : Int)) t1)))) : Tm) = sigset_Del.R r ∧ ([] : List Box) = [])))) (by kernel_rfl) ?_)
  refine ⟨trivial, ?_⟩
  obtain ⟨t1, ht1, h⟩ := of_bind h
  refine ⟨t1, ⟨sigset_One.fun_ ht1, trivial⟩, ?_⟩
  refine ⟨trivial, ?_⟩
  refine ⟨trivial, ?_⟩
  obtain rfl := Option.some.inj h
  exact ⟨trivial, trivial, rfl, rfl⟩
/-! halter/sig.Take -/
def sig_Take.f (a0 : Int) (a1 : Int) (a2 : (List Int)) (a3 : Int) : Option (Int × Int × (List Int)) :=
  (sigset_Del.f a0 a3).bind fun t1 =>
  some (t1, a1, a2)
def sig_Take.R (r : Int × Int × (List Int)) : Tm := .v (.agg [.c (.sc (.int .u32 r.1)), .c (.sc (.int .u32 r.2.1)), .row 32 (.int .u32) r.2.2])
theorem sig_Take.fun_ {a0 : Int} {a1 : Int} {a2 : (List Int)} {a3 : Int} {r : Int × Int × (List Int)} (h : sig_Take.f a0 a1 a2 a3 = some r) : Fun cfg 10 [.agg [.c (.sc (.int .u32 a0)), .c (.sc (.int .u32 a1)), .row 32 (.int .u32) a2], .one (.sc (.int .i64 a3))] [] (sig_Take.R r) [] := by
  unfold sig_Take.f at h
  refine fun_of_run cfg_ok (f := 10) (fn := Tryd.f10) Tryd.func10 rfl (by kernel_rfl) (rs := [.cell 4 27]) rfl (nt := 11) rfl (l := fin) (k := (.call true [] (Int) (fun t1 => sigset_Del.R t1) (fun t1 => (.adj [] (.adj [] (.adj [.drop 0] .nil)))))) (to_goal (q := (True) ∧ (∃ t1 : Int, (Fun cfg 32 [.one (.sc (.int .u32 a0)), .one (.sc (.int .i64 a3))] [] (sigset_Del.R t1) [] ∧ True) ∧ (True) ∧ (True ∧ (True) ∧ (True) ∧ (True ∧ (((True) ∧ True) ∧ ((True) ∧ True) ∧ (.v (.agg [.c (.sc (.int .u32 t1)), .c (.sc (.int .u32 a1)), .row 32 (.int .u32) a2]) : Tm) = sig_Take.R r ∧ ([] : List Box) = []))))) (by kernel_rfl) ?_)
  refine ⟨trivial, ?_⟩
  obtain ⟨t1, ht1, h⟩ := of_bind h
  refine ⟨t1, ⟨sigset_Del.fun_ ht1, trivial⟩, ?_⟩
  refine ⟨trivial, ?_⟩
  refine ⟨trivial, ?_⟩
  refine ⟨trivial, ?_⟩
  refine ⟨trivial, ?_⟩
  refine ⟨trivial, ?_⟩
  obtain rfl := Option.some.inj h
  exact ⟨⟨trivial, trivial⟩, ⟨trivial, trivial⟩, rfl, rfl⟩
/-! halter/sig.Act -/
def sig_Act.f (a0 : Int) (a1 : Int) (a2 : (List Int)) (a3 : Int) (a4 : Int) : Option (Int × Int × (List Int) × (Option Int)) :=
  (sig_Check.f a0 a1 a2).bind fun t1 =>
  if ¬ (t1 = none) then
    some ((0 : Int), (0 : Int), (List.replicate 32 (0 : Int)), (some (22 : Int)))
  else
    (sig_signal.f a3).bind fun t3 =>
    if ¬ (t3 = true) then
      some ((0 : Int), (0 : Int), (List.replicate 32 (0 : Int)), (some (22 : Int)))
    else
      if a3 = (9 : Int) then
        some ((0 : Int), (0 : Int), (List.replicate 32 (0 : Int)), (some (22 : Int)))
      else
        if a3 = (19 : Int) then
          some ((0 : Int), (0 : Int), (List.replicate 32 (0 : Int)), (some (22 : Int)))
        else
          if 0 ≤ a3 ∧ a3 < ((32 : Nat) : Int) then
            if (Int.toNat a3) < 32 then
              (sig_What.f a0 a1 (List.set a2 (Int.toNat a3) a4) a3).bind fun t7 =>
              if t7 = (0 : Int) then
                (sig_Take.f a0 a1 (List.set a2 (Int.toNat a3) a4) a3).bind fun t9 =>
                some (t9.1, t9.2.1, t9.2.2, none)
              else
                some (a0, a1, (List.set a2 (Int.toNat a3) a4), none)
            else none
          else none
def sig_Act.R (r : Int × Int × (List Int) × (Option Int)) : Tm := .tup [.agg [.c (.sc (.int .u32 r.1)), .c (.sc (.int .u32 r.2.1)), .row 32 (.int .u32) r.2.2.1], .one (.err r.2.2.2)]
theorem sig_Act.fun_ {a0 : Int} {a1 : Int} {a2 : (List Int)} {a3 : Int} {a4 : Int} {r : Int × Int × (List Int) × (Option Int)} (h : sig_Act.f a0 a1 a2 a3 a4 = some r) : Fun cfg 12 [.agg [.c (.sc (.int .u32 a0)), .c (.sc (.int .u32 a1)), .row 32 (.int .u32) a2], .one (.sc (.int .i64 a3)), .one (.sc (.int .u32 a4))] [] (sig_Act.R r) [] := by
  unfold sig_Act.f at h
  refine fun_of_run cfg_ok (f := 12) (fn := Tryd.f12) Tryd.func12 rfl (by kernel_rfl) (rs := [.cell 6 27, .tmp 7]) rfl (nt := 38) rfl (l := fin) (k := (.call true [] ((Option Int)) (fun t1 => sig_Check.R t1) (fun t1 => (.br (.one true (.one true (.one true (.one true (.one true (.one true (.one true (.one true (.one true (.one true (.adj [] (.adj [] (.adj [.drop 0] .nil))))))))))))) (.one false (.call true [] (Bool) (fun t3 => sig_signal.R t3) (fun t3 => (.one false (.one false (.br (.one true (.one true (.one true (.one true (.one true (.one true (.adj [] (.adj [] (.adj [.drop 0] .nil))))))))) (.one false (.one false (.br (.one true (.one true (.one true (.adj [] (.adj [] (.adj [.drop 0] .nil)))))) (.one false (.one false (.br (.adj [] (.adj [] (.adj [.drop 0] .nil))) (.call true [] (Int) (fun t7 => sig_What.R t7) (fun t7 => (.br (.call true [] (Int × Int × (List Int)) (fun t9 => sig_Take.R t9) (fun t9 => (.adj [] (.adj [.drop 0] .nil)))) (.adj [] (.adj [] (.adj [] (.adj [.drop 0] .nil))))))))))))))))))))))) (to_goal (q := (True) ∧ (∃ t1 : (Option Int), (Fun cfg 14 [.agg [.c (.sc (.int .u32 a0)), .c (.sc (.int .u32 a1)), .row 32 (.int .u32) a2]] [] (sig_Check.R t1) [] ∧ True) ∧ (True) ∧ (((!(Option.isNone t1)) = false → ((!(Option.isNone t1)) = false ∧ (∃ t3 : Bool, (Fun cfg 28 [.one (.sc (.int .i64 a3))] [] (sig_signal.R t3) [] ∧ True) ∧ ((!(Option.isNone t1)) = false ∧ ((!(Option.isNone t1)) = false ∧ (((!t3) = false → ((!t3) = false ∧ (True) ∧ ((!t3) = false ∧ (((a3 == (9 : Int)) = false → ((a3 == (9 : Int)) = false ∧ (True) ∧ ((a3 == (9 : Int)) = false ∧ (((a3 == (19 : Int)) = true → (True ∧ (True) ∧ (True ∧ (((True) ∧ True) ∧ ((True) ∧ True) ∧ (.tup [.agg [.c (.sc (.int .u32 (0 : Int))), .c (.sc (.int .u32 (0 : Int))), .row 32 (.int .u32) (List.replicate 32 (0 : Int))], .one (.err (some (22 : Int)))] : Tm) = sig_Act.R r ∧ ([] : List Box) = [])))) ∧ ((a3 == (19 : Int)) = false → (0 ≤ a3 ∧ a3 < ((32 : Nat) : Int)) ∧ ((Int.toNat a3) < 32) ∧ (True) ∧ (∃ t7 : Int, (Fun cfg 13 [.agg [.c (.sc (.int .u32 a0)), .c (.sc (.int .u32 a1)), .row 32 (.int .u32) (List.set a2 (Int.toNat a3) a4)], .one (.sc (.int .i64 a3))] [] (sig_What.R t7) [] ∧ True) ∧ (True) ∧ (((t7 == (0 : Int)) = true → (True) ∧ (∃ t9 : Int × Int × (List Int), (Fun cfg 10 [.agg [.c (.sc (.int .u32 a0)), .c (.sc (.int .u32 a1)), .row 32 (.int .u32) (List.set a2 (Int.toNat a3) a4)], .one (.sc (.int .i64 a3))] [] (sig_Take.R t9) [] ∧ True) ∧ (True) ∧ (True ∧ (((True) ∧ True) ∧ ((True) ∧ True) ∧ (.tup [.agg [.c (.sc (.int .u32 t9.1)), .c (.sc (.int .u32 t9.2.1)), .row 32 (.int .u32) t9.2.2], .one (.err none)] : Tm) = sig_Act.R r ∧ ([] : List Box) = [])))) ∧ ((t7 == (0 : Int)) = false → (True ∧ (True ∧ (True) ∧ (True) ∧ (True ∧ (((True) ∧ True) ∧ ((True) ∧ True) ∧ (.tup [.agg [.c (.sc (.int .u32 a0)), .c (.sc (.int .u32 a1)), .row 32 (.int .u32) (List.set a2 (Int.toNat a3) a4)], .one (.err none)] : Tm) = sig_Act.R r ∧ ([] : List Box) = [])))))))))))) ∧ ((a3 == (9 : Int)) = true → ((a3 == (9 : Int)) = true ∧ ((a3 == (9 : Int)) = true ∧ (true = true ∧ (True ∧ (True) ∧ (True ∧ (((True) ∧ True) ∧ ((True) ∧ True) ∧ (.tup [.agg [.c (.sc (.int .u32 (0 : Int))), .c (.sc (.int .u32 (0 : Int))), .row 32 (.int .u32) (List.replicate 32 (0 : Int))], .one (.err (some (22 : Int)))] : Tm) = sig_Act.R r ∧ ([] : List Box) = []))))))))))) ∧ ((!t3) = true → ((!t3) = true ∧ ((!t3) = true ∧ (true = true ∧ (true = true ∧ (true = true ∧ (true = true ∧ (True ∧ (True) ∧ (True ∧ (((True) ∧ True) ∧ ((True) ∧ True) ∧ (.tup [.agg [.c (.sc (.int .u32 (0 : Int))), .c (.sc (.int .u32 (0 : Int))), .row 32 (.int .u32) (List.replicate 32 (0 : Int))], .one (.err (some (22 : Int)))] : Tm) = sig_Act.R r ∧ ([] : List Box) = [])))))))))))))))) ∧ ((!(Option.isNone t1)) = true → ((!(Option.isNone t1)) = true ∧ ((!(Option.isNone t1)) = true ∧ ((!(Option.isNone t1)) = true ∧ (true = true ∧ (true = true ∧ (true = true ∧ (true = true ∧ (true = true ∧ (true = true ∧ (true = true ∧ (True ∧ (True) ∧ (True ∧ (((True) ∧ True) ∧ ((True) ∧ True) ∧ (.tup [.agg [.c (.sc (.int .u32 (0 : Int))), .c (.sc (.int .u32 (0 : Int))), .row 32 (.int .u32) (List.replicate 32 (0 : Int))], .one (.err (some (22 : Int)))] : Tm) = sig_Act.R r ∧ ([] : List Box) = []))))))))))))))))) (by kernel_rfl) ?_)
  refine ⟨trivial, ?_⟩
  obtain ⟨t1, ht1, h⟩ := of_bind h
  refine ⟨t1, ⟨sig_Check.fun_ ht1, trivial⟩, ?_⟩
  refine ⟨trivial, ?_⟩
  refine ⟨fun b2 => ?_, fun b2 => ?_⟩
  · rw [if_neg (not_not_intro (none_t (not_f b2)))] at h
    refine ⟨b2, ?_⟩
    obtain ⟨t3, ht3, h⟩ := of_bind h
    refine ⟨t3, ⟨sig_signal.fun_ ht3, trivial⟩, ?_⟩
    refine ⟨b2, ?_⟩
    refine ⟨b2, ?_⟩
    refine ⟨fun b4 => ?_, fun b4 => ?_⟩
    · rw [if_neg (not_not_intro (not_f b4))] at h
      refine ⟨b4, ?_⟩
      refine ⟨trivial, ?_⟩
      refine ⟨b4, ?_⟩
      refine ⟨fun b5 => ?_, fun b5 => ?_⟩
      · rw [if_neg (beq_f b5)] at h
        refine ⟨b5, ?_⟩
        refine ⟨trivial, ?_⟩
        refine ⟨b5, ?_⟩
        refine ⟨fun b6 => ?_, fun b6 => ?_⟩
        · rw [if_pos (beq_t b6)] at h
          refine ⟨trivial, ?_⟩
          refine ⟨trivial, ?_⟩
          refine ⟨trivial, ?_⟩
          obtain rfl := Option.some.inj h
          exact ⟨⟨trivial, trivial⟩, ⟨trivial, trivial⟩, rfl, rfl⟩
        · rw [if_neg (beq_f b6)] at h
          obtain ⟨g11, h⟩ := of_guard h
          refine ⟨g11, ?_⟩
          obtain ⟨g10, h⟩ := of_guard h
          refine ⟨g10, ?_⟩
          refine ⟨trivial, ?_⟩
          obtain ⟨t7, ht7, h⟩ := of_bind h
          refine ⟨t7, ⟨sig_What.fun_ ht7, trivial⟩, ?_⟩
          refine ⟨trivial, ?_⟩
          refine ⟨fun b8 => ?_, fun b8 => ?_⟩
          · rw [if_pos (beq_t b8)] at h
            refine ⟨trivial, ?_⟩
            obtain ⟨t9, ht9, h⟩ := of_bind h
            refine ⟨t9, ⟨sig_Take.fun_ ht9, trivial⟩, ?_⟩
            refine ⟨trivial, ?_⟩
            refine ⟨trivial, ?_⟩
            obtain rfl := Option.some.inj h
            exact ⟨⟨trivial, trivial⟩, ⟨trivial, trivial⟩, rfl, rfl⟩
          · rw [if_neg (beq_f b8)] at h
            refine ⟨trivial, ?_⟩
            refine ⟨trivial, ?_⟩
            refine ⟨trivial, ?_⟩
            refine ⟨trivial, ?_⟩
            refine ⟨trivial, ?_⟩
            obtain rfl := Option.some.inj h
            exact ⟨⟨trivial, trivial⟩, ⟨trivial, trivial⟩, rfl, rfl⟩
      · rw [if_pos (beq_t b5)] at h
        refine ⟨b5, ?_⟩
        refine ⟨b5, ?_⟩
        refine ⟨rfl, ?_⟩
        refine ⟨trivial, ?_⟩
        refine ⟨trivial, ?_⟩
        refine ⟨trivial, ?_⟩
        obtain rfl := Option.some.inj h
        exact ⟨⟨trivial, trivial⟩, ⟨trivial, trivial⟩, rfl, rfl⟩
    · rw [if_pos (ff (not_t b4))] at h
      refine ⟨b4, ?_⟩
      refine ⟨b4, ?_⟩
      refine ⟨rfl, ?_⟩
      refine ⟨rfl, ?_⟩
      refine ⟨rfl, ?_⟩
      refine ⟨rfl, ?_⟩
      refine ⟨trivial, ?_⟩
      refine ⟨trivial, ?_⟩
      refine ⟨trivial, ?_⟩
      obtain rfl := Option.some.inj h
      exact ⟨⟨trivial, trivial⟩, ⟨trivial, trivial⟩, rfl, rfl⟩
  · rw [if_pos (none_f (not_t b2))] at h
    refine ⟨b2, ?_⟩
    refine ⟨b2, ?_⟩
    refine ⟨b2, ?_⟩
    refine ⟨rfl, ?_⟩
    refine ⟨rfl, ?_⟩
    refine ⟨rfl, ?_⟩
    refine ⟨rfl, ?_⟩
    refine ⟨rfl, ?_⟩
    refine ⟨rfl, ?_⟩
    refine ⟨rfl, ?_⟩
    refine ⟨trivial, ?_⟩
    refine ⟨trivial, ?_⟩
    refine ⟨trivial, ?_⟩
    obtain rfl := Option.some.inj h
    exact ⟨⟨trivial, trivial⟩, ⟨trivial, trivial⟩, rfl, rfl⟩
/-! halter/halterref25.Act -/
def halterref25_Act.f (a0 : Int) (a1 : Int) (a2 : (List Int)) (a3 : Int) (a4 : Int) : Option (Int × Int × (List Int) × Int) :=
  (halterref25_May.f a0 a1 a2).bind fun t1 =>
  if ¬ (t1 = true) then
    some ((0 : Int), (0 : Int), (List.replicate 32 (0 : Int)), (22 : Int))
  else
    if a3 < (1 : Int) then
      some ((0 : Int), (0 : Int), (List.replicate 32 (0 : Int)), (22 : Int))
    else
      if a3 > (31 : Int) then
        some ((0 : Int), (0 : Int), (List.replicate 32 (0 : Int)), (22 : Int))
      else
        if a3 = (9 : Int) then
          some ((0 : Int), (0 : Int), (List.replicate 32 (0 : Int)), (22 : Int))
        else
          if a3 = (19 : Int) then
            some ((0 : Int), (0 : Int), (List.replicate 32 (0 : Int)), (22 : Int))
          else
            if 0 ≤ a3 ∧ a3 < ((32 : Nat) : Int) then
              if (Int.toNat a3) < 32 then
                (halterref25_What.f a0 a1 (List.set a2 (Int.toNat a3) a4) a3).bind fun t7 =>
                if t7 = (0 : Int) then
                  (halterref03_Del.f a0 a3).bind fun t9 =>
                  some (t9, a1, (List.set a2 (Int.toNat a3) a4), (0 : Int))
                else
                  some (a0, a1, (List.set a2 (Int.toNat a3) a4), (0 : Int))
              else none
            else none
def halterref25_Act.R (r : Int × Int × (List Int) × Int) : Tm := .tup [.agg [.c (.sc (.int .u32 r.1)), .c (.sc (.int .u32 r.2.1)), .row 32 (.int .u32) r.2.2.1], .one (.sc (.int .i64 r.2.2.2))]
theorem halterref25_Act.fun_ {a0 : Int} {a1 : Int} {a2 : (List Int)} {a3 : Int} {a4 : Int} {r : Int × Int × (List Int) × Int} (h : halterref25_Act.f a0 a1 a2 a3 a4 = some r) : Fun cfg 18 [.agg [.c (.sc (.int .u32 a0)), .c (.sc (.int .u32 a1)), .row 32 (.int .u32) a2], .one (.sc (.int .i64 a3)), .one (.sc (.int .u32 a4))] [] (halterref25_Act.R r) [] := by
  unfold halterref25_Act.f at h
  refine fun_of_run cfg_ok (f := 18) (fn := Tryd.f18) Tryd.func18 rfl (by kernel_rfl) (rs := [.cell 6 48, .tmp 7]) rfl (nt := 42) rfl (l := fin) (k := (.call true [] (Bool) (fun t1 => halterref25_May.R t1) (fun t1 => (.br (.one true (.one true (.one true (.one true (.one true (.one true (.one true (.one true (.one true (.one true (.one true (.one true (.adj [] (.adj [] (.adj [.drop 0] .nil))))))))))))))) (.one false (.one false (.br (.one true (.one true (.one true (.one true (.one true (.one true (.one true (.one true (.one true (.adj [] (.adj [] (.adj [.drop 0] .nil)))))))))))) (.one false (.one false (.br (.one true (.one true (.one true (.one true (.one true (.one true (.adj [] (.adj [] (.adj [.drop 0] .nil))))))))) (.one false (.one false (.br (.one true (.one true (.one true (.adj [] (.adj [] (.adj [.drop 0] .nil)))))) (.one false (.one false (.br (.adj [] (.adj [] (.adj [.drop 0] .nil))) (.call true [] (Int) (fun t7 => halterref25_What.R t7) (fun t7 => (.br (.call true [] (Int) (fun t9 => halterref03_Del.R t9) (fun t9 => (.adj [] (.adj [] (.adj [.drop 0] .nil))))) (.adj [] (.adj [] (.adj [] (.adj [.drop 0] .nil))))))))))))))))))))))) (to_goal (q := (True) ∧ (∃ t1 : Bool, (Fun cfg 27 [.agg [.c (.sc (.int .u32 a0)), .c (.sc (.int .u32 a1)), .row 32 (.int .u32) a2]] [] (halterref25_May.R t1) [] ∧ True) ∧ (((!t1) = false → ((!t1) = false ∧ (True) ∧ ((!t1) = false ∧ (((decide (a3 < (1 : Int))) = false → ((decide (a3 < (1 : Int))) = false ∧ (True) ∧ ((decide (a3 < (1 : Int))) = false ∧ (((decide (a3 > (31 : Int))) = false → ((decide (a3 > (31 : Int))) = false ∧ (True) ∧ ((decide (a3 > (31 : Int))) = false ∧ (((a3 == (9 : Int)) = false → ((a3 == (9 : Int)) = false ∧ (True) ∧ ((a3 == (9 : Int)) = false ∧ (((a3 == (19 : Int)) = true → (True ∧ (True) ∧ (True ∧ (((True) ∧ True) ∧ ((True) ∧ True) ∧ (.tup [.agg [.c (.sc (.int .u32 (0 : Int))), .c (.sc (.int .u32 (0 : Int))), .row 32 (.int .u32) (List.replicate 32 (0 : Int))], .one (.sc (.int .i64 (22 : Int)))] : Tm) = halterref25_Act.R r ∧ ([] : List Box) = [])))) ∧ ((a3 == (19 : Int)) = false → (0 ≤ a3 ∧ a3 < ((32 : Nat) : Int)) ∧ ((Int.toNat a3) < 32) ∧ (True) ∧ (∃ t7 : Int, (Fun cfg 26 [.agg [.c (.sc (.int .u32 a0)), .c (.sc (.int .u32 a1)), .row 32 (.int .u32) (List.set a2 (Int.toNat a3) a4)], .one (.sc (.int .i64 a3))] [] (halterref25_What.R t7) [] ∧ True) ∧ (True) ∧ (((t7 == (0 : Int)) = true → (True) ∧ (∃ t9 : Int, (Fun cfg 21 [.one (.sc (.int .u32 a0)), .one (.sc (.int .i64 a3))] [] (halterref03_Del.R t9) [] ∧ True) ∧ (True) ∧ (True ∧ (True) ∧ (True) ∧ (True ∧ (((True) ∧ True) ∧ ((True) ∧ True) ∧ (.tup [.agg [.c (.sc (.int .u32 t9)), .c (.sc (.int .u32 a1)), .row 32 (.int .u32) (List.set a2 (Int.toNat a3) a4)], .one (.sc (.int .i64 (0 : Int)))] : Tm) = halterref25_Act.R r ∧ ([] : List Box) = []))))) ∧ ((t7 == (0 : Int)) = false → (True ∧ (True ∧ (True) ∧ (True) ∧ (True ∧ (((True) ∧ True) ∧ ((True) ∧ True) ∧ (.tup [.agg [.c (.sc (.int .u32 a0)), .c (.sc (.int .u32 a1)), .row 32 (.int .u32) (List.set a2 (Int.toNat a3) a4)], .one (.sc (.int .i64 (0 : Int)))] : Tm) = halterref25_Act.R r ∧ ([] : List Box) = [])))))))))))) ∧ ((a3 == (9 : Int)) = true → ((a3 == (9 : Int)) = true ∧ ((a3 == (9 : Int)) = true ∧ (true = true ∧ (True ∧ (True) ∧ (True ∧ (((True) ∧ True) ∧ ((True) ∧ True) ∧ (.tup [.agg [.c (.sc (.int .u32 (0 : Int))), .c (.sc (.int .u32 (0 : Int))), .row 32 (.int .u32) (List.replicate 32 (0 : Int))], .one (.sc (.int .i64 (22 : Int)))] : Tm) = halterref25_Act.R r ∧ ([] : List Box) = []))))))))))) ∧ ((decide (a3 > (31 : Int))) = true → ((decide (a3 > (31 : Int))) = true ∧ ((decide (a3 > (31 : Int))) = true ∧ (true = true ∧ (true = true ∧ (true = true ∧ (true = true ∧ (True ∧ (True) ∧ (True ∧ (((True) ∧ True) ∧ ((True) ∧ True) ∧ (.tup [.agg [.c (.sc (.int .u32 (0 : Int))), .c (.sc (.int .u32 (0 : Int))), .row 32 (.int .u32) (List.replicate 32 (0 : Int))], .one (.sc (.int .i64 (22 : Int)))] : Tm) = halterref25_Act.R r ∧ ([] : List Box) = [])))))))))))))) ∧ ((decide (a3 < (1 : Int))) = true → ((decide (a3 < (1 : Int))) = true ∧ ((decide (a3 < (1 : Int))) = true ∧ (true = true ∧ (true = true ∧ (true = true ∧ (true = true ∧ (true = true ∧ (true = true ∧ (true = true ∧ (True ∧ (True) ∧ (True ∧ (((True) ∧ True) ∧ ((True) ∧ True) ∧ (.tup [.agg [.c (.sc (.int .u32 (0 : Int))), .c (.sc (.int .u32 (0 : Int))), .row 32 (.int .u32) (List.replicate 32 (0 : Int))], .one (.sc (.int .i64 (22 : Int)))] : Tm) = halterref25_Act.R r ∧ ([] : List Box) = []))))))))))))))))) ∧ ((!t1) = true → ((!t1) = true ∧ ((!t1) = true ∧ (true = true ∧ (true = true ∧ (true = true ∧ (true = true ∧ (true = true ∧ (true = true ∧ (true = true ∧ (true = true ∧ (true = true ∧ (true = true ∧ (True ∧ (True) ∧ (True ∧ (((True) ∧ True) ∧ ((True) ∧ True) ∧ (.tup [.agg [.c (.sc (.int .u32 (0 : Int))), .c (.sc (.int .u32 (0 : Int))), .row 32 (.int .u32) (List.replicate 32 (0 : Int))], .one (.sc (.int .i64 (22 : Int)))] : Tm) = halterref25_Act.R r ∧ ([] : List Box) = []))))))))))))))))))) (by kernel_rfl) ?_)
  refine ⟨trivial, ?_⟩
  obtain ⟨t1, ht1, h⟩ := of_bind h
  refine ⟨t1, ⟨halterref25_May.fun_ ht1, trivial⟩, ?_⟩
  refine ⟨fun b2 => ?_, fun b2 => ?_⟩
  · rw [if_neg (not_not_intro (not_f b2))] at h
    refine ⟨b2, ?_⟩
    refine ⟨trivial, ?_⟩
    refine ⟨b2, ?_⟩
    refine ⟨fun b3 => ?_, fun b3 => ?_⟩
    · rw [if_neg (of_decide_eq_false b3)] at h
      refine ⟨b3, ?_⟩
      refine ⟨trivial, ?_⟩
      refine ⟨b3, ?_⟩
      refine ⟨fun b4 => ?_, fun b4 => ?_⟩
      · rw [if_neg (of_decide_eq_false b4)] at h
        refine ⟨b4, ?_⟩
        refine ⟨trivial, ?_⟩
        refine ⟨b4, ?_⟩
        refine ⟨fun b5 => ?_, fun b5 => ?_⟩
        · rw [if_neg (beq_f b5)] at h
          refine ⟨b5, ?_⟩
          refine ⟨trivial, ?_⟩
          refine ⟨b5, ?_⟩
          refine ⟨fun b6 => ?_, fun b6 => ?_⟩
          · rw [if_pos (beq_t b6)] at h
            refine ⟨trivial, ?_⟩
            refine ⟨trivial, ?_⟩
            refine ⟨trivial, ?_⟩
            obtain rfl := Option.some.inj h
            exact ⟨⟨trivial, trivial⟩, ⟨trivial, trivial⟩, rfl, rfl⟩
          · rw [if_neg (beq_f b6)] at h
            obtain ⟨g11, h⟩ := of_guard h
            refine ⟨g11, ?_⟩
            obtain ⟨g10, h⟩ := of_guard h
            refine ⟨g10, ?_⟩
            refine ⟨trivial, ?_⟩
            obtain ⟨t7, ht7, h⟩ := of_bind h
            refine ⟨t7, ⟨halterref25_What.fun_ ht7, trivial⟩, ?_⟩
            refine ⟨trivial, ?_⟩
            refine ⟨fun b8 => ?_, fun b8 => ?_⟩
            · rw [if_pos (beq_t b8)] at h
              refine ⟨trivial, ?_⟩
              obtain ⟨t9, ht9, h⟩ := of_bind h
              refine ⟨t9, ⟨halterref03_Del.fun_ ht9, trivial⟩, ?_⟩
              refine ⟨trivial, ?_⟩
              refine ⟨trivial, ?_⟩
              refine ⟨trivial, ?_⟩
              refine ⟨trivial, ?_⟩
              refine ⟨trivial, ?_⟩
              obtain rfl := Option.some.inj h
              exact ⟨⟨trivial, trivial⟩, ⟨trivial, trivial⟩, rfl, rfl⟩
            · rw [if_neg (beq_f b8)] at h
              refine ⟨trivial, ?_⟩
              refine ⟨trivial, ?_⟩
              refine ⟨trivial, ?_⟩
              refine ⟨trivial, ?_⟩
              refine ⟨trivial, ?_⟩
              obtain rfl := Option.some.inj h
              exact ⟨⟨trivial, trivial⟩, ⟨trivial, trivial⟩, rfl, rfl⟩
        · rw [if_pos (beq_t b5)] at h
          refine ⟨b5, ?_⟩
          refine ⟨b5, ?_⟩
          refine ⟨rfl, ?_⟩
          refine ⟨trivial, ?_⟩
          refine ⟨trivial, ?_⟩
          refine ⟨trivial, ?_⟩
          obtain rfl := Option.some.inj h
          exact ⟨⟨trivial, trivial⟩, ⟨trivial, trivial⟩, rfl, rfl⟩
      · rw [if_pos (of_decide_eq_true b4)] at h
        refine ⟨b4, ?_⟩
        refine ⟨b4, ?_⟩
        refine ⟨rfl, ?_⟩
        refine ⟨rfl, ?_⟩
        refine ⟨rfl, ?_⟩
        refine ⟨rfl, ?_⟩
        refine ⟨trivial, ?_⟩
        refine ⟨trivial, ?_⟩
        refine ⟨trivial, ?_⟩
        obtain rfl := Option.some.inj h
        exact ⟨⟨trivial, trivial⟩, ⟨trivial, trivial⟩, rfl, rfl⟩
    · rw [if_pos (of_decide_eq_true b3)] at h
      refine ⟨b3, ?_⟩
      refine ⟨b3, ?_⟩
      refine ⟨rfl, ?_⟩
      refine ⟨rfl, ?_⟩
      refine ⟨rfl, ?_⟩
      refine ⟨rfl, ?_⟩
      refine ⟨rfl, ?_⟩
      refine ⟨rfl, ?_⟩
      refine ⟨rfl, ?_⟩
      refine ⟨trivial, ?_⟩
      refine ⟨trivial, ?_⟩
      refine ⟨trivial, ?_⟩
      obtain rfl := Option.some.inj h
      exact ⟨⟨trivial, trivial⟩, ⟨trivial, trivial⟩, rfl, rfl⟩
  · rw [if_pos (ff (not_t b2))] at h
    refine ⟨b2, ?_⟩
    refine ⟨b2, ?_⟩
    refine ⟨rfl, ?_⟩
    refine ⟨rfl, ?_⟩
    refine ⟨rfl, ?_⟩
    refine ⟨rfl, ?_⟩
    refine ⟨rfl, ?_⟩
    refine ⟨rfl, ?_⟩
    refine ⟨rfl, ?_⟩
    refine ⟨rfl, ?_⟩
    refine ⟨rfl, ?_⟩
    refine ⟨rfl, ?_⟩
    refine ⟨trivial, ?_⟩
    refine ⟨trivial, ?_⟩
    refine ⟨trivial, ?_⟩
    obtain rfl := Option.some.inj h
    exact ⟨⟨trivial, trivial⟩, ⟨trivial, trivial⟩, rfl, rfl⟩
/-! halter/sig.Mask -/
def sig_Mask.f (a0 : Int) (a1 : Int) (a2 : (List Int)) (a3 : Int) (a4 : Int) : Option (Int × Int × (List Int) × (Option Int)) :=
  (sig_Check.f a0 a1 a2).bind fun t1 =>
  if ¬ (t1 = none) then
    some ((0 : Int), (0 : Int), (List.replicate 32 (0 : Int)), (some (22 : Int)))
  else
    if a3 = (0 : Int) then
      some (a0, (bits .andNot .u32 (bits .or .u32 a1 (bits .and .u32 a4 (2147483647 : Int))) (262400 : Int)), a2, none)
    else
      if a3 = (1 : Int) then
        some (a0, (bits .andNot .u32 (bits .andNot .u32 a1 (bits .and .u32 a4 (2147483647 : Int))) (262400 : Int)), a2, none)
      else
        if a3 = (2 : Int) then
          some (a0, (bits .andNot .u32 (bits .and .u32 a4 (2147483647 : Int)) (262400 : Int)), a2, none)
        else
          some ((0 : Int), (0 : Int), (List.replicate 32 (0 : Int)), (some (22 : Int)))
def sig_Mask.R (r : Int × Int × (List Int) × (Option Int)) : Tm := .tup [.agg [.c (.sc (.int .u32 r.1)), .c (.sc (.int .u32 r.2.1)), .row 32 (.int .u32) r.2.2.1], .one (.err r.2.2.2)]
theorem sig_Mask.fun_ {a0 : Int} {a1 : Int} {a2 : (List Int)} {a3 : Int} {a4 : Int} {r : Int × Int × (List Int) × (Option Int)} (h : sig_Mask.f a0 a1 a2 a3 a4 = some r) : Fun cfg 6 [.agg [.c (.sc (.int .u32 a0)), .c (.sc (.int .u32 a1)), .row 32 (.int .u32) a2], .one (.sc (.int .i64 a3)), .one (.sc (.int .u32 a4))] [] (sig_Mask.R r) [] := by
  unfold sig_Mask.f at h
  refine fun_of_run cfg_ok (f := 6) (fn := Tryd.f6) Tryd.func6 rfl (by kernel_rfl) (rs := [.cell 6 27, .tmp 7]) rfl (nt := 41) rfl (l := fin) (k := (.call true [] ((Option Int)) (fun t1 => sig_Check.R t1) (fun t1 => (.br (.adj [] (.adj [] (.adj [.drop 0] .nil))) (.br (.adj [] (.adj [] (.adj [] (.adj [] (.adj [.drop 0] .nil))))) (.br (.adj [] (.adj [] (.adj [] (.adj [] (.adj [.drop 0] .nil))))) (.br (.adj [] (.adj [] (.adj [] (.adj [] (.adj [.drop 0] .nil))))) (.adj [] (.adj [] (.adj [.drop 0] .nil)))))))))) (to_goal (q := (True) ∧ (∃ t1 : (Option Int), (Fun cfg 14 [.agg [.c (.sc (.int .u32 a0)), .c (.sc (.int .u32 a1)), .row 32 (.int .u32) a2]] [] (sig_Check.R t1) [] ∧ True) ∧ (True) ∧ (((!(Option.isNone t1)) = true → (True ∧ (True) ∧ (True ∧ (((True) ∧ True) ∧ ((True) ∧ True) ∧ (.tup [.agg [.c (.sc (.int .u32 (0 : Int))), .c (.sc (.int .u32 (0 : Int))), .row 32 (.int .u32) (List.replicate 32 (0 : Int))], .one (.err (some (22 : Int)))] : Tm) = sig_Mask.R r ∧ ([] : List Box) = [])))) ∧ ((!(Option.isNone t1)) = false → (True) ∧ (True) ∧ (((a3 == (0 : Int)) = true → (True ∧ (True) ∧ (True) ∧ (True) ∧ (True ∧ (True) ∧ (True) ∧ (True) ∧ (True ∧ (True) ∧ (True) ∧ (True ∧ (((True) ∧ True) ∧ ((True) ∧ True) ∧ (.tup [.agg [.c (.sc (.int .u32 a0)), .c (.sc (.int .u32 (bits .andNot .u32 (bits .or .u32 a1 (bits .and .u32 a4 (2147483647 : Int))) (262400 : Int)))), .row 32 (.int .u32) a2], .one (.err none)] : Tm) = sig_Mask.R r ∧ ([] : List Box) = [])))))) ∧ ((a3 == (0 : Int)) = false → (True) ∧ (((a3 == (1 : Int)) = true → (True ∧ (True) ∧ (True) ∧ (True) ∧ (True ∧ (True) ∧ (True) ∧ (True) ∧ (True ∧ (True) ∧ (True) ∧ (True ∧ (((True) ∧ True) ∧ ((True) ∧ True) ∧ (.tup [.agg [.c (.sc (.int .u32 a0)), .c (.sc (.int .u32 (bits .andNot .u32 (bits .andNot .u32 a1 (bits .and .u32 a4 (2147483647 : Int))) (262400 : Int)))), .row 32 (.int .u32) a2], .one (.err none)] : Tm) = sig_Mask.R r ∧ ([] : List Box) = [])))))) ∧ ((a3 == (1 : Int)) = false → (True) ∧ (((a3 == (2 : Int)) = true → (True ∧ (True) ∧ (True ∧ (True) ∧ (True) ∧ (True) ∧ (True ∧ (True) ∧ (True) ∧ (True ∧ (((True) ∧ True) ∧ ((True) ∧ True) ∧ (.tup [.agg [.c (.sc (.int .u32 a0)), .c (.sc (.int .u32 (bits .andNot .u32 (bits .and .u32 a4 (2147483647 : Int)) (262400 : Int)))), .row 32 (.int .u32) a2], .one (.err none)] : Tm) = sig_Mask.R r ∧ ([] : List Box) = [])))))) ∧ ((a3 == (2 : Int)) = false → (True ∧ (True) ∧ (True ∧ (((True) ∧ True) ∧ ((True) ∧ True) ∧ (.tup [.agg [.c (.sc (.int .u32 (0 : Int))), .c (.sc (.int .u32 (0 : Int))), .row 32 (.int .u32) (List.replicate 32 (0 : Int))], .one (.err (some (22 : Int)))] : Tm) = sig_Mask.R r ∧ ([] : List Box) = []))))))))))))) (by kernel_rfl) ?_)
  refine ⟨trivial, ?_⟩
  obtain ⟨t1, ht1, h⟩ := of_bind h
  refine ⟨t1, ⟨sig_Check.fun_ ht1, trivial⟩, ?_⟩
  refine ⟨trivial, ?_⟩
  refine ⟨fun b2 => ?_, fun b2 => ?_⟩
  · rw [if_pos (none_f (not_t b2))] at h
    refine ⟨trivial, ?_⟩
    refine ⟨trivial, ?_⟩
    refine ⟨trivial, ?_⟩
    obtain rfl := Option.some.inj h
    exact ⟨⟨trivial, trivial⟩, ⟨trivial, trivial⟩, rfl, rfl⟩
  · rw [if_neg (not_not_intro (none_t (not_f b2)))] at h
    refine ⟨trivial, ?_⟩
    refine ⟨trivial, ?_⟩
    refine ⟨fun b3 => ?_, fun b3 => ?_⟩
    · rw [if_pos (beq_t b3)] at h
      refine ⟨trivial, ?_⟩
      refine ⟨trivial, ?_⟩
      refine ⟨trivial, ?_⟩
      refine ⟨trivial, ?_⟩
      refine ⟨trivial, ?_⟩
      refine ⟨trivial, ?_⟩
      refine ⟨trivial, ?_⟩
      refine ⟨trivial, ?_⟩
      refine ⟨trivial, ?_⟩
      refine ⟨trivial, ?_⟩
      refine ⟨trivial, ?_⟩
      refine ⟨trivial, ?_⟩
      obtain rfl := Option.some.inj h
      exact ⟨⟨trivial, trivial⟩, ⟨trivial, trivial⟩, rfl, rfl⟩
    · rw [if_neg (beq_f b3)] at h
      refine ⟨trivial, ?_⟩
      refine ⟨fun b4 => ?_, fun b4 => ?_⟩
      · rw [if_pos (beq_t b4)] at h
        refine ⟨trivial, ?_⟩
        refine ⟨trivial, ?_⟩
        refine ⟨trivial, ?_⟩
        refine ⟨trivial, ?_⟩
        refine ⟨trivial, ?_⟩
        refine ⟨trivial, ?_⟩
        refine ⟨trivial, ?_⟩
        refine ⟨trivial, ?_⟩
        refine ⟨trivial, ?_⟩
        refine ⟨trivial, ?_⟩
        refine ⟨trivial, ?_⟩
        refine ⟨trivial, ?_⟩
        obtain rfl := Option.some.inj h
        exact ⟨⟨trivial, trivial⟩, ⟨trivial, trivial⟩, rfl, rfl⟩
      · rw [if_neg (beq_f b4)] at h
        refine ⟨trivial, ?_⟩
        refine ⟨fun b5 => ?_, fun b5 => ?_⟩
        · rw [if_pos (beq_t b5)] at h
          refine ⟨trivial, ?_⟩
          refine ⟨trivial, ?_⟩
          refine ⟨trivial, ?_⟩
          refine ⟨trivial, ?_⟩
          refine ⟨trivial, ?_⟩
          refine ⟨trivial, ?_⟩
          refine ⟨trivial, ?_⟩
          refine ⟨trivial, ?_⟩
          refine ⟨trivial, ?_⟩
          refine ⟨trivial, ?_⟩
          obtain rfl := Option.some.inj h
          exact ⟨⟨trivial, trivial⟩, ⟨trivial, trivial⟩, rfl, rfl⟩
        · rw [if_neg (beq_f b5)] at h
          refine ⟨trivial, ?_⟩
          refine ⟨trivial, ?_⟩
          refine ⟨trivial, ?_⟩
          obtain rfl := Option.some.inj h
          exact ⟨⟨trivial, trivial⟩, ⟨trivial, trivial⟩, rfl, rfl⟩
/-! halter/halterref25.Mask -/
def halterref25_Mask.l0 (a0 : Int) (a1 : Int) (a2 : (List Int)) (a3 : Int) (a4 : Int) : Nat → (List Int) → Int → Option (List Int)
  | 0, _, _ => none
  | n + 1, x58, x59 =>
    if x59 ≤ (31 : Int) then
      (halterref03_Has.f a1 x59).bind fun t91 =>
      (halterref03_Has.f a4 x59).bind fun t92 =>
      if a3 = (0 : Int) then
        if t91 = true then
          if a3 = (1 : Int) then
            if ¬ (t92 = true) then
              if ¬ x59 = (9 : Int) then
                if ¬ x59 = (19 : Int) then
                  if (0 = 0 ∧ 1 = 1) ∧ 0 = 0 ∧ (List.length x58) = (List.length x58) ∧ (((List.length x58) + 1) * 8 ≤ 140737488355328 ∧ (List.length x58) + 1 ≤ 9223372036854775807) then
                    halterref25_Mask.l0 a0 a1 a2 a3 a4 n (x58 ++ [x59]) (IntKind.wrap .i64 (x59 + (1 : Int)))
                  else none
                else
                  halterref25_Mask.l0 a0 a1 a2 a3 a4 n x58 (IntKind.wrap .i64 (x59 + (1 : Int)))
              else
                halterref25_Mask.l0 a0 a1 a2 a3 a4 n x58 (IntKind.wrap .i64 (x59 + (1 : Int)))
            else
              halterref25_Mask.l0 a0 a1 a2 a3 a4 n x58 (IntKind.wrap .i64 (x59 + (1 : Int)))
          else
            if ¬ x59 = (9 : Int) then
              if ¬ x59 = (19 : Int) then
                if (0 = 0 ∧ 1 = 1) ∧ 0 = 0 ∧ (List.length x58) = (List.length x58) ∧ (((List.length x58) + 1) * 8 ≤ 140737488355328 ∧ (List.length x58) + 1 ≤ 9223372036854775807) then
                  halterref25_Mask.l0 a0 a1 a2 a3 a4 n (x58 ++ [x59]) (IntKind.wrap .i64 (x59 + (1 : Int)))
                else none
              else
                halterref25_Mask.l0 a0 a1 a2 a3 a4 n x58 (IntKind.wrap .i64 (x59 + (1 : Int)))
            else
              halterref25_Mask.l0 a0 a1 a2 a3 a4 n x58 (IntKind.wrap .i64 (x59 + (1 : Int)))
        else
          if a3 = (1 : Int) then
            halterref25_Mask.l0 a0 a1 a2 a3 a4 n x58 (IntKind.wrap .i64 (x59 + (1 : Int)))
          else
            if t92 = true then
              if ¬ x59 = (9 : Int) then
                if ¬ x59 = (19 : Int) then
                  if (0 = 0 ∧ 1 = 1) ∧ 0 = 0 ∧ (List.length x58) = (List.length x58) ∧ (((List.length x58) + 1) * 8 ≤ 140737488355328 ∧ (List.length x58) + 1 ≤ 9223372036854775807) then
                    halterref25_Mask.l0 a0 a1 a2 a3 a4 n (x58 ++ [x59]) (IntKind.wrap .i64 (x59 + (1 : Int)))
                  else none
                else
                  halterref25_Mask.l0 a0 a1 a2 a3 a4 n x58 (IntKind.wrap .i64 (x59 + (1 : Int)))
              else
                halterref25_Mask.l0 a0 a1 a2 a3 a4 n x58 (IntKind.wrap .i64 (x59 + (1 : Int)))
            else
              halterref25_Mask.l0 a0 a1 a2 a3 a4 n x58 (IntKind.wrap .i64 (x59 + (1 : Int)))
      else
        if a3 = (1 : Int) then
          if t91 = true then
            if ¬ (t92 = true) then
              if ¬ x59 = (9 : Int) then
                if ¬ x59 = (19 : Int) then
                  if (0 = 0 ∧ 1 = 1) ∧ 0 = 0 ∧ (List.length x58) = (List.length x58) ∧ (((List.length x58) + 1) * 8 ≤ 140737488355328 ∧ (List.length x58) + 1 ≤ 9223372036854775807) then
                    halterref25_Mask.l0 a0 a1 a2 a3 a4 n (x58 ++ [x59]) (IntKind.wrap .i64 (x59 + (1 : Int)))
                  else none
                else
                  halterref25_Mask.l0 a0 a1 a2 a3 a4 n x58 (IntKind.wrap .i64 (x59 + (1 : Int)))
              else
                halterref25_Mask.l0 a0 a1 a2 a3 a4 n x58 (IntKind.wrap .i64 (x59 + (1 : Int)))
            else
              halterref25_Mask.l0 a0 a1 a2 a3 a4 n x58 (IntKind.wrap .i64 (x59 + (1 : Int)))
          else
            halterref25_Mask.l0 a0 a1 a2 a3 a4 n x58 (IntKind.wrap .i64 (x59 + (1 : Int)))
        else
          if t92 = true then
            if ¬ x59 = (9 : Int) then
              if ¬ x59 = (19 : Int) then
                if (0 = 0 ∧ 1 = 1) ∧ 0 = 0 ∧ (List.length x58) = (List.length x58) ∧ (((List.length x58) + 1) * 8 ≤ 140737488355328 ∧ (List.length x58) + 1 ≤ 9223372036854775807) then
                  halterref25_Mask.l0 a0 a1 a2 a3 a4 n (x58 ++ [x59]) (IntKind.wrap .i64 (x59 + (1 : Int)))
                else none
              else
                halterref25_Mask.l0 a0 a1 a2 a3 a4 n x58 (IntKind.wrap .i64 (x59 + (1 : Int)))
            else
              halterref25_Mask.l0 a0 a1 a2 a3 a4 n x58 (IntKind.wrap .i64 (x59 + (1 : Int)))
          else
            halterref25_Mask.l0 a0 a1 a2 a3 a4 n x58 (IntKind.wrap .i64 (x59 + (1 : Int)))
    else
      some x58
def halterref25_Mask.l0_S (a0 : Int) (a1 : Int) (a2 : (List Int)) (a3 : Int) (a4 : Int) (x58 : List Int) (x59 : Int) : St := ⟨[.any, .v (.one (.sc (.int .i64 a3))), .v (.one (.sc (.int .u32 a4))), .v (.one (.ptr 0 ⟨0, 0, 0, 0⟩)), .any, .any, .v (.one (.ptr 1 ⟨0, 0, 0, 0⟩)), .any, .v (.one (.os 2 0 0 1 (List.length x58) none)), .v (.one (.sc (.int .i64 x59))), .any, .any, .any, .any, .any, .any, .any, .any, .any, .any, .any, .any, .any, .any, .any, .any, .any, .any, .any, .any, .any, .any, .any, .any, .any, .any, .any, .any, .any, .any, .any, .any, .any, .any, .any, .any, .any, .any, .any, .any, .any, .any, .any, .any, .any, .any, .any, .any, .any, .any, .any, .any, .any, .any, .any, .any, .any], [.ex false [.c (.sc (.int .u32 a0)), .c (.sc (.int .u32 a1)), .row 32 (.int .u32) a2] 48, .ex false [.c (.sc (.int .u32 (0 : Int))), .c (.sc (.int .u32 (0 : Int))), .row 32 (.int .u32) (List.replicate 32 (0 : Int))] 48, .gro false (.int .i64) x58 3], 0⟩
def halterref25_Mask.l0_Q (a0 : Int) (a1 : Int) (a2 : (List Int)) (a3 : Int) (a4 : Int) (t : (List Int)) : Exit → St → Prop := fun e s => e = (.exit 0) ∧ s = ⟨[.any, .any, .any, .v (.one (.ptr 0 ⟨0, 0, 0, 0⟩)), .any, .any, .v (.one (.ptr 1 ⟨0, 0, 0, 0⟩)), .any, .v (.one (.os 2 0 0 1 (List.length t) none)), .any, .any, .any, .any, .any, .any, .any, .any, .any, .any, .any, .any, .any, .any, .any, .any, .any, .any, .any, .any, .any, .any, .any, .any, .any, .any, .any, .any, .any, .any, .any, .any, .any, .any, .any, .any, .any, .any, .any, .any, .any, .any, .any, .any, .any, .any, .any, .any, .any, .any, .any, .any, .any, .any, .any, .any, .any, .any], [.ex false [.c (.sc (.int .u32 a0)), .c (.sc (.int .u32 a1)), .row 32 (.int .u32) a2] 48, .ex false [.c (.sc (.int .u32 (0 : Int))), .c (.sc (.int .u32 (0 : Int))), .row 32 (.int .u32) (List.replicate 32 (0 : Int))] 48, .gro false (.int .i64) t 3], 0⟩
theorem halterref25_Mask.l0_ok (a0 : Int) (a1 : Int) (a2 : (List Int)) (a3 : Int) (a4 : Int) : ∀ (n : Nat) (x58 : List Int) (x59 : Int) (r : (List Int)), halterref25_Mask.l0 a0 a1 a2 a3 a4 n x58 x59 = some r → TripN cfg (cpath (Tryd.f19.body.getD .skip) [1, 1, 1, 0, 1, 0, 0]) n (halterref25_Mask.l0_S a0 a1 a2 a3 a4 x58 x59) (halterref25_Mask.l0_Q a0 a1 a2 a3 a4 r) := by
  intro n
  induction n with
  | zero => intro x58 x59 r h; cases h
  | succ n ih =>
    intro x58 x59 r h
    rw [halterref25_Mask.l0] at h
    refine TripN.of_run cfg_ok (k := (.br (.call true [] (Bool) (fun t91 => halterref03_Has.R t91) (fun t91 => (.call true [] (Bool) (fun t92 => halterref03_Has.R t92) (fun t92 => (.br (.br (.one true (.br (.one true (.one true (.one true (.br (.one true (.one true (.br (.one true (.one true (.br (.d (.b true) (.adj [] (.adj [.keep [1, 2, 3, 6, 8, 9], .drop 3] .nil))) (.adj [] (.adj [] (.adj [.keep [1, 2, 3, 6, 8, 9], .drop 3] .nil)))))) (.one false (.one false (.one false (.adj [] (.adj [] (.adj [.keep [1, 2, 3, 6, 8, 9], .drop 3] .nil))))))))) (.one false (.one false (.one false (.one false (.one false (.one false (.adj [] (.adj [] (.adj [.keep [1, 2, 3, 6, 8, 9], .drop 3] .nil))))))))))))) (.one true (.one true (.one true (.br (.one true (.one true (.br (.d (.b true) (.adj [] (.adj [.keep [1, 2, 3, 6, 8, 9], .drop 3] .nil))) (.adj [] (.adj [] (.adj [.keep [1, 2, 3, 6, 8, 9], .drop 3] .nil)))))) (.one false (.one false (.one false (.adj [] (.adj [] (.adj [.keep [1, 2, 3, 6, 8, 9], .drop 3] .nil)))))))))))) (.one false (.br (.one false (.one false (.one false (.one false (.one false (.one false (.one false (.one false (.one false (.one false (.adj [] (.adj [] (.adj [.keep [1, 2, 3, 6, 8, 9], .drop 3] .nil))))))))))))) (.br (.one true (.one true (.br (.one true (.one true (.br (.d (.b true) (.adj [] (.adj [.keep [1, 2, 3, 6, 8, 9], .drop 3] .nil))) (.adj [] (.adj [] (.adj [.keep [1, 2, 3, 6, 8, 9], .drop 3] .nil)))))) (.one false (.one false (.one false (.adj [] (.adj [] (.adj [.keep [1, 2, 3, 6, 8, 9], .drop 3] .nil))))))))) (.one false (.one false (.one false (.one false (.one false (.one false (.adj [] (.adj [] (.adj [.keep [1, 2, 3, 6, 8, 9], .drop 3] .nil))))))))))))) (.br (.br (.one true (.one true (.br (.one true (.one true (.br (.one true (.one true (.br (.d (.b true) (.adj [] (.adj [.keep [1, 2, 3, 6, 8, 9], .drop 3] .nil))) (.adj [] (.adj [] (.adj [.keep [1, 2, 3, 6, 8, 9], .drop 3] .nil)))))) (.one false (.one false (.one false (.adj [] (.adj [] (.adj [.keep [1, 2, 3, 6, 8, 9], .drop 3] .nil))))))))) (.one false (.one false (.one false (.one false (.one false (.one false (.adj [] (.adj [] (.adj [.keep [1, 2, 3, 6, 8, 9], .drop 3] .nil)))))))))))) (.one false (.one false (.one false (.one false (.one false (.one false (.one false (.one false (.one false (.adj [] (.adj [] (.adj [.keep [1, 2, 3, 6, 8, 9], .drop 3] .nil))))))))))))) (.br (.one true (.one true (.br (.one true (.one true (.br (.d (.b true) (.adj [] (.adj [.keep [1, 2, 3, 6, 8, 9], .drop 3] .nil))) (.adj [] (.adj [] (.adj [.keep [1, 2, 3, 6, 8, 9], .drop 3] .nil)))))) (.one false (.one false (.one false (.adj [] (.adj [] (.adj [.keep [1, 2, 3, 6, 8, 9], .drop 3] .nil))))))))) (.one false (.one false (.one false (.one false (.one false (.one false (.adj [] (.adj [] (.adj [.keep [1, 2, 3, 6, 8, 9], .drop 3] .nil)))))))))))))))) (.adj [.keep [3, 6, 8], .drop 3] .nil))) (to_goal (q := (True) ∧ (((decide (x59 ≤ (31 : Int))) = true → (True) ∧ (∃ t91 : Bool, (Fun cfg 36 [.one (.sc (.int .u32 a1)), .one (.sc (.int .i64 x59))] [] (halterref03_Has.R t91) [] ∧ True) ∧ (∃ t92 : Bool, (Fun cfg 36 [.one (.sc (.int .u32 a4)), .one (.sc (.int .i64 x59))] [] (halterref03_Has.R t92) [] ∧ True) ∧ (True) ∧ (((a3 == (0 : Int)) = true → ((t91 = false → (t91 = false ∧ (True) ∧ (((a3 == (1 : Int)) = true → (t91 = false ∧ (t91 = false ∧ (t91 = false ∧ (false = false ∧ (false = false ∧ (false = false ∧ (false = false ∧ (false = false ∧ (false = false ∧ (false = false ∧ (True ∧ (True ∧ (True) ∧ (((True) ∧ (True) ∧ True) ∧ TripN cfg (cpath (Tryd.f19.body.getD .skip) [1, 1, 1, 0, 1, 0, 0]) n (halterref25_Mask.l0_S a0 a1 a2 a3 a4 x58 (IntKind.wrap .i64 (x59 + (1 : Int)))) (halterref25_Mask.l0_Q a0 a1 a2 a3 a4 r))))))))))))))) ∧ ((a3 == (1 : Int)) = false → ((t92 = true → (t92 = true ∧ (True) ∧ (t92 = true ∧ (((x59 != (9 : Int)) = true → ((x59 != (9 : Int)) = true ∧ (True) ∧ ((x59 != (9 : Int)) = true ∧ (((x59 != (19 : Int)) = true → ((0 = 0 ∧ 1 = 1) ∧ 0 = 0 ∧ (List.length x58) = (List.length x58) ∧ (((List.length x58) + 1) * 8 ≤ 140737488355328 ∧ (List.length x58) + 1 ≤ 9223372036854775807)) ∧ (True ∧ (True) ∧ (((True) ∧ (True) ∧ True) ∧ TripN cfg (cpath (Tryd.f19.body.getD .skip) [1, 1, 1, 0, 1, 0, 0]) n (halterref25_Mask.l0_S a0 a1 a2 a3 a4 (x58 ++ [x59]) (IntKind.wrap .i64 (x59 + (1 : Int)))) (halterref25_Mask.l0_Q a0 a1 a2 a3 a4 r)))) ∧ ((x59 != (19 : Int)) = false → (True ∧ (True ∧ (True) ∧ (((True) ∧ (True) ∧ True) ∧ TripN cfg (cpath (Tryd.f19.body.getD .skip) [1, 1, 1, 0, 1, 0, 0]) n (halterref25_Mask.l0_S a0 a1 a2 a3 a4 x58 (IntKind.wrap .i64 (x59 + (1 : Int)))) (halterref25_Mask.l0_Q a0 a1 a2 a3 a4 r))))))))) ∧ ((x59 != (9 : Int)) = false → ((x59 != (9 : Int)) = false ∧ ((x59 != (9 : Int)) = false ∧ (false = false ∧ (True ∧ (True ∧ (True) ∧ (((True) ∧ (True) ∧ True) ∧ TripN cfg (cpath (Tryd.f19.body.getD .skip) [1, 1, 1, 0, 1, 0, 0]) n (halterref25_Mask.l0_S a0 a1 a2 a3 a4 x58 (IntKind.wrap .i64 (x59 + (1 : Int)))) (halterref25_Mask.l0_Q a0 a1 a2 a3 a4 r)))))))))))) ∧ (t92 = false → (t92 = false ∧ (t92 = false ∧ (false = false ∧ (false = false ∧ (false = false ∧ (false = false ∧ (True ∧ (True ∧ (True) ∧ (((True) ∧ (True) ∧ True) ∧ TripN cfg (cpath (Tryd.f19.body.getD .skip) [1, 1, 1, 0, 1, 0, 0]) n (halterref25_Mask.l0_S a0 a1 a2 a3 a4 x58 (IntKind.wrap .i64 (x59 + (1 : Int)))) (halterref25_Mask.l0_Q a0 a1 a2 a3 a4 r)))))))))))))))) ∧ (t91 = true → (t91 = true ∧ (True) ∧ (((a3 == (1 : Int)) = true → (t91 = true ∧ (t91 = true ∧ (t91 = true ∧ (((!t92) = true → ((!t92) = true ∧ (True) ∧ ((!t92) = true ∧ (((x59 != (9 : Int)) = true → ((x59 != (9 : Int)) = true ∧ (True) ∧ ((x59 != (9 : Int)) = true ∧ (((x59 != (19 : Int)) = true → ((0 = 0 ∧ 1 = 1) ∧ 0 = 0 ∧ (List.length x58) = (List.length x58) ∧ (((List.length x58) + 1) * 8 ≤ 140737488355328 ∧ (List.length x58) + 1 ≤ 9223372036854775807)) ∧ (True ∧ (True) ∧ (((True) ∧ (True) ∧ True) ∧ TripN cfg (cpath (Tryd.f19.body.getD .skip) [1, 1, 1, 0, 1, 0, 0]) n (halterref25_Mask.l0_S a0 a1 a2 a3 a4 (x58 ++ [x59]) (IntKind.wrap .i64 (x59 + (1 : Int)))) (halterref25_Mask.l0_Q a0 a1 a2 a3 a4 r)))) ∧ ((x59 != (19 : Int)) = false → (True ∧ (True ∧ (True) ∧ (((True) ∧ (True) ∧ True) ∧ TripN cfg (cpath (Tryd.f19.body.getD .skip) [1, 1, 1, 0, 1, 0, 0]) n (halterref25_Mask.l0_S a0 a1 a2 a3 a4 x58 (IntKind.wrap .i64 (x59 + (1 : Int)))) (halterref25_Mask.l0_Q a0 a1 a2 a3 a4 r))))))))) ∧ ((x59 != (9 : Int)) = false → ((x59 != (9 : Int)) = false ∧ ((x59 != (9 : Int)) = false ∧ (false = false ∧ (True ∧ (True ∧ (True) ∧ (((True) ∧ (True) ∧ True) ∧ TripN cfg (cpath (Tryd.f19.body.getD .skip) [1, 1, 1, 0, 1, 0, 0]) n (halterref25_Mask.l0_S a0 a1 a2 a3 a4 x58 (IntKind.wrap .i64 (x59 + (1 : Int)))) (halterref25_Mask.l0_Q a0 a1 a2 a3 a4 r)))))))))))) ∧ ((!t92) = false → ((!t92) = false ∧ ((!t92) = false ∧ (false = false ∧ (false = false ∧ (false = false ∧ (false = false ∧ (True ∧ (True ∧ (True) ∧ (((True) ∧ (True) ∧ True) ∧ TripN cfg (cpath (Tryd.f19.body.getD .skip) [1, 1, 1, 0, 1, 0, 0]) n (halterref25_Mask.l0_S a0 a1 a2 a3 a4 x58 (IntKind.wrap .i64 (x59 + (1 : Int)))) (halterref25_Mask.l0_Q a0 a1 a2 a3 a4 r)))))))))))))))) ∧ ((a3 == (1 : Int)) = false → (true = true ∧ (true = true ∧ (True) ∧ (true = true ∧ (((x59 != (9 : Int)) = true → ((x59 != (9 : Int)) = true ∧ (True) ∧ ((x59 != (9 : Int)) = true ∧ (((x59 != (19 : Int)) = true → ((0 = 0 ∧ 1 = 1) ∧ 0 = 0 ∧ (List.length x58) = (List.length x58) ∧ (((List.length x58) + 1) * 8 ≤ 140737488355328 ∧ (List.length x58) + 1 ≤ 9223372036854775807)) ∧ (True ∧ (True) ∧ (((True) ∧ (True) ∧ True) ∧ TripN cfg (cpath (Tryd.f19.body.getD .skip) [1, 1, 1, 0, 1, 0, 0]) n (halterref25_Mask.l0_S a0 a1 a2 a3 a4 (x58 ++ [x59]) (IntKind.wrap .i64 (x59 + (1 : Int)))) (halterref25_Mask.l0_Q a0 a1 a2 a3 a4 r)))) ∧ ((x59 != (19 : Int)) = false → (True ∧ (True ∧ (True) ∧ (((True) ∧ (True) ∧ True) ∧ TripN cfg (cpath (Tryd.f19.body.getD .skip) [1, 1, 1, 0, 1, 0, 0]) n (halterref25_Mask.l0_S a0 a1 a2 a3 a4 x58 (IntKind.wrap .i64 (x59 + (1 : Int)))) (halterref25_Mask.l0_Q a0 a1 a2 a3 a4 r))))))))) ∧ ((x59 != (9 : Int)) = false → ((x59 != (9 : Int)) = false ∧ ((x59 != (9 : Int)) = false ∧ (false = false ∧ (True ∧ (True ∧ (True) ∧ (((True) ∧ (True) ∧ True) ∧ TripN cfg (cpath (Tryd.f19.body.getD .skip) [1, 1, 1, 0, 1, 0, 0]) n (halterref25_Mask.l0_S a0 a1 a2 a3 a4 x58 (IntKind.wrap .i64 (x59 + (1 : Int)))) (halterref25_Mask.l0_Q a0 a1 a2 a3 a4 r)))))))))))))))))) ∧ ((a3 == (0 : Int)) = false → (True) ∧ (((a3 == (1 : Int)) = true → ((t91 = true → (t91 = true ∧ (t91 = true ∧ (((!t92) = true → ((!t92) = true ∧ (True) ∧ ((!t92) = true ∧ (((x59 != (9 : Int)) = true → ((x59 != (9 : Int)) = true ∧ (True) ∧ ((x59 != (9 : Int)) = true ∧ (((x59 != (19 : Int)) = true → ((0 = 0 ∧ 1 = 1) ∧ 0 = 0 ∧ (List.length x58) = (List.length x58) ∧ (((List.length x58) + 1) * 8 ≤ 140737488355328 ∧ (List.length x58) + 1 ≤ 9223372036854775807)) ∧ (True ∧ (True) ∧ (((True) ∧ (True) ∧ True) ∧ TripN cfg (cpath (Tryd.f19.body.getD .skip) [1, 1, 1, 0, 1, 0, 0]) n (halterref25_Mask.l0_S a0 a1 a2 a3 a4 (x58 ++ [x59]) (IntKind.wrap .i64 (x59 + (1 : Int)))) (halterref25_Mask.l0_Q a0 a1 a2 a3 a4 r)))) ∧ ((x59 != (19 : Int)) = false → (True ∧ (True ∧ (True) ∧ (((True) ∧ (True) ∧ True) ∧ TripN cfg (cpath (Tryd.f19.body.getD .skip) [1, 1, 1, 0, 1, 0, 0]) n (halterref25_Mask.l0_S a0 a1 a2 a3 a4 x58 (IntKind.wrap .i64 (x59 + (1 : Int)))) (halterref25_Mask.l0_Q a0 a1 a2 a3 a4 r))))))))) ∧ ((x59 != (9 : Int)) = false → ((x59 != (9 : Int)) = false ∧ ((x59 != (9 : Int)) = false ∧ (false = false ∧ (True ∧ (True ∧ (True) ∧ (((True) ∧ (True) ∧ True) ∧ TripN cfg (cpath (Tryd.f19.body.getD .skip) [1, 1, 1, 0, 1, 0, 0]) n (halterref25_Mask.l0_S a0 a1 a2 a3 a4 x58 (IntKind.wrap .i64 (x59 + (1 : Int)))) (halterref25_Mask.l0_Q a0 a1 a2 a3 a4 r)))))))))))) ∧ ((!t92) = false → ((!t92) = false ∧ ((!t92) = false ∧ (false = false ∧ (false = false ∧ (false = false ∧ (false = false ∧ (True ∧ (True ∧ (True) ∧ (((True) ∧ (True) ∧ True) ∧ TripN cfg (cpath (Tryd.f19.body.getD .skip) [1, 1, 1, 0, 1, 0, 0]) n (halterref25_Mask.l0_S a0 a1 a2 a3 a4 x58 (IntKind.wrap .i64 (x59 + (1 : Int)))) (halterref25_Mask.l0_Q a0 a1 a2 a3 a4 r))))))))))))))) ∧ (t91 = false → (t91 = false ∧ (t91 = false ∧ (false = false ∧ (false = false ∧ (false = false ∧ (false = false ∧ (false = false ∧ (false = false ∧ (false = false ∧ (True ∧ (True ∧ (True) ∧ (((True) ∧ (True) ∧ True) ∧ TripN cfg (cpath (Tryd.f19.body.getD .skip) [1, 1, 1, 0, 1, 0, 0]) n (halterref25_Mask.l0_S a0 a1 a2 a3 a4 x58 (IntKind.wrap .i64 (x59 + (1 : Int)))) (halterref25_Mask.l0_Q a0 a1 a2 a3 a4 r)))))))))))))))) ∧ ((a3 == (1 : Int)) = false → ((t92 = true → (t92 = true ∧ (True) ∧ (t92 = true ∧ (((x59 != (9 : Int)) = true → ((x59 != (9 : Int)) = true ∧ (True) ∧ ((x59 != (9 : Int)) = true ∧ (((x59 != (19 : Int)) = true → ((0 = 0 ∧ 1 = 1) ∧ 0 = 0 ∧ (List.length x58) = (List.length x58) ∧ (((List.length x58) + 1) * 8 ≤ 140737488355328 ∧ (List.length x58) + 1 ≤ 9223372036854775807)) ∧ (True ∧ (True) ∧ (((True) ∧ (True) ∧ True) ∧ TripN cfg (cpath (Tryd.f19.body.getD .skip) [1, 1, 1, 0, 1, 0, 0]) n (halterref25_Mask.l0_S a0 a1 a2 a3 a4 (x58 ++ [x59]) (IntKind.wrap .i64 (x59 + (1 : Int)))) (halterref25_Mask.l0_Q a0 a1 a2 a3 a4 r)))) ∧ ((x59 != (19 : Int)) = false → (True ∧ (True ∧ (True) ∧ (((True) ∧ (True) ∧ True) ∧ TripN cfg (cpath (Tryd.f19.body.getD .skip) [1, 1, 1, 0, 1, 0, 0]) n (halterref25_Mask.l0_S a0 a1 a2 a3 a4 x58 (IntKind.wrap .i64 (x59 + (1 : Int)))) (halterref25_Mask.l0_Q a0 a1 a2 a3 a4 r))))))))) ∧ ((x59 != (9 : Int)) = false → ((x59 != (9 : Int)) = false ∧ ((x59 != (9 : Int)) = false ∧ (false = false ∧ (True ∧ (True ∧ (True) ∧ (((True) ∧ (True) ∧ True) ∧ TripN cfg (cpath (Tryd.f19.body.getD .skip) [1, 1, 1, 0, 1, 0, 0]) n (halterref25_Mask.l0_S a0 a1 a2 a3 a4 x58 (IntKind.wrap .i64 (x59 + (1 : Int)))) (halterref25_Mask.l0_Q a0 a1 a2 a3 a4 r)))))))))))) ∧ (t92 = false → (t92 = false ∧ (t92 = false ∧ (false = false ∧ (false = false ∧ (false = false ∧ (false = false ∧ (True ∧ (True ∧ (True) ∧ (((True) ∧ (True) ∧ True) ∧ TripN cfg (cpath (Tryd.f19.body.getD .skip) [1, 1, 1, 0, 1, 0, 0]) n (halterref25_Mask.l0_S a0 a1 a2 a3 a4 x58 (IntKind.wrap .i64 (x59 + (1 : Int)))) (halterref25_Mask.l0_Q a0 a1 a2 a3 a4 r))))))))))))))))))) ∧ ((decide (x59 ≤ (31 : Int))) = false → (((True) ∧ (True) ∧ True) ∧ halterref25_Mask.l0_Q a0 a1 a2 a3 a4 r (.exit 0) ⟨[.any, .any, .any, .v (.one (.ptr 0 ⟨0, 0, 0, 0⟩)), .any, .any, .v (.one (.ptr 1 ⟨0, 0, 0, 0⟩)), .any, .v (.one (.os 2 0 0 1 (List.length x58) none)), .any, .any, .any, .any, .any, .any, .any, .any, .any, .any, .any, .any, .any, .any, .any, .any, .any, .any, .any, .any, .any, .any, .any, .any, .any, .any, .any, .any, .any, .any, .any, .any, .any, .any, .any, .any, .any, .any, .any, .any, .any, .any, .any, .any, .any, .any, .any, .any, .any, .any, .any, .any, .any, .any, .any, .any, .any, .any], [.ex false [.c (.sc (.int .u32 a0)), .c (.sc (.int .u32 a1)), .row 32 (.int .u32) a2] 48, .ex false [.c (.sc (.int .u32 (0 : Int))), .c (.sc (.int .u32 (0 : Int))), .row 32 (.int .u32) (List.replicate 32 (0 : Int))] 48, .gro false (.int .i64) x58 3], 0⟩)))) (by kernel_rfl) ?_)
    refine ⟨trivial, ?_⟩
    refine ⟨fun b90 => ?_, fun b90 => ?_⟩
    · rw [if_pos (of_decide_eq_true b90)] at h
      refine ⟨trivial, ?_⟩
      obtain ⟨t91, ht91, h⟩ := of_bind h
      refine ⟨t91, ⟨halterref03_Has.fun_ ht91, trivial⟩, ?_⟩
      obtain ⟨t92, ht92, h⟩ := of_bind h
      refine ⟨t92, ⟨halterref03_Has.fun_ ht92, trivial⟩, ?_⟩
      refine ⟨trivial, ?_⟩
      refine ⟨fun b93 => ?_, fun b93 => ?_⟩
      · rw [if_pos (beq_t b93)] at h
        refine ⟨fun b94 => ?_, fun b94 => ?_⟩
        · rw [if_neg (ff b94)] at h
          refine ⟨b94, ?_⟩
          refine ⟨trivial, ?_⟩
          refine ⟨fun b103 => ?_, fun b103 => ?_⟩
          · rw [if_pos (beq_t b103)] at h
            refine ⟨b94, ?_⟩
            refine ⟨b94, ?_⟩
            refine ⟨b94, ?_⟩
            refine ⟨rfl, ?_⟩
            refine ⟨rfl, ?_⟩
            refine ⟨rfl, ?_⟩
            refine ⟨rfl, ?_⟩
            refine ⟨rfl, ?_⟩
            refine ⟨rfl, ?_⟩
            refine ⟨rfl, ?_⟩
            refine ⟨trivial, ?_⟩
            refine ⟨trivial, ?_⟩
            refine ⟨trivial, ?_⟩
            exact ⟨⟨trivial, trivial, trivial⟩, ih x58 (IntKind.wrap .i64 (x59 + (1 : Int))) r h⟩
          · rw [if_neg (beq_f b103)] at h
            refine ⟨fun b104 => ?_, fun b104 => ?_⟩
            · rw [if_pos b104] at h
              refine ⟨b104, ?_⟩
              refine ⟨trivial, ?_⟩
              refine ⟨b104, ?_⟩
              refine ⟨fun b105 => ?_, fun b105 => ?_⟩
              · rw [if_pos (bne_t b105)] at h
                refine ⟨b105, ?_⟩
                refine ⟨trivial, ?_⟩
                refine ⟨b105, ?_⟩
                refine ⟨fun b106 => ?_, fun b106 => ?_⟩
                · rw [if_pos (bne_t b106)] at h
                  obtain ⟨g107, h⟩ := of_guard h
                  refine ⟨g107, ?_⟩
                  refine ⟨trivial, ?_⟩
                  refine ⟨trivial, ?_⟩
                  exact ⟨⟨trivial, trivial, trivial⟩, ih (x58 ++ [x59]) (IntKind.wrap .i64 (x59 + (1 : Int))) r h⟩
                · rw [if_neg (not_not_intro (bne_f b106))] at h
                  refine ⟨trivial, ?_⟩
                  refine ⟨trivial, ?_⟩
                  refine ⟨trivial, ?_⟩
                  exact ⟨⟨trivial, trivial, trivial⟩, ih x58 (IntKind.wrap .i64 (x59 + (1 : Int))) r h⟩
              · rw [if_neg (not_not_intro (bne_f b105))] at h
                refine ⟨b105, ?_⟩
                refine ⟨b105, ?_⟩
                refine ⟨rfl, ?_⟩
                refine ⟨trivial, ?_⟩
                refine ⟨trivial, ?_⟩
                refine ⟨trivial, ?_⟩
                exact ⟨⟨trivial, trivial, trivial⟩, ih x58 (IntKind.wrap .i64 (x59 + (1 : Int))) r h⟩
            · rw [if_neg (ff b104)] at h
              refine ⟨b104, ?_⟩
              refine ⟨b104, ?_⟩
              refine ⟨rfl, ?_⟩
              refine ⟨rfl, ?_⟩
              refine ⟨rfl, ?_⟩
              refine ⟨rfl, ?_⟩
              refine ⟨trivial, ?_⟩
              refine ⟨trivial, ?_⟩
              refine ⟨trivial, ?_⟩
              exact ⟨⟨trivial, trivial, trivial⟩, ih x58 (IntKind.wrap .i64 (x59 + (1 : Int))) r h⟩
        · rw [if_pos b94] at h
          refine ⟨b94, ?_⟩
          refine ⟨trivial, ?_⟩
          refine ⟨fun b95 => ?_, fun b95 => ?_⟩
          · rw [if_pos (beq_t b95)] at h
            refine ⟨b94, ?_⟩
            refine ⟨b94, ?_⟩
            refine ⟨b94, ?_⟩
            refine ⟨fun b96 => ?_, fun b96 => ?_⟩
            · rw [if_pos (ff (not_t b96))] at h
              refine ⟨b96, ?_⟩
              refine ⟨trivial, ?_⟩
              refine ⟨b96, ?_⟩
              refine ⟨fun b97 => ?_, fun b97 => ?_⟩
              · rw [if_pos (bne_t b97)] at h
                refine ⟨b97, ?_⟩
                refine ⟨trivial, ?_⟩
                refine ⟨b97, ?_⟩
                refine ⟨fun b98 => ?_, fun b98 => ?_⟩
                · rw [if_pos (bne_t b98)] at h
                  obtain ⟨g99, h⟩ := of_guard h
                  refine ⟨g99, ?_⟩
                  refine ⟨trivial, ?_⟩
                  refine ⟨trivial, ?_⟩
                  exact ⟨⟨trivial, trivial, trivial⟩, ih (x58 ++ [x59]) (IntKind.wrap .i64 (x59 + (1 : Int))) r h⟩
                · rw [if_neg (not_not_intro (bne_f b98))] at h
                  refine ⟨trivial, ?_⟩
                  refine ⟨trivial, ?_⟩
                  refine ⟨trivial, ?_⟩
                  exact ⟨⟨trivial, trivial, trivial⟩, ih x58 (IntKind.wrap .i64 (x59 + (1 : Int))) r h⟩
              · rw [if_neg (not_not_intro (bne_f b97))] at h
                refine ⟨b97, ?_⟩
                refine ⟨b97, ?_⟩
                refine ⟨rfl, ?_⟩
                refine ⟨trivial, ?_⟩
                refine ⟨trivial, ?_⟩
                refine ⟨trivial, ?_⟩
                exact ⟨⟨trivial, trivial, trivial⟩, ih x58 (IntKind.wrap .i64 (x59 + (1 : Int))) r h⟩
            · rw [if_neg (not_not_intro (not_f b96))] at h
              refine ⟨b96, ?_⟩
              refine ⟨b96, ?_⟩
              refine ⟨rfl, ?_⟩
              refine ⟨rfl, ?_⟩
              refine ⟨rfl, ?_⟩
              refine ⟨rfl, ?_⟩
              refine ⟨trivial, ?_⟩
              refine ⟨trivial, ?_⟩
              refine ⟨trivial, ?_⟩
              exact ⟨⟨trivial, trivial, trivial⟩, ih x58 (IntKind.wrap .i64 (x59 + (1 : Int))) r h⟩
          · rw [if_neg (beq_f b95)] at h
            refine ⟨rfl, ?_⟩
            refine ⟨rfl, ?_⟩
            refine ⟨trivial, ?_⟩
            refine ⟨rfl, ?_⟩
            refine ⟨fun b100 => ?_, fun b100 => ?_⟩
            · rw [if_pos (bne_t b100)] at h
              refine ⟨b100, ?_⟩
              refine ⟨trivial, ?_⟩
              refine ⟨b100, ?_⟩
              refine ⟨fun b101 => ?_, fun b101 => ?_⟩
              · rw [if_pos (bne_t b101)] at h
                obtain ⟨g102, h⟩ := of_guard h
                refine ⟨g102, ?_⟩
                refine ⟨trivial, ?_⟩
                refine ⟨trivial, ?_⟩
                exact ⟨⟨trivial, trivial, trivial⟩, ih (x58 ++ [x59]) (IntKind.wrap .i64 (x59 + (1 : Int))) r h⟩
              · rw [if_neg (not_not_intro (bne_f b101))] at h
                refine ⟨trivial, ?_⟩
                refine ⟨trivial, ?_⟩
                refine ⟨trivial, ?_⟩
                exact ⟨⟨trivial, trivial, trivial⟩, ih x58 (IntKind.wrap .i64 (x59 + (1 : Int))) r h⟩
            · rw [if_neg (not_not_intro (bne_f b100))] at h
              refine ⟨b100, ?_⟩
              refine ⟨b100, ?_⟩
              refine ⟨rfl, ?_⟩
              refine ⟨trivial, ?_⟩
              refine ⟨trivial, ?_⟩
              refine ⟨trivial, ?_⟩
              exact ⟨⟨trivial, trivial, trivial⟩, ih x58 (IntKind.wrap .i64 (x59 + (1 : Int))) r h⟩
      · rw [if_neg (beq_f b93)] at h
        refine ⟨trivial, ?_⟩
        refine ⟨fun b108 => ?_, fun b108 => ?_⟩
        · rw [if_pos (beq_t b108)] at h
          refine ⟨fun b109 => ?_, fun b109 => ?_⟩
          · rw [if_pos b109] at h
            refine ⟨b109, ?_⟩
            refine ⟨b109, ?_⟩
            refine ⟨fun b110 => ?_, fun b110 => ?_⟩
            · rw [if_pos (ff (not_t b110))] at h
              refine ⟨b110, ?_⟩
              refine ⟨trivial, ?_⟩
              refine ⟨b110, ?_⟩
              refine ⟨fun b111 => ?_, fun b111 => ?_⟩
              · rw [if_pos (bne_t b111)] at h
                refine ⟨b111, ?_⟩
                refine ⟨trivial, ?_⟩
                refine ⟨b111, ?_⟩
                refine ⟨fun b112 => ?_, fun b112 => ?_⟩
                · rw [if_pos (bne_t b112)] at h
                  obtain ⟨g113, h⟩ := of_guard h
                  refine ⟨g113, ?_⟩
                  refine ⟨trivial, ?_⟩
                  refine ⟨trivial, ?_⟩
                  exact ⟨⟨trivial, trivial, trivial⟩, ih (x58 ++ [x59]) (IntKind.wrap .i64 (x59 + (1 : Int))) r h⟩
                · rw [if_neg (not_not_intro (bne_f b112))] at h
                  refine ⟨trivial, ?_⟩
                  refine ⟨trivial, ?_⟩
                  refine ⟨trivial, ?_⟩
                  exact ⟨⟨trivial, trivial, trivial⟩, ih x58 (IntKind.wrap .i64 (x59 + (1 : Int))) r h⟩
              · rw [if_neg (not_not_intro (bne_f b111))] at h
                refine ⟨b111, ?_⟩
                refine ⟨b111, ?_⟩
                refine ⟨rfl, ?_⟩
                refine ⟨trivial, ?_⟩
                refine ⟨trivial, ?_⟩
                refine ⟨trivial, ?_⟩
                exact ⟨⟨trivial, trivial, trivial⟩, ih x58 (IntKind.wrap .i64 (x59 + (1 : Int))) r h⟩
            · rw [if_neg (not_not_intro (not_f b110))] at h
              refine ⟨b110, ?_⟩
              refine ⟨b110, ?_⟩
              refine ⟨rfl, ?_⟩
              refine ⟨rfl, ?_⟩
              refine ⟨rfl, ?_⟩
              refine ⟨rfl, ?_⟩
              refine ⟨trivial, ?_⟩
              refine ⟨trivial, ?_⟩
              refine ⟨trivial, ?_⟩
              exact ⟨⟨trivial, trivial, trivial⟩, ih x58 (IntKind.wrap .i64 (x59 + (1 : Int))) r h⟩
          · rw [if_neg (ff b109)] at h
            refine ⟨b109, ?_⟩
            refine ⟨b109, ?_⟩
            refine ⟨rfl, ?_⟩
            refine ⟨rfl, ?_⟩
            refine ⟨rfl, ?_⟩
            refine ⟨rfl, ?_⟩
            refine ⟨rfl, ?_⟩
            refine ⟨rfl, ?_⟩
            refine ⟨rfl, ?_⟩
            refine ⟨trivial, ?_⟩
            refine ⟨trivial, ?_⟩
            refine ⟨trivial, ?_⟩
            exact ⟨⟨trivial, trivial, trivial⟩, ih x58 (IntKind.wrap .i64 (x59 + (1 : Int))) r h⟩
        · rw [if_neg (beq_f b108)] at h
          refine ⟨fun b114 => ?_, fun b114 => ?_⟩
          · rw [if_pos b114] at h
            refine ⟨b114, ?_⟩
            refine ⟨trivial, ?_⟩
            refine ⟨b114, ?_⟩
            refine ⟨fun b115 => ?_, fun b115 => ?_⟩
            · rw [if_pos (bne_t b115)] at h
              refine ⟨b115, ?_⟩
              refine ⟨trivial, ?_⟩
              refine ⟨b115, ?_⟩
              refine ⟨fun b116 => ?_, fun b116 => ?_⟩
              · rw [if_pos (bne_t b116)] at h
                obtain ⟨g117, h⟩ := of_guard h
                refine ⟨g117, ?_⟩
                refine ⟨trivial, ?_⟩
                refine ⟨trivial, ?_⟩
                exact ⟨⟨trivial, trivial, trivial⟩, ih (x58 ++ [x59]) (IntKind.wrap .i64 (x59 + (1 : Int))) r h⟩
              · rw [if_neg (not_not_intro (bne_f b116))] at h
                refine ⟨trivial, ?_⟩
                refine ⟨trivial, ?_⟩
                refine ⟨trivial, ?_⟩
                exact ⟨⟨trivial, trivial, trivial⟩, ih x58 (IntKind.wrap .i64 (x59 + (1 : Int))) r h⟩
            · rw [if_neg (not_not_intro (bne_f b115))] at h
              refine ⟨b115, ?_⟩
              refine ⟨b115, ?_⟩
              refine ⟨rfl, ?_⟩
              refine ⟨trivial, ?_⟩
              refine ⟨trivial, ?_⟩
              refine ⟨trivial, ?_⟩
              exact ⟨⟨trivial, trivial, trivial⟩, ih x58 (IntKind.wrap .i64 (x59 + (1 : Int))) r h⟩
          · rw [if_neg (ff b114)] at h
            refine ⟨b114, ?_⟩
            refine ⟨b114, ?_⟩
            refine ⟨rfl, ?_⟩
            refine ⟨rfl, ?_⟩
            refine ⟨rfl, ?_⟩
            refine ⟨rfl, ?_⟩
            refine ⟨trivial, ?_⟩
            refine ⟨trivial, ?_⟩
            refine ⟨trivial, ?_⟩
            exact ⟨⟨trivial, trivial, trivial⟩, ih x58 (IntKind.wrap .i64 (x59 + (1 : Int))) r h⟩
    · rw [if_neg (of_decide_eq_false b90)] at h
      obtain rfl := Option.some.inj h
      exact ⟨⟨trivial, trivial, trivial⟩, rfl, rfl⟩
def halterref25_Mask.f (a0 : Int) (a1 : Int) (a2 : (List Int)) (a3 : Int) (a4 : Int) : Option (Int × Int × (List Int) × Int) :=
  (halterref25_May.f a0 a1 a2).bind fun t1 =>
  if ¬ (t1 = true) then
    some ((0 : Int), (0 : Int), (List.replicate 32 (0 : Int)), (22 : Int))
  else
    if a3 < (0 : Int) then
      some ((0 : Int), (0 : Int), (List.replicate 32 (0 : Int)), (22 : Int))
    else
      if a3 > (2 : Int) then
        some ((0 : Int), (0 : Int), (List.replicate 32 (0 : Int)), (22 : Int))
      else
        (halterref25_Mask.l0 a0 a1 a2 a3 a4 FUEL ([] : List Int) (1 : Int)).bind fun t89 =>
        (halterref03_Of.f t89).bind fun t120 =>
        some (a0, t120, a2, (0 : Int))
def halterref25_Mask.R (r : Int × Int × (List Int) × Int) : Tm := .tup [.agg [.c (.sc (.int .u32 r.1)), .c (.sc (.int .u32 r.2.1)), .row 32 (.int .u32) r.2.2.1], .one (.sc (.int .i64 r.2.2.2))]
theorem halterref25_Mask.fun_ {a0 : Int} {a1 : Int} {a2 : (List Int)} {a3 : Int} {a4 : Int} {r : Int × Int × (List Int) × Int} (h : halterref25_Mask.f a0 a1 a2 a3 a4 = some r) : Fun cfg 19 [.agg [.c (.sc (.int .u32 a0)), .c (.sc (.int .u32 a1)), .row 32 (.int .u32) a2], .one (.sc (.int .i64 a3)), .one (.sc (.int .u32 a4))] [] (halterref25_Mask.R r) [] := by
  unfold halterref25_Mask.f at h
  refine fun_of_run cfg_ok (f := 19) (fn := Tryd.f19) Tryd.func19 rfl (by kernel_rfl) (rs := [.cell 6 48, .tmp 7]) rfl (nt := 67) rfl (l := fin) (k := (.call true [] (Bool) (fun t1 => halterref25_May.R t1) (fun t1 => (.br (.one true (.one true (.one true (.one true (.one true (.one true (.adj [] (.adj [] (.adj [.drop 0] .nil))))))))) (.one false (.one false (.br (.one true (.one true (.one true (.adj [] (.adj [] (.adj [.drop 0] .nil)))))) (.one false (.one false (.br (.adj [] (.adj [] (.adj [.drop 0] .nil))) (.adj [] (.adj [] (.adj [] (.adj [.keep [1, 2, 3, 6, 8, 9], .nilGro 8 (.int .i64) 3] (.sub ((List Int)) (fun _ => (.exit 0)) (fun t89 => ⟨[.any, .any, .any, .v (.one (.ptr 0 ⟨0, 0, 0, 0⟩)), .any, .any, .v (.one (.ptr 1 ⟨0, 0, 0, 0⟩)), .any, .v (.one (.os 2 0 0 1 (List.length t89) none)), .any, .any, .any, .any, .any, .any, .any, .any, .any, .any, .any, .any, .any, .any, .any, .any, .any, .any, .any, .any, .any, .any, .any, .any, .any, .any, .any, .any, .any, .any, .any, .any, .any, .any, .any, .any, .any, .any, .any, .any, .any, .any, .any, .any, .any, .any, .any, .any, .any, .any, .any, .any, .any, .any, .any, .any, .any, .any], [.ex false [.c (.sc (.int .u32 a0)), .c (.sc (.int .u32 a1)), .row 32 (.int .u32) a2] 48, .ex false [.c (.sc (.int .u32 (0 : Int))), .c (.sc (.int .u32 (0 : Int))), .row 32 (.int .u32) (List.replicate 32 (0 : Int))] 48, .gro false (.int .i64) t89 3], 0⟩) (fun t89 => (.call true [] (Int) (fun t120 => halterref03_Of.R t120) (fun t120 => (.adj [] (.adj [] (.adj [.drop 0] .nil))))))))))))))))))))) (to_goal (q := (True) ∧ (∃ t1 : Bool, (Fun cfg 27 [.agg [.c (.sc (.int .u32 a0)), .c (.sc (.int .u32 a1)), .row 32 (.int .u32) a2]] [] (halterref25_May.R t1) [] ∧ True) ∧ (((!t1) = false → ((!t1) = false ∧ (True) ∧ ((!t1) = false ∧ (((decide (a3 < (0 : Int))) = false → ((decide (a3 < (0 : Int))) = false ∧ (True) ∧ ((decide (a3 < (0 : Int))) = false ∧ (((decide (a3 > (2 : Int))) = true → (True ∧ (True) ∧ (True ∧ (((True) ∧ True) ∧ ((True) ∧ True) ∧ (.tup [.agg [.c (.sc (.int .u32 (0 : Int))), .c (.sc (.int .u32 (0 : Int))), .row 32 (.int .u32) (List.replicate 32 (0 : Int))], .one (.sc (.int .i64 (22 : Int)))] : Tm) = halterref25_Mask.R r ∧ ([] : List Box) = [])))) ∧ ((decide (a3 > (2 : Int))) = false → (True ∧ (True ∧ (True ∧ (((True) ∧ (True) ∧ True) ∧ (∃ t89 : (List Int), Trip cfg (.loop (cpath (Tryd.f19.body.getD .skip) [1, 1, 1, 0, 1, 0, 0])) ⟨[.any, .v (.one (.sc (.int .i64 a3))), .v (.one (.sc (.int .u32 a4))), .v (.one (.ptr 0 ⟨0, 0, 0, 0⟩)), .any, .any, .v (.one (.ptr 1 ⟨0, 0, 0, 0⟩)), .any, .v (.one (.os 2 0 0 1 0 none)), .v (.one (.sc (.int .i64 (1 : Int)))), .any, .any, .any, .any, .any, .any, .any, .any, .any, .any, .any, .any, .any, .any, .any, .any, .any, .any, .any, .any, .any, .any, .any, .any, .any, .any, .any, .any, .any, .any, .any, .any, .any, .any, .any, .any, .any, .any, .any, .any, .any, .any, .any, .any, .any, .any, .any, .any, .any, .any, .any, .any, .any, .any, .any, .any, .any], [.ex false [.c (.sc (.int .u32 a0)), .c (.sc (.int .u32 a1)), .row 32 (.int .u32) a2] 48, .ex false [.c (.sc (.int .u32 (0 : Int))), .c (.sc (.int .u32 (0 : Int))), .row 32 (.int .u32) (List.replicate 32 (0 : Int))] 48, .gro false (.int .i64) ([] : List Int) 3], 0⟩ (fun e s => e = (.exit 0) ∧ s = ⟨[.any, .any, .any, .v (.one (.ptr 0 ⟨0, 0, 0, 0⟩)), .any, .any, .v (.one (.ptr 1 ⟨0, 0, 0, 0⟩)), .any, .v (.one (.os 2 0 0 1 (List.length t89) none)), .any, .any, .any, .any, .any, .any, .any, .any, .any, .any, .any, .any, .any, .any, .any, .any, .any, .any, .any, .any, .any, .any, .any, .any, .any, .any, .any, .any, .any, .any, .any, .any, .any, .any, .any, .any, .any, .any, .any, .any, .any, .any, .any, .any, .any, .any, .any, .any, .any, .any, .any, .any, .any, .any, .any, .any, .any, .any], [.ex false [.c (.sc (.int .u32 a0)), .c (.sc (.int .u32 a1)), .row 32 (.int .u32) a2] 48, .ex false [.c (.sc (.int .u32 (0 : Int))), .c (.sc (.int .u32 (0 : Int))), .row 32 (.int .u32) (List.replicate 32 (0 : Int))] 48, .gro false (.int .i64) t89 3], 0⟩) ∧ (∃ t120 : Int, ((0 = 0 ∧ (List.length t89) = (List.length t89)) ∧ Fun cfg 38 [.one (.fs (.int .i64) t89 false)] [] (halterref03_Of.R t120) [] ∧ True) ∧ (True) ∧ (True ∧ (True) ∧ (True) ∧ (True ∧ (((True) ∧ True) ∧ ((True) ∧ True) ∧ (.tup [.agg [.c (.sc (.int .u32 a0)), .c (.sc (.int .u32 t120)), .row 32 (.int .u32) a2], .one (.sc (.int .i64 (0 : Int)))] : Tm) = halterref25_Mask.R r ∧ ([] : List Box) = [])))))))))))))) ∧ ((decide (a3 < (0 : Int))) = true → ((decide (a3 < (0 : Int))) = true ∧ ((decide (a3 < (0 : Int))) = true ∧ (true = true ∧ (True ∧ (True) ∧ (True ∧ (((True) ∧ True) ∧ ((True) ∧ True) ∧ (.tup [.agg [.c (.sc (.int .u32 (0 : Int))), .c (.sc (.int .u32 (0 : Int))), .row 32 (.int .u32) (List.replicate 32 (0 : Int))], .one (.sc (.int .i64 (22 : Int)))] : Tm) = halterref25_Mask.R r ∧ ([] : List Box) = []))))))))))) ∧ ((!t1) = true → ((!t1) = true ∧ ((!t1) = true ∧ (true = true ∧ (true = true ∧ (true = true ∧ (true = true ∧ (True ∧ (True) ∧ (True ∧ (((True) ∧ True) ∧ ((True) ∧ True) ∧ (.tup [.agg [.c (.sc (.int .u32 (0 : Int))), .c (.sc (.int .u32 (0 : Int))), .row 32 (.int .u32) (List.replicate 32 (0 : Int))], .one (.sc (.int .i64 (22 : Int)))] : Tm) = halterref25_Mask.R r ∧ ([] : List Box) = []))))))))))))) (by kernel_rfl) ?_)
  refine ⟨trivial, ?_⟩
  obtain ⟨t1, ht1, h⟩ := of_bind h
  refine ⟨t1, ⟨halterref25_May.fun_ ht1, trivial⟩, ?_⟩
  refine ⟨fun b2 => ?_, fun b2 => ?_⟩
  · rw [if_neg (not_not_intro (not_f b2))] at h
    refine ⟨b2, ?_⟩
    refine ⟨trivial, ?_⟩
    refine ⟨b2, ?_⟩
    refine ⟨fun b3 => ?_, fun b3 => ?_⟩
    · rw [if_neg (of_decide_eq_false b3)] at h
      refine ⟨b3, ?_⟩
      refine ⟨trivial, ?_⟩
      refine ⟨b3, ?_⟩
      refine ⟨fun b4 => ?_, fun b4 => ?_⟩
      · rw [if_pos (of_decide_eq_true b4)] at h
        refine ⟨trivial, ?_⟩
        refine ⟨trivial, ?_⟩
        refine ⟨trivial, ?_⟩
        obtain rfl := Option.some.inj h
        exact ⟨⟨trivial, trivial⟩, ⟨trivial, trivial⟩, rfl, rfl⟩
      · rw [if_neg (of_decide_eq_false b4)] at h
        refine ⟨trivial, ?_⟩
        refine ⟨trivial, ?_⟩
        refine ⟨trivial, ?_⟩
        obtain ⟨t89, ht89, h⟩ := of_bind h
        refine ⟨⟨trivial, trivial, trivial⟩, t89, Trip.loop FUEL (halterref25_Mask.l0_ok a0 a1 a2 a3 a4 FUEL ([] : List Int) (1 : Int) t89 ht89), ?_⟩
        obtain ⟨t120, ht120, h⟩ := of_bind h
        refine ⟨t120, ⟨⟨rfl, rfl⟩, halterref03_Of.fun_ ht120, trivial⟩, ?_⟩
        refine ⟨trivial, ?_⟩
        refine ⟨trivial, ?_⟩
        refine ⟨trivial, ?_⟩
        refine ⟨trivial, ?_⟩
        refine ⟨trivial, ?_⟩
        obtain rfl := Option.some.inj h
        exact ⟨⟨trivial, trivial⟩, ⟨trivial, trivial⟩, rfl, rfl⟩
    · rw [if_pos (of_decide_eq_true b3)] at h
      refine ⟨b3, ?_⟩
      refine ⟨b3, ?_⟩
      refine ⟨rfl, ?_⟩
      refine ⟨trivial, ?_⟩
      refine ⟨trivial, ?_⟩
      refine ⟨trivial, ?_⟩
      obtain rfl := Option.some.inj h
      exact ⟨⟨trivial, trivial⟩, ⟨trivial, trivial⟩, rfl, rfl⟩
  · rw [if_pos (ff (not_t b2))] at h
    refine ⟨b2, ?_⟩
    refine ⟨b2, ?_⟩
    refine ⟨rfl, ?_⟩
    refine ⟨rfl, ?_⟩
    refine ⟨rfl, ?_⟩
    refine ⟨rfl, ?_⟩
    refine ⟨trivial, ?_⟩
    refine ⟨trivial, ?_⟩
    refine ⟨trivial, ?_⟩
    obtain rfl := Option.some.inj h
    exact ⟨⟨trivial, trivial⟩, ⟨trivial, trivial⟩, rfl, rfl⟩
/-! halter/sig.Fork -/
def sig_Fork.f (a0 : Int) (a1 : Int) (a2 : (List Int)) : Option (Int × Int × (List Int)) :=
  some ((0 : Int), a1, a2)
def sig_Fork.R (r : Int × Int × (List Int)) : Tm := .v (.agg [.c (.sc (.int .u32 r.1)), .c (.sc (.int .u32 r.2.1)), .row 32 (.int .u32) r.2.2])
theorem sig_Fork.fun_ {a0 : Int} {a1 : Int} {a2 : (List Int)} {r : Int × Int × (List Int)} (h : sig_Fork.f a0 a1 a2 = some r) : Fun cfg 20 [.agg [.c (.sc (.int .u32 a0)), .c (.sc (.int .u32 a1)), .row 32 (.int .u32) a2]] [] (sig_Fork.R r) [] := by
  unfold sig_Fork.f at h
  refine fun_of_run cfg_ok (f := 20) (fn := Tryd.f20) Tryd.func20 rfl (by kernel_rfl) (rs := [.cell 2 27]) rfl (nt := 5) rfl (l := fin) (k := (.adj [] (.adj [] (.adj [] (.adj [] (.adj [.drop 0] .nil)))))) (to_goal (q := (True ∧ (True ∧ (True) ∧ (True ∧ (True) ∧ (True) ∧ (True ∧ (((True) ∧ True) ∧ ((True) ∧ True) ∧ (.v (.agg [.c (.sc (.int .u32 (0 : Int))), .c (.sc (.int .u32 a1)), .row 32 (.int .u32) a2]) : Tm) = sig_Fork.R r ∧ ([] : List Box) = [])))))) (by kernel_rfl) ?_)
  refine ⟨trivial, ?_⟩
  refine ⟨trivial, ?_⟩
  refine ⟨trivial, ?_⟩
  refine ⟨trivial, ?_⟩
  refine ⟨trivial, ?_⟩
  refine ⟨trivial, ?_⟩
  refine ⟨trivial, ?_⟩
  obtain rfl := Option.some.inj h
  exact ⟨⟨trivial, trivial⟩, ⟨trivial, trivial⟩, rfl, rfl⟩
/-! halter/sig.Exec -/
def sig_Exec.l0 (a0 : Int) (a1 : Int) (a2 : (List Int)) : Nat → (List Int) → Int → Option (List Int)
  | 0, _, _ => none
  | n + 1, x7, x8 =>
    if x8 < (32 : Int) then
      if 0 ≤ x8 ∧ x8 < ((32 : Nat) : Int) then
        if (List.getD a2 (Int.toNat x8) (0 : Int)) > (1 : Int) then
          if 0 ≤ x8 ∧ x8 < ((32 : Nat) : Int) then
            if (Int.toNat x8) < 32 then
              sig_Exec.l0 a0 a1 a2 n (List.set x7 (Int.toNat x8) (0 : Int)) (IntKind.wrap .i64 (x8 + (1 : Int)))
            else none
          else none
        else
          sig_Exec.l0 a0 a1 a2 n x7 (IntKind.wrap .i64 (x8 + (1 : Int)))
      else none
    else
      some x7
def sig_Exec.l0_S (a0 : Int) (a1 : Int) (a2 : (List Int)) (x7 : List Int) (x8 : Int) : St := ⟨[.any, .v (.one (.ptr 0 ⟨0, 0, 0, 0⟩)), .v (.one (.ptr 1 ⟨0, 0, 0, 0⟩)), .any, .any, .any, .v (.agg [.row 32 (.int .u32) a2]), .v (.one (.sc (.int .i64 x8))), .any, .any, .any, .any, .any, .any, .any, .any, .any, .any], [.ex false [.c (.sc (.int .u32 a0)), .c (.sc (.int .u32 a1)), .row 32 (.int .u32) x7] 27, .ex false [.c (.sc (.int .u32 (0 : Int))), .c (.sc (.int .u32 (0 : Int))), .row 32 (.int .u32) (List.replicate 32 (0 : Int))] 27], 0⟩
def sig_Exec.l0_Q (a0 : Int) (a1 : Int) (a2 : (List Int)) (t : (List Int)) : Exit → St → Prop := fun e s => e = (.exit 0) ∧ s = ⟨[.any, .v (.one (.ptr 0 ⟨0, 0, 0, 0⟩)), .v (.one (.ptr 1 ⟨0, 0, 0, 0⟩)), .any, .any, .any, .any, .any, .any, .any, .any, .any, .any, .any, .any, .any, .any, .any], [.ex false [.c (.sc (.int .u32 a0)), .c (.sc (.int .u32 a1)), .row 32 (.int .u32) t] 27, .ex false [.c (.sc (.int .u32 (0 : Int))), .c (.sc (.int .u32 (0 : Int))), .row 32 (.int .u32) (List.replicate 32 (0 : Int))] 27], 0⟩
theorem sig_Exec.l0_ok (a0 : Int) (a1 : Int) (a2 : (List Int)) : ∀ (n : Nat) (x7 : List Int) (x8 : Int) (r : (List Int)), sig_Exec.l0 a0 a1 a2 n x7 x8 = some r → TripN cfg (cpath (Tryd.f23.body.getD .skip) [1, 0, 1, 0, 0]) n (sig_Exec.l0_S a0 a1 a2 x7 x8) (sig_Exec.l0_Q a0 a1 a2 r) := by
  intro n
  induction n with
  | zero => intro x7 x8 r h; cases h
  | succ n ih =>
    intro x7 x8 r h
    rw [sig_Exec.l0] at h
    refine TripN.of_run cfg_ok (k := (.br (.br (.adj [] (.adj [] (.adj [.keep [1, 2, 6, 7], .drop 2] .nil))) (.adj [] (.adj [] (.adj [.keep [1, 2, 6, 7], .drop 2] .nil)))) (.adj [.keep [1, 2], .drop 2] .nil))) (to_goal (q := (True) ∧ (((decide (x8 < (32 : Int))) = true → (0 ≤ x8 ∧ x8 < ((32 : Nat) : Int)) ∧ (True) ∧ (((decide ((List.getD a2 (Int.toNat x8) (0 : Int)) > (1 : Int))) = true → (True ∧ (0 ≤ x8 ∧ x8 < ((32 : Nat) : Int)) ∧ ((Int.toNat x8) < 32) ∧ (True ∧ (True) ∧ (((True) ∧ (True) ∧ True) ∧ TripN cfg (cpath (Tryd.f23.body.getD .skip) [1, 0, 1, 0, 0]) n (sig_Exec.l0_S a0 a1 a2 (List.set x7 (Int.toNat x8) (0 : Int)) (IntKind.wrap .i64 (x8 + (1 : Int)))) (sig_Exec.l0_Q a0 a1 a2 r))))) ∧ ((decide ((List.getD a2 (Int.toNat x8) (0 : Int)) > (1 : Int))) = false → (True ∧ (True ∧ (True) ∧ (((True) ∧ (True) ∧ True) ∧ TripN cfg (cpath (Tryd.f23.body.getD .skip) [1, 0, 1, 0, 0]) n (sig_Exec.l0_S a0 a1 a2 x7 (IntKind.wrap .i64 (x8 + (1 : Int)))) (sig_Exec.l0_Q a0 a1 a2 r))))))) ∧ ((decide (x8 < (32 : Int))) = false → (((True) ∧ (True) ∧ True) ∧ sig_Exec.l0_Q a0 a1 a2 r (.exit 0) ⟨[.any, .v (.one (.ptr 0 ⟨0, 0, 0, 0⟩)), .v (.one (.ptr 1 ⟨0, 0, 0, 0⟩)), .any, .any, .any, .any, .any, .any, .any, .any, .any, .any, .any, .any, .any, .any, .any], [.ex false [.c (.sc (.int .u32 a0)), .c (.sc (.int .u32 a1)), .row 32 (.int .u32) x7] 27, .ex false [.c (.sc (.int .u32 (0 : Int))), .c (.sc (.int .u32 (0 : Int))), .row 32 (.int .u32) (List.replicate 32 (0 : Int))] 27], 0⟩)))) (by kernel_rfl) ?_)
    refine ⟨trivial, ?_⟩
    refine ⟨fun b16 => ?_, fun b16 => ?_⟩
    · rw [if_pos (of_decide_eq_true b16)] at h
      obtain ⟨g20, h⟩ := of_guard h
      refine ⟨g20, ?_⟩
      refine ⟨trivial, ?_⟩
      refine ⟨fun b17 => ?_, fun b17 => ?_⟩
      · rw [if_pos (of_decide_eq_true b17)] at h
        refine ⟨trivial, ?_⟩
        obtain ⟨g19, h⟩ := of_guard h
        refine ⟨g19, ?_⟩
        obtain ⟨g18, h⟩ := of_guard h
        refine ⟨g18, ?_⟩
        refine ⟨trivial, ?_⟩
        refine ⟨trivial, ?_⟩
        exact ⟨⟨trivial, trivial, trivial⟩, ih (List.set x7 (Int.toNat x8) (0 : Int)) (IntKind.wrap .i64 (x8 + (1 : Int))) r h⟩
      · rw [if_neg (of_decide_eq_false b17)] at h
        refine ⟨trivial, ?_⟩
        refine ⟨trivial, ?_⟩
        refine ⟨trivial, ?_⟩
        exact ⟨⟨trivial, trivial, trivial⟩, ih x7 (IntKind.wrap .i64 (x8 + (1 : Int))) r h⟩
    · rw [if_neg (of_decide_eq_false b16)] at h
      obtain rfl := Option.some.inj h
      exact ⟨⟨trivial, trivial, trivial⟩, rfl, rfl⟩
def sig_Exec.f (a0 : Int) (a1 : Int) (a2 : (List Int)) : Option (Int × Int × (List Int)) :=
  (sig_Exec.l0 a0 a1 a2 FUEL a2 (0 : Int)).bind fun t15 =>
  some (a0, a1, t15)
def sig_Exec.R (r : Int × Int × (List Int)) : Tm := .v (.agg [.c (.sc (.int .u32 r.1)), .c (.sc (.int .u32 r.2.1)), .row 32 (.int .u32) r.2.2])
theorem sig_Exec.fun_ {a0 : Int} {a1 : Int} {a2 : (List Int)} {r : Int × Int × (List Int)} (h : sig_Exec.f a0 a1 a2 = some r) : Fun cfg 23 [.agg [.c (.sc (.int .u32 a0)), .c (.sc (.int .u32 a1)), .row 32 (.int .u32) a2]] [] (sig_Exec.R r) [] := by
  unfold sig_Exec.f at h
  refine fun_of_run cfg_ok (f := 23) (fn := Tryd.f23) Tryd.func23 rfl (by kernel_rfl) (rs := [.cell 2 27]) rfl (nt := 18) rfl (l := fin) (k := (.adj [] (.adj [] (.adj [.keep [1, 2, 6, 7]] (.sub ((List Int)) (fun _ => (.exit 0)) (fun t15 => ⟨[.any, .v (.one (.ptr 0 ⟨0, 0, 0, 0⟩)), .v (.one (.ptr 1 ⟨0, 0, 0, 0⟩)), .any, .any, .any, .any, .any, .any, .any, .any, .any, .any, .any, .any, .any, .any, .any], [.ex false [.c (.sc (.int .u32 a0)), .c (.sc (.int .u32 a1)), .row 32 (.int .u32) t15] 27, .ex false [.c (.sc (.int .u32 (0 : Int))), .c (.sc (.int .u32 (0 : Int))), .row 32 (.int .u32) (List.replicate 32 (0 : Int))] 27], 0⟩) (fun t15 => (.adj [] (.adj [] (.adj [.drop 0] .nil))))))))) (to_goal (q := (True ∧ (True ∧ (True) ∧ (((True) ∧ True) ∧ (∃ t15 : (List Int), Trip cfg (.loop (cpath (Tryd.f23.body.getD .skip) [1, 0, 1, 0, 0])) ⟨[.any, .v (.one (.ptr 0 ⟨0, 0, 0, 0⟩)), .v (.one (.ptr 1 ⟨0, 0, 0, 0⟩)), .any, .any, .any, .v (.agg [.row 32 (.int .u32) a2]), .v (.one (.sc (.int .i64 (0 : Int)))), .any, .any, .any, .any, .any, .any, .any, .any, .any, .any], [.ex false [.c (.sc (.int .u32 a0)), .c (.sc (.int .u32 a1)), .row 32 (.int .u32) a2] 27, .ex false [.c (.sc (.int .u32 (0 : Int))), .c (.sc (.int .u32 (0 : Int))), .row 32 (.int .u32) (List.replicate 32 (0 : Int))] 27], 0⟩ (fun e s => e = (.exit 0) ∧ s = ⟨[.any, .v (.one (.ptr 0 ⟨0, 0, 0, 0⟩)), .v (.one (.ptr 1 ⟨0, 0, 0, 0⟩)), .any, .any, .any, .any, .any, .any, .any, .any, .any, .any, .any, .any, .any, .any, .any], [.ex false [.c (.sc (.int .u32 a0)), .c (.sc (.int .u32 a1)), .row 32 (.int .u32) t15] 27, .ex false [.c (.sc (.int .u32 (0 : Int))), .c (.sc (.int .u32 (0 : Int))), .row 32 (.int .u32) (List.replicate 32 (0 : Int))] 27], 0⟩) ∧ (True ∧ (True) ∧ (True) ∧ (True ∧ (((True) ∧ True) ∧ ((True) ∧ True) ∧ (.v (.agg [.c (.sc (.int .u32 a0)), .c (.sc (.int .u32 a1)), .row 32 (.int .u32) t15]) : Tm) = sig_Exec.R r ∧ ([] : List Box) = [])))))))) (by kernel_rfl) ?_)
  refine ⟨trivial, ?_⟩
  refine ⟨trivial, ?_⟩
  refine ⟨trivial, ?_⟩
  obtain ⟨t15, ht15, h⟩ := of_bind h
  refine ⟨⟨trivial, trivial⟩, t15, Trip.loop FUEL (sig_Exec.l0_ok a0 a1 a2 FUEL a2 (0 : Int) t15 ht15), ?_⟩
  refine ⟨trivial, ?_⟩
  refine ⟨trivial, ?_⟩
  refine ⟨trivial, ?_⟩
  refine ⟨trivial, ?_⟩
  obtain rfl := Option.some.inj h
  exact ⟨⟨trivial, trivial⟩, ⟨trivial, trivial⟩, rfl, rfl⟩
/-! halter/halterref25.Exec -/
def halterref25_Exec.l0 (a0 : Int) (a1 : Int) : Nat → (List Int) → Int → Option (List Int)
  | 0, _, _ => none
  | n + 1, x8, x9 =>
    if x9 < (32 : Int) then
      if 0 ≤ x9 ∧ x9 < ((32 : Nat) : Int) then
        if (Int.toNat x9) < 32 then
          if (List.getD x8 (Int.toNat x9) (0 : Int)) > (1 : Int) then
            if 0 ≤ x9 ∧ x9 < ((32 : Nat) : Int) then
              if (Int.toNat x9) < 32 then
                halterref25_Exec.l0 a0 a1 n (List.set x8 (Int.toNat x9) (0 : Int)) (IntKind.wrap .i64 (x9 + (1 : Int)))
              else none
            else none
          else
            halterref25_Exec.l0 a0 a1 n x8 (IntKind.wrap .i64 (x9 + (1 : Int)))
        else none
      else none
    else
      some x8
def halterref25_Exec.l0_S (a0 : Int) (a1 : Int) (x8 : List Int) (x9 : Int) : St := ⟨[.any, .v (.one (.ptr 0 ⟨0, 0, 0, 0⟩)), .v (.one (.ptr 1 ⟨0, 0, 0, 0⟩)), .v (.one (.sc (.int .i64 x9))), .any, .any, .any, .any, .any, .any, .any, .any, .any, .any, .any, .any, .any], [.ex false [.c (.sc (.int .u32 a0)), .c (.sc (.int .u32 a1)), .row 32 (.int .u32) x8] 48, .ex false [.c (.sc (.int .u32 (0 : Int))), .c (.sc (.int .u32 (0 : Int))), .row 32 (.int .u32) (List.replicate 32 (0 : Int))] 48], 0⟩
def halterref25_Exec.l0_Q (a0 : Int) (a1 : Int) (t : (List Int)) : Exit → St → Prop := fun e s => e = (.exit 0) ∧ s = ⟨[.any, .v (.one (.ptr 0 ⟨0, 0, 0, 0⟩)), .v (.one (.ptr 1 ⟨0, 0, 0, 0⟩)), .any, .any, .any, .any, .any, .any, .any, .any, .any, .any, .any, .any, .any, .any], [.ex false [.c (.sc (.int .u32 a0)), .c (.sc (.int .u32 a1)), .row 32 (.int .u32) t] 48, .ex false [.c (.sc (.int .u32 (0 : Int))), .c (.sc (.int .u32 (0 : Int))), .row 32 (.int .u32) (List.replicate 32 (0 : Int))] 48], 0⟩
theorem halterref25_Exec.l0_ok (a0 : Int) (a1 : Int) : ∀ (n : Nat) (x8 : List Int) (x9 : Int) (r : (List Int)), halterref25_Exec.l0 a0 a1 n x8 x9 = some r → TripN cfg (cpath (Tryd.f24.body.getD .skip) [1, 0, 1, 0, 0]) n (halterref25_Exec.l0_S a0 a1 x8 x9) (halterref25_Exec.l0_Q a0 a1 r) := by
  intro n
  induction n with
  | zero => intro x8 x9 r h; cases h
  | succ n ih =>
    intro x8 x9 r h
    rw [halterref25_Exec.l0] at h
    refine TripN.of_run cfg_ok (k := (.br (.br (.adj [] (.adj [] (.adj [.keep [1, 2, 3], .drop 2] .nil))) (.adj [] (.adj [] (.adj [.keep [1, 2, 3], .drop 2] .nil)))) (.adj [.keep [1, 2], .drop 2] .nil))) (to_goal (q := (True) ∧ (((decide (x9 < (32 : Int))) = true → (0 ≤ x9 ∧ x9 < ((32 : Nat) : Int)) ∧ ((Int.toNat x9) < 32) ∧ (True) ∧ (((decide ((List.getD x8 (Int.toNat x9) (0 : Int)) > (1 : Int))) = true → (True ∧ (0 ≤ x9 ∧ x9 < ((32 : Nat) : Int)) ∧ ((Int.toNat x9) < 32) ∧ (True ∧ (True) ∧ (((True) ∧ (True) ∧ True) ∧ TripN cfg (cpath (Tryd.f24.body.getD .skip) [1, 0, 1, 0, 0]) n (halterref25_Exec.l0_S a0 a1 (List.set x8 (Int.toNat x9) (0 : Int)) (IntKind.wrap .i64 (x9 + (1 : Int)))) (halterref25_Exec.l0_Q a0 a1 r))))) ∧ ((decide ((List.getD x8 (Int.toNat x9) (0 : Int)) > (1 : Int))) = false → (True ∧ (True ∧ (True) ∧ (((True) ∧ (True) ∧ True) ∧ TripN cfg (cpath (Tryd.f24.body.getD .skip) [1, 0, 1, 0, 0]) n (halterref25_Exec.l0_S a0 a1 x8 (IntKind.wrap .i64 (x9 + (1 : Int)))) (halterref25_Exec.l0_Q a0 a1 r))))))) ∧ ((decide (x9 < (32 : Int))) = false → (((True) ∧ (True) ∧ True) ∧ halterref25_Exec.l0_Q a0 a1 r (.exit 0) ⟨[.any, .v (.one (.ptr 0 ⟨0, 0, 0, 0⟩)), .v (.one (.ptr 1 ⟨0, 0, 0, 0⟩)), .any, .any, .any, .any, .any, .any, .any, .any, .any, .any, .any, .any, .any, .any], [.ex false [.c (.sc (.int .u32 a0)), .c (.sc (.int .u32 a1)), .row 32 (.int .u32) x8] 48, .ex false [.c (.sc (.int .u32 (0 : Int))), .c (.sc (.int .u32 (0 : Int))), .row 32 (.int .u32) (List.replicate 32 (0 : Int))] 48], 0⟩)))) (by kernel_rfl) ?_)
    refine ⟨trivial, ?_⟩
    refine ⟨fun b18 => ?_, fun b18 => ?_⟩
    · rw [if_pos (of_decide_eq_true b18)] at h
      obtain ⟨g23, h⟩ := of_guard h
      refine ⟨g23, ?_⟩
      obtain ⟨g22, h⟩ := of_guard h
      refine ⟨g22, ?_⟩
      refine ⟨trivial, ?_⟩
      refine ⟨fun b19 => ?_, fun b19 => ?_⟩
      · rw [if_pos (of_decide_eq_true b19)] at h
        refine ⟨trivial, ?_⟩
        obtain ⟨g21, h⟩ := of_guard h
        refine ⟨g21, ?_⟩
        obtain ⟨g20, h⟩ := of_guard h
        refine ⟨g20, ?_⟩
        refine ⟨trivial, ?_⟩
        refine ⟨trivial, ?_⟩
        exact ⟨⟨trivial, trivial, trivial⟩, ih (List.set x8 (Int.toNat x9) (0 : Int)) (IntKind.wrap .i64 (x9 + (1 : Int))) r h⟩
      · rw [if_neg (of_decide_eq_false b19)] at h
        refine ⟨trivial, ?_⟩
        refine ⟨trivial, ?_⟩
        refine ⟨trivial, ?_⟩
        exact ⟨⟨trivial, trivial, trivial⟩, ih x8 (IntKind.wrap .i64 (x9 + (1 : Int))) r h⟩
    · rw [if_neg (of_decide_eq_false b18)] at h
      obtain rfl := Option.some.inj h
      exact ⟨⟨trivial, trivial, trivial⟩, rfl, rfl⟩
def halterref25_Exec.f (a0 : Int) (a1 : Int) (a2 : (List Int)) : Option (Int × Int × (List Int)) :=
  (halterref25_Exec.l0 a0 a1 FUEL a2 (0 : Int)).bind fun t17 =>
  some (a0, a1, t17)
def halterref25_Exec.R (r : Int × Int × (List Int)) : Tm := .v (.agg [.c (.sc (.int .u32 r.1)), .c (.sc (.int .u32 r.2.1)), .row 32 (.int .u32) r.2.2])
theorem halterref25_Exec.fun_ {a0 : Int} {a1 : Int} {a2 : (List Int)} {r : Int × Int × (List Int)} (h : halterref25_Exec.f a0 a1 a2 = some r) : Fun cfg 24 [.agg [.c (.sc (.int .u32 a0)), .c (.sc (.int .u32 a1)), .row 32 (.int .u32) a2]] [] (halterref25_Exec.R r) [] := by
  unfold halterref25_Exec.f at h
  refine fun_of_run cfg_ok (f := 24) (fn := Tryd.f24) Tryd.func24 rfl (by kernel_rfl) (rs := [.cell 2 48]) rfl (nt := 17) rfl (l := fin) (k := (.adj [] (.adj [] (.adj [.keep [1, 2, 3]] (.sub ((List Int)) (fun _ => (.exit 0)) (fun t17 => ⟨[.any, .v (.one (.ptr 0 ⟨0, 0, 0, 0⟩)), .v (.one (.ptr 1 ⟨0, 0, 0, 0⟩)), .any, .any, .any, .any, .any, .any, .any, .any, .any, .any, .any, .any, .any, .any], [.ex false [.c (.sc (.int .u32 a0)), .c (.sc (.int .u32 a1)), .row 32 (.int .u32) t17] 48, .ex false [.c (.sc (.int .u32 (0 : Int))), .c (.sc (.int .u32 (0 : Int))), .row 32 (.int .u32) (List.replicate 32 (0 : Int))] 48], 0⟩) (fun t17 => (.adj [] (.adj [] (.adj [.drop 0] .nil))))))))) (to_goal (q := (True ∧ (True ∧ (((True) ∧ True) ∧ (∃ t17 : (List Int), Trip cfg (.loop (cpath (Tryd.f24.body.getD .skip) [1, 0, 1, 0, 0])) ⟨[.any, .v (.one (.ptr 0 ⟨0, 0, 0, 0⟩)), .v (.one (.ptr 1 ⟨0, 0, 0, 0⟩)), .v (.one (.sc (.int .i64 (0 : Int)))), .any, .any, .any, .any, .any, .any, .any, .any, .any, .any, .any, .any, .any], [.ex false [.c (.sc (.int .u32 a0)), .c (.sc (.int .u32 a1)), .row 32 (.int .u32) a2] 48, .ex false [.c (.sc (.int .u32 (0 : Int))), .c (.sc (.int .u32 (0 : Int))), .row 32 (.int .u32) (List.replicate 32 (0 : Int))] 48], 0⟩ (fun e s => e = (.exit 0) ∧ s = ⟨[.any, .v (.one (.ptr 0 ⟨0, 0, 0, 0⟩)), .v (.one (.ptr 1 ⟨0, 0, 0, 0⟩)), .any, .any, .any, .any, .any, .any, .any, .any, .any, .any, .any, .any, .any, .any], [.ex false [.c (.sc (.int .u32 a0)), .c (.sc (.int .u32 a1)), .row 32 (.int .u32) t17] 48, .ex false [.c (.sc (.int .u32 (0 : Int))), .c (.sc (.int .u32 (0 : Int))), .row 32 (.int .u32) (List.replicate 32 (0 : Int))] 48], 0⟩) ∧ (True ∧ (True) ∧ (True) ∧ (True ∧ (((True) ∧ True) ∧ ((True) ∧ True) ∧ (.v (.agg [.c (.sc (.int .u32 a0)), .c (.sc (.int .u32 a1)), .row 32 (.int .u32) t17]) : Tm) = halterref25_Exec.R r ∧ ([] : List Box) = [])))))))) (by kernel_rfl) ?_)
  refine ⟨trivial, ?_⟩
  refine ⟨trivial, ?_⟩
  obtain ⟨t17, ht17, h⟩ := of_bind h
  refine ⟨⟨trivial, trivial⟩, t17, Trip.loop FUEL (halterref25_Exec.l0_ok a0 a1 FUEL a2 (0 : Int) t17 ht17), ?_⟩
  refine ⟨trivial, ?_⟩
  refine ⟨trivial, ?_⟩
  refine ⟨trivial, ?_⟩
  refine ⟨trivial, ?_⟩
  obtain rfl := Option.some.inj h
  exact ⟨⟨trivial, trivial⟩, ⟨trivial, trivial⟩, rfl, rfl⟩
/-! math/bits.TrailingZeros32 -/
def math_bits_TrailingZeros32.f (a0 : Int) : Option Int :=
  if a0 = (0 : Int) then
    some (32 : Int)
  else
    if 0 ≤ (shr .u32 (IntKind.wrap .u32 ((bits .and .u32 a0 (IntKind.wrap .u32 (0 - a0))) * (125613361 : Int))) (27 : Int)) ∧ (shr .u32 (IntKind.wrap .u32 ((bits .and .u32 a0 (IntKind.wrap .u32 (0 - a0))) * (125613361 : Int))) (27 : Int)) < ((32 : Nat) : Int) then
      some (IntKind.wrap .i64 ((List.getD tab1 (Int.toNat (shr .u32 (IntKind.wrap .u32 ((bits .and .u32 a0 (IntKind.wrap .u32 (0 - a0))) * (125613361 : Int))) (27 : Int))) (0 : Int))))
    else none
def math_bits_TrailingZeros32.R (r : Int) : Tm := .v (.one (.sc (.int .i64 r)))
theorem math_bits_TrailingZeros32.fun_ {a0 : Int} {r : Int} (h : math_bits_TrailingZeros32.f a0 = some r) : Fun cfg 41 [.one (.sc (.int .u32 a0))] [] (math_bits_TrailingZeros32.R r) [] := by
  unfold math_bits_TrailingZeros32.f at h
  refine fun_of_run cfg_ok (f := 41) (fn := Tryd.f41) Tryd.func41 rfl (by kernel_rfl) (rs := [.tmp 2]) rfl (nt := 14) rfl (l := fin) (k := (.br (.adj [] (.adj [] (.adj [] .nil))) (.adj [] (.adj [] (.adj [] (.adj [] .nil)))))) (to_goal (q := (True) ∧ (((a0 == (0 : Int)) = true → (True ∧ (True ∧ ((True) ∧ (True) ∧ (.v (.one (.sc (.int .i64 (32 : Int)))) : Tm) = math_bits_TrailingZeros32.R r ∧ ([] : List Box) = [])))) ∧ ((a0 == (0 : Int)) = false → (True ∧ (True ∧ (True) ∧ (True) ∧ (0 ≤ (27 : Int)) ∧ (0 ≤ (shr .u32 (IntKind.wrap .u32 ((bits .and .u32 a0 (IntKind.wrap .u32 (0 - a0))) * (125613361 : Int))) (27 : Int)) ∧ (shr .u32 (IntKind.wrap .u32 ((bits .and .u32 a0 (IntKind.wrap .u32 (0 - a0))) * (125613361 : Int))) (27 : Int)) < ((32 : Nat) : Int)) ∧ (True) ∧ (True) ∧ (True ∧ ((True) ∧ (True) ∧ (.v (.one (.sc (.int .i64 (IntKind.wrap .i64 ((List.getD tab1 (Int.toNat (shr .u32 (IntKind.wrap .u32 ((bits .and .u32 a0 (IntKind.wrap .u32 (0 - a0))) * (125613361 : Int))) (27 : Int))) (0 : Int))))))) : Tm) = math_bits_TrailingZeros32.R r ∧ ([] : List Box) = []))))))) (by kernel_rfl) ?_)
  refine ⟨trivial, ?_⟩
  refine ⟨fun b1 => ?_, fun b1 => ?_⟩
  · rw [if_pos (beq_t b1)] at h
    refine ⟨trivial, ?_⟩
    refine ⟨trivial, ?_⟩
    obtain rfl := Option.some.inj h
    exact ⟨trivial, trivial, rfl, rfl⟩
  · rw [if_neg (beq_f b1)] at h
    refine ⟨trivial, ?_⟩
    refine ⟨trivial, ?_⟩
    refine ⟨trivial, ?_⟩
    refine ⟨trivial, ?_⟩
    refine ⟨(by decide), ?_⟩
    obtain ⟨g2, h⟩ := of_guard h
    refine ⟨g2, ?_⟩
    refine ⟨trivial, ?_⟩
    refine ⟨trivial, ?_⟩
    refine ⟨trivial, ?_⟩
    obtain rfl := Option.some.inj h
    exact ⟨trivial, trivial, rfl, rfl⟩
/-! halter/sigset.First -/
def sigset_First.f (a0 : Int) : Option Int :=
  if (bits .and .u32 a0 (2147483647 : Int)) = (0 : Int) then
    some (0 : Int)
  else
    (math_bits_TrailingZeros32.f a0).bind fun t2 =>
    some (IntKind.wrap .i64 (t2 + (1 : Int)))
def sigset_First.R (r : Int) : Tm := .v (.one (.sc (.int .i64 r)))
theorem sigset_First.fun_ {a0 : Int} {r : Int} (h : sigset_First.f a0 = some r) : Fun cfg 31 [.one (.sc (.int .u32 a0))] [] (sigset_First.R r) [] := by
  unfold sigset_First.f at h
  refine fun_of_run cfg_ok (f := 31) (fn := Tryd.f31) Tryd.func31 rfl (by kernel_rfl) (rs := [.tmp 2]) rfl (nt := 9) rfl (l := fin) (k := (.br (.adj [] (.adj [] (.adj [] .nil))) (.call true [] (Int) (fun t2 => math_bits_TrailingZeros32.R t2) (fun t2 => (.adj [] (.adj [] .nil)))))) (to_goal (q := (True) ∧ (True) ∧ ((((bits .and .u32 a0 (2147483647 : Int)) == (0 : Int)) = true → (True ∧ (True ∧ ((True) ∧ (True) ∧ (.v (.one (.sc (.int .i64 (0 : Int)))) : Tm) = sigset_First.R r ∧ ([] : List Box) = [])))) ∧ (((bits .and .u32 a0 (2147483647 : Int)) == (0 : Int)) = false → (∃ t2 : Int, (Fun cfg 41 [.one (.sc (.int .u32 a0))] [] (math_bits_TrailingZeros32.R t2) [] ∧ True) ∧ (True) ∧ (True ∧ ((True) ∧ (True) ∧ (.v (.one (.sc (.int .i64 (IntKind.wrap .i64 (t2 + (1 : Int)))))) : Tm) = sigset_First.R r ∧ ([] : List Box) = [])))))) (by kernel_rfl) ?_)
  refine ⟨trivial, ?_⟩
  refine ⟨trivial, ?_⟩
  refine ⟨fun b1 => ?_, fun b1 => ?_⟩
  · rw [if_pos (beq_t b1)] at h
    refine ⟨trivial, ?_⟩
    refine ⟨trivial, ?_⟩
    obtain rfl := Option.some.inj h
    exact ⟨trivial, trivial, rfl, rfl⟩
  · rw [if_neg (beq_f b1)] at h
    obtain ⟨t2, ht2, h⟩ := of_bind h
    refine ⟨t2, ⟨math_bits_TrailingZeros32.fun_ ht2, trivial⟩, ?_⟩
    refine ⟨trivial, ?_⟩
    refine ⟨trivial, ?_⟩
    obtain rfl := Option.some.inj h
    exact ⟨trivial, trivial, rfl, rfl⟩
/-! halter/sig.Next -/
def sig_Next.l0 (a0 : Int) (a1 : Int) (a2 : (List Int)) : Nat → Int → Option ((Unit) ⊕ (Int))
  | 0, _ => none
  | n + 1, x1 =>
    if x1 < (2 : Int) then
      if 0 ≤ x1 ∧ x1 < ((2 : Nat) : Int) then
        (sigset_Has.f a0 (List.getD [(9 : Int), (19 : Int)] (Int.toNat x1) (0 : Int))).bind fun t9 =>
        if t9 = true then
          some (.inr (List.getD [(9 : Int), (19 : Int)] (Int.toNat x1) (0 : Int)))
        else
          sig_Next.l0 a0 a1 a2 n (IntKind.wrap .i64 (x1 + (1 : Int)))
      else none
    else
      some (.inl ())
def sig_Next.l0_S (a0 : Int) (a1 : Int) (a2 : (List Int)) (x1 : Int) : St := ⟨[.any, .v (.one (.ptr 0 ⟨0, 0, 0, 0⟩)), .any, .any, .any, .v (.agg [.row 2 (.int .i64) [(9 : Int), (19 : Int)]]), .v (.one (.sc (.int .i64 x1))), .any, .any, .any, .any, .any, .any, .any, .any, .any, .any, .any, .any, .any, .any], [.ex false [.c (.sc (.int .u32 a0)), .c (.sc (.int .u32 a1)), .row 32 (.int .u32) a2] 27], 0⟩
def sig_Next.l0_Q (a0 : Int) (a1 : Int) (a2 : (List Int)) : (Unit) ⊕ (Int) → Exit → St → Prop
  | .inl t => fun e s => e = (.exit 0) ∧ s = ⟨[.any, .v (.one (.ptr 0 ⟨0, 0, 0, 0⟩)), .any, .any, .any, .any, .any, .any, .any, .any, .any, .any, .any, .any, .any, .any, .any, .any, .any, .any, .any], [.ex false [.c (.sc (.int .u32 a0)), .c (.sc (.int .u32 a1)), .row 32 (.int .u32) a2] 27], 0⟩
  | .inr t => fun e s => e = .ret ∧ s = ⟨[.any, .any, .v (.one (.sc (.int .i64 t))), .any, .any, .any, .any, .any, .any, .any, .any, .any, .any, .any, .any, .any, .any, .any, .any, .any, .any], [.ex false [.c (.sc (.int .u32 a0)), .c (.sc (.int .u32 a1)), .row 32 (.int .u32) a2] 27], 0⟩
theorem sig_Next.l0_ok (a0 : Int) (a1 : Int) (a2 : (List Int)) : ∀ (n : Nat) (x1 : Int) (r : (Unit) ⊕ (Int)), sig_Next.l0 a0 a1 a2 n x1 = some r → TripN cfg (cpath (Tryd.f9.body.getD .skip) [1, 0, 1, 0, 0]) n (sig_Next.l0_S a0 a1 a2 x1) (sig_Next.l0_Q a0 a1 a2 r) := by
  intro n
  induction n with
  | zero => intro x1 r h; cases h
  | succ n ih =>
    intro x1 r h
    rw [sig_Next.l0] at h
    refine TripN.of_run cfg_ok (k := (.br (.call true [] (Bool) (fun t9 => sigset_Has.R t9) (fun t9 => (.br (.adj [] (.adj [.keep [2], .drop 1] .nil)) (.adj [] (.adj [] (.adj [.keep [1, 5, 6], .drop 1] .nil)))))) (.adj [.keep [1], .drop 1] .nil))) (to_goal (q := (True) ∧ (((decide (x1 < (2 : Int))) = true → (0 ≤ x1 ∧ x1 < ((2 : Nat) : Int)) ∧ (True) ∧ (∃ t9 : Bool, (Fun cfg 11 [.one (.sc (.int .u32 a0)), .one (.sc (.int .i64 (List.getD [(9 : Int), (19 : Int)] (Int.toNat x1) (0 : Int))))] [] (sigset_Has.R t9) [] ∧ True) ∧ ((t9 = true → (True ∧ (((True) ∧ (True) ∧ True) ∧ sig_Next.l0_Q a0 a1 a2 r .ret ⟨[.any, .any, .v (.one (.sc (.int .i64 (List.getD [(9 : Int), (19 : Int)] (Int.toNat x1) (0 : Int))))), .any, .any, .any, .any, .any, .any, .any, .any, .any, .any, .any, .any, .any, .any, .any, .any, .any, .any], [.ex false [.c (.sc (.int .u32 a0)), .c (.sc (.int .u32 a1)), .row 32 (.int .u32) a2] 27], 0⟩))) ∧ (t9 = false → (True ∧ (True ∧ (True) ∧ (((True) ∧ (True) ∧ True) ∧ TripN cfg (cpath (Tryd.f9.body.getD .skip) [1, 0, 1, 0, 0]) n (sig_Next.l0_S a0 a1 a2 (IntKind.wrap .i64 (x1 + (1 : Int)))) (sig_Next.l0_Q a0 a1 a2 r)))))))) ∧ ((decide (x1 < (2 : Int))) = false → (((True) ∧ (True) ∧ True) ∧ sig_Next.l0_Q a0 a1 a2 r (.exit 0) ⟨[.any, .v (.one (.ptr 0 ⟨0, 0, 0, 0⟩)), .any, .any, .any, .any, .any, .any, .any, .any, .any, .any, .any, .any, .any, .any, .any, .any, .any, .any, .any], [.ex false [.c (.sc (.int .u32 a0)), .c (.sc (.int .u32 a1)), .row 32 (.int .u32) a2] 27], 0⟩)))) (by kernel_rfl) ?_)
    refine ⟨trivial, ?_⟩
    refine ⟨fun b8 => ?_, fun b8 => ?_⟩
    · rw [if_pos (of_decide_eq_true b8)] at h
      obtain ⟨g11, h⟩ := of_guard h
      refine ⟨g11, ?_⟩
      refine ⟨trivial, ?_⟩
      obtain ⟨t9, ht9, h⟩ := of_bind h
      refine ⟨t9, ⟨sigset_Has.fun_ ht9, trivial⟩, ?_⟩
      refine ⟨fun b10 => ?_, fun b10 => ?_⟩
      · rw [if_pos b10] at h
        refine ⟨trivial, ?_⟩
        obtain rfl := Option.some.inj h
        exact ⟨⟨trivial, trivial, trivial⟩, rfl, rfl⟩
      · rw [if_neg (ff b10)] at h
        refine ⟨trivial, ?_⟩
        refine ⟨trivial, ?_⟩
        refine ⟨trivial, ?_⟩
        exact ⟨⟨trivial, trivial, trivial⟩, ih (IntKind.wrap .i64 (x1 + (1 : Int))) r h⟩
    · rw [if_neg (of_decide_eq_false b8)] at h
      obtain rfl := Option.some.inj h
      exact ⟨⟨trivial, trivial, trivial⟩, rfl, rfl⟩
def sig_Next.f (a0 : Int) (a1 : Int) (a2 : (List Int)) : Option Int :=
  (sig_Next.l0 a0 a1 a2 FUEL (0 : Int)).bind fun t7 =>
  match t7 with
  | .inl t13 =>
    (sigset_First.f (bits .andNot .u32 a0 a1)).bind fun t14 =>
    some t14
  | .inr t15 =>
    some t15
def sig_Next.R (r : Int) : Tm := .v (.one (.sc (.int .i64 r)))
theorem sig_Next.fun_ {a0 : Int} {a1 : Int} {a2 : (List Int)} {r : Int} (h : sig_Next.f a0 a1 a2 = some r) : Fun cfg 9 [.agg [.c (.sc (.int .u32 a0)), .c (.sc (.int .u32 a1)), .row 32 (.int .u32) a2]] [] (sig_Next.R r) [] := by
  unfold sig_Next.f at h
  refine fun_of_run cfg_ok (f := 9) (fn := Tryd.f9) Tryd.func9 rfl (by kernel_rfl) (rs := [.tmp 2]) rfl (nt := 21) rfl (l := fin) (k := (.adj [] (.adj [] (.adj [.keep [1, 5, 6]] (.alt (.sub (Unit) (fun _ => (.exit 0)) (fun t13 => ⟨[.any, .v (.one (.ptr 0 ⟨0, 0, 0, 0⟩)), .any, .any, .any, .any, .any, .any, .any, .any, .any, .any, .any, .any, .any, .any, .any, .any, .any, .any, .any], [.ex false [.c (.sc (.int .u32 a0)), .c (.sc (.int .u32 a1)), .row 32 (.int .u32) a2] 27], 0⟩) (fun t13 => (.call true [] (Int) (fun t14 => sigset_First.R t14) (fun t14 => (.adj [] (.adj [.drop 0] .nil)))))) (.sub (Int) (fun _ => .ret) (fun t15 => ⟨[.any, .any, .v (.one (.sc (.int .i64 t15))), .any, .any, .any, .any, .any, .any, .any, .any, .any, .any, .any, .any, .any, .any, .any, .any, .any, .any], [.ex false [.c (.sc (.int .u32 a0)), .c (.sc (.int .u32 a1)), .row 32 (.int .u32) a2] 27], 0⟩) (fun t15 => (.adj [.drop 0] .nil)))))))) (to_goal (q := (True ∧ (True ∧ (((True) ∧ True) ∧ ((∃ t13 : Unit, Trip cfg (.loop (cpath (Tryd.f9.body.getD .skip) [1, 0, 1, 0, 0])) ⟨[.any, .v (.one (.ptr 0 ⟨0, 0, 0, 0⟩)), .any, .any, .any, .v (.agg [.row 2 (.int .i64) [(9 : Int), (19 : Int)]]), .v (.one (.sc (.int .i64 (0 : Int)))), .any, .any, .any, .any, .any, .any, .any, .any, .any, .any, .any, .any, .any, .any], [.ex false [.c (.sc (.int .u32 a0)), .c (.sc (.int .u32 a1)), .row 32 (.int .u32) a2] 27], 0⟩ (fun e s => e = (.exit 0) ∧ s = ⟨[.any, .v (.one (.ptr 0 ⟨0, 0, 0, 0⟩)), .any, .any, .any, .any, .any, .any, .any, .any, .any, .any, .any, .any, .any, .any, .any, .any, .any, .any, .any], [.ex false [.c (.sc (.int .u32 a0)), .c (.sc (.int .u32 a1)), .row 32 (.int .u32) a2] 27], 0⟩) ∧ (True) ∧ (True) ∧ (True) ∧ (∃ t14 : Int, (Fun cfg 31 [.one (.sc (.int .u32 (bits .andNot .u32 a0 a1)))] [] (sigset_First.R t14) [] ∧ True) ∧ (True ∧ ((True) ∧ ((True) ∧ True) ∧ (.v (.one (.sc (.int .i64 t14))) : Tm) = sig_Next.R r ∧ ([] : List Box) = [])))) ∨ (∃ t15 : Int, Trip cfg (.loop (cpath (Tryd.f9.body.getD .skip) [1, 0, 1, 0, 0])) ⟨[.any, .v (.one (.ptr 0 ⟨0, 0, 0, 0⟩)), .any, .any, .any, .v (.agg [.row 2 (.int .i64) [(9 : Int), (19 : Int)]]), .v (.one (.sc (.int .i64 (0 : Int)))), .any, .any, .any, .any, .any, .any, .any, .any, .any, .any, .any, .any, .any, .any], [.ex false [.c (.sc (.int .u32 a0)), .c (.sc (.int .u32 a1)), .row 32 (.int .u32) a2] 27], 0⟩ (fun e s => e = .ret ∧ s = ⟨[.any, .any, .v (.one (.sc (.int .i64 t15))), .any, .any, .any, .any, .any, .any, .any, .any, .any, .any, .any, .any, .any, .any, .any, .any, .any, .any], [.ex false [.c (.sc (.int .u32 a0)), .c (.sc (.int .u32 a1)), .row 32 (.int .u32) a2] 27], 0⟩) ∧ ((True) ∧ ((True) ∧ True) ∧ (.v (.one (.sc (.int .i64 t15))) : Tm) = sig_Next.R r ∧ ([] : List Box) = []))))))) (by kernel_rfl) ?_)
  refine ⟨trivial, ?_⟩
  refine ⟨trivial, ?_⟩
  obtain ⟨t7, ht7, h⟩ := of_bind h
  refine ⟨⟨trivial, trivial⟩, ?_⟩
  rcases t7 with t13 | t15
  · dsimp only at h
    left
    refine ⟨t13, Trip.loop FUEL (sig_Next.l0_ok a0 a1 a2 FUEL (0 : Int) (.inl t13) ht7), ?_⟩
    refine ⟨trivial, ?_⟩
    refine ⟨trivial, ?_⟩
    refine ⟨trivial, ?_⟩
    obtain ⟨t14, ht14, h⟩ := of_bind h
    refine ⟨t14, ⟨sigset_First.fun_ ht14, trivial⟩, ?_⟩
    refine ⟨trivial, ?_⟩
    obtain rfl := Option.some.inj h
    exact ⟨trivial, ⟨trivial, trivial⟩, rfl, rfl⟩
  · dsimp only at h
    right
    refine ⟨t15, Trip.loop FUEL (sig_Next.l0_ok a0 a1 a2 FUEL (0 : Int) (.inr t15) ht7), ?_⟩
    obtain rfl := Option.some.inj h
    exact ⟨trivial, ⟨trivial, trivial⟩, rfl, rfl⟩
/-! halter/halterref25.Next -/
def halterref25_Next.l0 (a0 : Int) (a1 : Int) (a2 : (List Int)) : Nat → Int → Option ((Unit) ⊕ (Int))
  | 0, _ => none
  | n + 1, x5 =>
    if x5 ≤ (31 : Int) then
      (halterref03_Has.f a0 x5).bind fun t14 =>
      if t14 = true then
        (halterref03_Has.f a1 x5).bind fun t16 =>
        if ¬ (t16 = true) then
          some (.inr x5)
        else
          halterref25_Next.l0 a0 a1 a2 n (IntKind.wrap .i64 (x5 + (1 : Int)))
      else
        halterref25_Next.l0 a0 a1 a2 n (IntKind.wrap .i64 (x5 + (1 : Int)))
    else
      some (.inl ())
def halterref25_Next.l0_S (a0 : Int) (a1 : Int) (a2 : (List Int)) (x5 : Int) : St := ⟨[.any, .v (.one (.ptr 0 ⟨0, 0, 0, 0⟩)), .any, .v (.one (.sc (.int .i64 x5))), .any, .any, .any, .any, .any, .any, .any, .any, .any, .any, .any, .any, .any, .any, .any, .any, .any, .any, .any, .any, .any, .any], [.ex false [.c (.sc (.int .u32 a0)), .c (.sc (.int .u32 a1)), .row 32 (.int .u32) a2] 48], 0⟩
def halterref25_Next.l0_Q (a0 : Int) (a1 : Int) (a2 : (List Int)) : (Unit) ⊕ (Int) → Exit → St → Prop
  | .inl t => fun e s => e = (.exit 0) ∧ s = ⟨[.any, .any, .any, .any, .any, .any, .any, .any, .any, .any, .any, .any, .any, .any, .any, .any, .any, .any, .any, .any, .any, .any, .any, .any, .any, .any], [.ex false [.c (.sc (.int .u32 a0)), .c (.sc (.int .u32 a1)), .row 32 (.int .u32) a2] 48], 0⟩
  | .inr t => fun e s => e = .ret ∧ s = ⟨[.any, .any, .v (.one (.sc (.int .i64 t))), .any, .any, .any, .any, .any, .any, .any, .any, .any, .any, .any, .any, .any, .any, .any, .any, .any, .any, .any, .any, .any, .any, .any], [.ex false [.c (.sc (.int .u32 a0)), .c (.sc (.int .u32 a1)), .row 32 (.int .u32) a2] 48], 0⟩
theorem halterref25_Next.l0_ok (a0 : Int) (a1 : Int) (a2 : (List Int)) : ∀ (n : Nat) (x5 : Int) (r : (Unit) ⊕ (Int)), halterref25_Next.l0 a0 a1 a2 n x5 = some r → TripN cfg (cpath (Tryd.f25.body.getD .skip) [1, 1, 1, 0, 1, 0, 0]) n (halterref25_Next.l0_S a0 a1 a2 x5) (halterref25_Next.l0_Q a0 a1 a2 r) := by
  intro n
  induction n with
  | zero => intro x5 r h; cases h
  | succ n ih =>
    intro x5 r h
    rw [halterref25_Next.l0] at h
    refine TripN.of_run cfg_ok (k := (.br (.call true [] (Bool) (fun t14 => halterref03_Has.R t14) (fun t14 => (.br (.one true (.one true (.one true (.call true [] (Bool) (fun t16 => halterref03_Has.R t16) (fun t16 => (.one true (.one true (.br (.adj [] (.adj [.keep [2], .drop 1] .nil)) (.adj [] (.adj [] (.adj [.keep [1, 3], .drop 1] .nil))))))))))) (.one false (.one false (.one false (.one false (.one false (.one false (.adj [] (.adj [] (.adj [.keep [1, 3], .drop 1] .nil)))))))))))) (.adj [.keep [], .drop 1] .nil))) (to_goal (q := (True) ∧ (((decide (x5 ≤ (31 : Int))) = true → (True) ∧ (∃ t14 : Bool, (Fun cfg 36 [.one (.sc (.int .u32 a0)), .one (.sc (.int .i64 x5))] [] (halterref03_Has.R t14) [] ∧ True) ∧ ((t14 = true → (t14 = true ∧ (True) ∧ (t14 = true ∧ (t14 = true ∧ (∃ t16 : Bool, (Fun cfg 36 [.one (.sc (.int .u32 a1)), .one (.sc (.int .i64 x5))] [] (halterref03_Has.R t16) [] ∧ True) ∧ (t14 = true ∧ (t14 = true ∧ (((!t16) = true → (True ∧ (((True) ∧ (True) ∧ True) ∧ halterref25_Next.l0_Q a0 a1 a2 r .ret ⟨[.any, .any, .v (.one (.sc (.int .i64 x5))), .any, .any, .any, .any, .any, .any, .any, .any, .any, .any, .any, .any, .any, .any, .any, .any, .any, .any, .any, .any, .any, .any, .any], [.ex false [.c (.sc (.int .u32 a0)), .c (.sc (.int .u32 a1)), .row 32 (.int .u32) a2] 48], 0⟩))) ∧ ((!t16) = false → (True ∧ (True ∧ (True) ∧ (((True) ∧ (True) ∧ True) ∧ TripN cfg (cpath (Tryd.f25.body.getD .skip) [1, 1, 1, 0, 1, 0, 0]) n (halterref25_Next.l0_S a0 a1 a2 (IntKind.wrap .i64 (x5 + (1 : Int)))) (halterref25_Next.l0_Q a0 a1 a2 r))))))))))))) ∧ (t14 = false → (t14 = false ∧ (t14 = false ∧ (t14 = false ∧ (t14 = false ∧ (t14 = false ∧ (false = false ∧ (True ∧ (True ∧ (True) ∧ (((True) ∧ (True) ∧ True) ∧ TripN cfg (cpath (Tryd.f25.body.getD .skip) [1, 1, 1, 0, 1, 0, 0]) n (halterref25_Next.l0_S a0 a1 a2 (IntKind.wrap .i64 (x5 + (1 : Int)))) (halterref25_Next.l0_Q a0 a1 a2 r)))))))))))))) ∧ ((decide (x5 ≤ (31 : Int))) = false → (((True) ∧ (True) ∧ True) ∧ halterref25_Next.l0_Q a0 a1 a2 r (.exit 0) ⟨[.any, .any, .any, .any, .any, .any, .any, .any, .any, .any, .any, .any, .any, .any, .any, .any, .any, .any, .any, .any, .any, .any, .any, .any, .any, .any], [.ex false [.c (.sc (.int .u32 a0)), .c (.sc (.int .u32 a1)), .row 32 (.int .u32) a2] 48], 0⟩)))) (by kernel_rfl) ?_)
    refine ⟨trivial, ?_⟩
    refine ⟨fun b13 => ?_, fun b13 => ?_⟩
    · rw [if_pos (of_decide_eq_true b13)] at h
      refine ⟨trivial, ?_⟩
      obtain ⟨t14, ht14, h⟩ := of_bind h
      refine ⟨t14, ⟨halterref03_Has.fun_ ht14, trivial⟩, ?_⟩
      refine ⟨fun b15 => ?_, fun b15 => ?_⟩
      · rw [if_pos b15] at h
        refine ⟨b15, ?_⟩
        refine ⟨trivial, ?_⟩
        refine ⟨b15, ?_⟩
        refine ⟨b15, ?_⟩
        obtain ⟨t16, ht16, h⟩ := of_bind h
        refine ⟨t16, ⟨halterref03_Has.fun_ ht16, trivial⟩, ?_⟩
        refine ⟨b15, ?_⟩
        refine ⟨b15, ?_⟩
        refine ⟨fun b17 => ?_, fun b17 => ?_⟩
        · rw [if_pos (ff (not_t b17))] at h
          refine ⟨trivial, ?_⟩
          obtain rfl := Option.some.inj h
          exact ⟨⟨trivial, trivial, trivial⟩, rfl, rfl⟩
        · rw [if_neg (not_not_intro (not_f b17))] at h
          refine ⟨trivial, ?_⟩
          refine ⟨trivial, ?_⟩
          refine ⟨trivial, ?_⟩
          exact ⟨⟨trivial, trivial, trivial⟩, ih (IntKind.wrap .i64 (x5 + (1 : Int))) r h⟩
      · rw [if_neg (ff b15)] at h
        refine ⟨b15, ?_⟩
        refine ⟨b15, ?_⟩
        refine ⟨b15, ?_⟩
        refine ⟨b15, ?_⟩
        refine ⟨b15, ?_⟩
        refine ⟨rfl, ?_⟩
        refine ⟨trivial, ?_⟩
        refine ⟨trivial, ?_⟩
        refine ⟨trivial, ?_⟩
        exact ⟨⟨trivial, trivial, trivial⟩, ih (IntKind.wrap .i64 (x5 + (1 : Int))) r h⟩
    · rw [if_neg (of_decide_eq_false b13)] at h
      obtain rfl := Option.some.inj h
      exact ⟨⟨trivial, trivial, trivial⟩, rfl, rfl⟩
def halterref25_Next.f (a0 : Int) (a1 : Int) (a2 : (List Int)) : Option Int :=
  (halterref03_Has.f a0 (9 : Int)).bind fun t1 =>
  if t1 = true then
    some (9 : Int)
  else
    (halterref03_Has.f a0 (19 : Int)).bind fun t3 =>
    if t3 = true then
      some (19 : Int)
    else
      (halterref25_Next.l0 a0 a1 a2 FUEL (1 : Int)).bind fun t12 =>
      match t12 with
      | .inl t19 =>
        some (0 : Int)
      | .inr t20 =>
        some t20
def halterref25_Next.R (r : Int) : Tm := .v (.one (.sc (.int .i64 r)))
end Go.Proofs.YtmpdijmcoboiiaaDoorGSigSteps
