/- Printed by gen.py: what functions of the program compute, in plain Lean, and that they do. -/
import Derived.Test.YtmpdijmcoboiiaaDoorE15
import Derived.Test.YtmpdijmcoboiiaaDoorN
set_option linter.unusedVariables false
set_option maxRecDepth 100000
set_option maxHeartbeats 4000000
namespace Go.Proofs.YtmpdijmcoboiiaaDoorGSigOrder
open Go Go.Proofs.YtmpdijmcoboiiaaDoorE
def tiL : List (Nat × TI) := [
  (3, ⟨1, 8, false, .int .i64, [.c (.sc (.int .i64 (0 : Int)))], some (.int .i64)⟩),
  (4, ⟨1, 1, false, .bool, [.c (.sc (.bool false))], some .bool⟩),
  (5, ⟨1, 1, false, .int .u8, [.c (.sc (.int .u8 (0 : Int)))], some (.int .u8)⟩),
  (22, ⟨1, 24, false, (.slice 3), [.c (.sc (.slice none 0 0))], some (.sl (.int .i64))⟩),
  (23, ⟨1, 4, false, .int .u32, [.c (.sc (.int .u32 (0 : Int)))], some (.int .u32)⟩),
  (24, ⟨1, 4, false, .int .u32, [.c (.sc (.int .u32 (0 : Int)))], some (.int .u32)⟩),
  (25, ⟨32, 128, true, (.array 32 23), [.row 32 (.int .u32) (List.replicate 32 (0 : Int))], some (.arr 32 (.int .u32))⟩),
  (27, ⟨34, 136, true, (.struct [(0, 24), (1, 24), (2, 25)]), [.c (.sc (.int .u32 (0 : Int))), .c (.sc (.int .u32 (0 : Int))), .row 32 (.int .u32) (List.replicate 32 (0 : Int))], some (.pair (.int .u32) (.pair (.int .u32) (.arr 32 (.int .u32))))⟩),
  (29, ⟨1, 16, false, .iface, [.c (.err none)], none⟩),
  (34, ⟨1, 8, false, .int .u64, [.c (.sc (.int .u64 (0 : Int)))], some (.int .u64)⟩),
  (49, ⟨2, 16, true, (.array 2 3), [.row 2 (.int .i64) (List.replicate 2 (0 : Int))], some (.arr 2 (.int .i64))⟩),
  (62, ⟨1, 8, false, .int .i64, [.c (.sc (.int .i64 (0 : Int)))], some (.int .i64)⟩),
  (85, ⟨32, 32, true, (.array 32 5), [.row 32 (.int .u8) (List.replicate 32 (0 : Int))], some (.arr 32 (.int .u8))⟩)]
def tab1 : List Int := [0, 1, 28, 2, 29, 14, 24, 3, 30, 22, 20, 15, 25, 17, 4, 8, 31, 27, 13, 23, 21, 19, 16, 7, 26, 12, 18, 6, 11, 5, 10, 9]
def tabs : List (Nat × IntKind × List Int) := [(1, .u8, tab1)]
noncomputable def cfg : Cfg := ⟨Tryd.prog, 62, [(⟨0, 0, none⟩, .iface 87 (.agg #[.pointer (some ⟨2, 29, none⟩)]))] ++ tabs.flatMap tabG, tiL, [], tabs⟩
theorem cfg_ok : COk cfg := by
  refine ⟨fun p hp => ?_, by kernel_rfl, fun p hp => ?_, fun t ht => ?_, fun x hx y hy => List.mem_append_right _ (List.mem_flatMap.2 ⟨x, hx, hy⟩)⟩
  · simp only [cfg, tiL, List.mem_cons, List.not_mem_nil, or_false] at hp
    rcases hp with rfl | rfl | rfl | rfl | rfl | rfl | rfl | rfl | rfl | rfl | rfl | rfl | rfl <;> exact ⟨by kernel_rfl, by kernel_rfl, by kernel_rfl, by kernel_rfl, by kernel_rfl, by kernel_rfl⟩
  · simp only [cfg, tiL, List.mem_cons, List.not_mem_nil, or_false] at hp
    rcases hp with rfl | rfl | rfl | rfl | rfl | rfl | rfl | rfl | rfl | rfl | rfl | rfl | rfl <;> intro fs hfs bl hbl
    · cases hfs
    · cases hfs
    · cases hfs
    · cases hfs
    · cases hfs
    · cases hfs
    · cases hfs
    · cases hfs
      have e : fieldsZ cfg.L 0 [(0, 24), (1, 24), (2, 25)] = some [[.c (.sc (.int .u32 (0 : Int)))], [.c (.sc (.int .u32 (0 : Int)))], [.row 32 (.int .u32) (List.replicate 32 (0 : Int))]] := by kernel_rfl
      rw [e] at hbl
      cases hbl
      exact (by kernel_rfl : encPs (List.flatten [[.c (.sc (.int .u32 (0 : Int)))], [.c (.sc (.int .u32 (0 : Int)))], [.row 32 (.int .u32) (List.replicate 32 (0 : Int))]]) = encPs [.c (.sc (.int .u32 (0 : Int))), .c (.sc (.int .u32 (0 : Int))), .row 32 (.int .u32) (List.replicate 32 (0 : Int))])
    · cases hfs
    · cases hfs
    · cases hfs
    · cases hfs
    · cases hfs
  · cases ht
def fin : Scr → List Adj
  | .adj l _ => l
  | _ => []
/-! the error's number -/
def num.f (a0 : Option Int) : Option Int := some (a0.getD 0)
def num.R (r : Int) : Tm := .v (.one (.sc (.int .i64 r)))
theorem num.fun_ {a0 : Option Int} {r : Int} (h : num.f a0 = some r) : Fun cfg 22 [.one (.err a0)] [] (num.R r) [] := by
  refine Fun.of_below (f := 22) (fn := Tryd.f22) Tryd.func22 rfl (by kernel_rfl) (r := .int .i64 r) (fun X => ⟨⟨rfl, rfl⟩, rfl⟩) fun X vs hE hvs hG => ?_
  obtain ⟨v, us, rfl, hv, rfl⟩ := hvs
  have hv : v = errV X.E a0 := hv.1
  have he : errV cfg.E a0 = YtmpdijmcoboiiaaDoorN.errW a0 := by cases a0 <;> rfl
  rw [hv, hE, he]
  exact YtmpdijmcoboiiaaDoorN.num.calls a0 r X.w (hG _ (List.mem_append_left _ (List.mem_cons_self ..))) h
/-! halter/sig.Check -/
def sig_Check.f (a0 : Int) (a1 : Int) (a2 : (List Int)) : Option (Option Int) :=
  if ¬ (bits .and .u32 a1 (262400 : Int)) = (0 : Int) then
    some (some (22 : Int))
  else
    if ¬ (List.getD a2 0 (0 : Int)) = (0 : Int) then
      some (some (22 : Int))
    else
      if ¬ (List.getD a2 9 (0 : Int)) = (0 : Int) then
        some (some (22 : Int))
      else
        if ¬ (List.getD a2 19 (0 : Int)) = (0 : Int) then
          some (some (22 : Int))
        else
          if a0 > (2147483647 : Int) then
            some (some (22 : Int))
          else
            if a1 > (2147483647 : Int) then
              some (some (22 : Int))
            else
              some none
def sig_Check.R (r : (Option Int)) : Tm := .v (.one (.err r))
theorem sig_Check.fun_ {a0 : Int} {a1 : Int} {a2 : (List Int)} {r : (Option Int)} (h : sig_Check.f a0 a1 a2 = some r) : Fun cfg 14 [.agg [.c (.sc (.int .u32 a0)), .c (.sc (.int .u32 a1)), .row 32 (.int .u32) a2]] [] (sig_Check.R r) [] := by
  unfold sig_Check.f at h
  refine fun_of_run cfg_ok (f := 14) (fn := Tryd.f14) Tryd.func14 rfl (by kernel_rfl) (rs := [.tmp 2]) rfl (nt := 36) rfl (l := fin) (k := (.br (.one true (.one true (.one true (.one true (.one true (.one true (.one true (.one true (.one true (.one true (.one true (.one true (.one true (.one true (.one true (.one true (.one true (.one true (.one true (.one true (.one true (.one true (.one true (.adj [] (.adj [] (.adj [.drop 0] .nil)))))))))))))))))))))))))) (.one false (.one false (.one false (.one false (.br (.one true (.one true (.one true (.one true (.one true (.one true (.one true (.one true (.one true (.one true (.one true (.one true (.one true (.one true (.one true (.one true (.one true (.one true (.adj [] (.adj [] (.adj [.drop 0] .nil))))))))))))))))))))) (.one false (.one false (.one false (.one false (.br (.one true (.one true (.one true (.one true (.one true (.one true (.one true (.one true (.one true (.one true (.one true (.one true (.one true (.adj [] (.adj [] (.adj [.drop 0] .nil)))))))))))))))) (.one false (.one false (.one false (.one false (.br (.one true (.one true (.one true (.one true (.one true (.one true (.one true (.one true (.adj [] (.adj [] (.adj [.drop 0] .nil))))))))))) (.one false (.one false (.one false (.br (.one true (.one true (.one true (.one true (.adj [] (.adj [] (.adj [.drop 0] .nil))))))) (.one false (.one false (.one false (.br (.adj [] (.adj [] (.adj [.drop 0] .nil))) (.adj [] (.adj [] (.adj [] (.adj [.drop 0] .nil))))))))))))))))))))))))))))) (to_goal (q := (True) ∧ (True) ∧ (True) ∧ ((((bits .and .u32 a1 (262400 : Int)) != (0 : Int)) = false → (((bits .and .u32 a1 (262400 : Int)) != (0 : Int)) = false ∧ (0 ≤ (0 : Int) ∧ (0 : Int) < ((32 : Nat) : Int)) ∧ (((bits .and .u32 a1 (262400 : Int)) != (0 : Int)) = false ∧ (0 < 32) ∧ (((bits .and .u32 a1 (262400 : Int)) != (0 : Int)) = false ∧ (True) ∧ (((bits .and .u32 a1 (262400 : Int)) != (0 : Int)) = false ∧ ((((List.getD a2 0 (0 : Int)) != (0 : Int)) = false → (((List.getD a2 0 (0 : Int)) != (0 : Int)) = false ∧ (0 ≤ (9 : Int) ∧ (9 : Int) < ((32 : Nat) : Int)) ∧ (((List.getD a2 0 (0 : Int)) != (0 : Int)) = false ∧ (9 < 32) ∧ (((List.getD a2 0 (0 : Int)) != (0 : Int)) = false ∧ (True) ∧ (((List.getD a2 0 (0 : Int)) != (0 : Int)) = false ∧ ((((List.getD a2 9 (0 : Int)) != (0 : Int)) = false → (((List.getD a2 9 (0 : Int)) != (0 : Int)) = false ∧ (0 ≤ (19 : Int) ∧ (19 : Int) < ((32 : Nat) : Int)) ∧ (((List.getD a2 9 (0 : Int)) != (0 : Int)) = false ∧ (19 < 32) ∧ (((List.getD a2 9 (0 : Int)) != (0 : Int)) = false ∧ (True) ∧ (((List.getD a2 9 (0 : Int)) != (0 : Int)) = false ∧ ((((List.getD a2 19 (0 : Int)) != (0 : Int)) = false → (((List.getD a2 19 (0 : Int)) != (0 : Int)) = false ∧ (True) ∧ (((List.getD a2 19 (0 : Int)) != (0 : Int)) = false ∧ (True) ∧ (((List.getD a2 19 (0 : Int)) != (0 : Int)) = false ∧ (((decide (a0 > (2147483647 : Int))) = false → ((decide (a0 > (2147483647 : Int))) = false ∧ (True) ∧ ((decide (a0 > (2147483647 : Int))) = false ∧ (True) ∧ ((decide (a0 > (2147483647 : Int))) = false ∧ (((decide (a1 > (2147483647 : Int))) = true → (True ∧ (True ∧ ((True) ∧ ((True) ∧ True) ∧ (.v (.one (.err (some (22 : Int)))) : Tm) = sig_Check.R r ∧ ([] : List Box) = [])))) ∧ ((decide (a1 > (2147483647 : Int))) = false → (True ∧ (True ∧ (True ∧ ((True) ∧ ((True) ∧ True) ∧ (.v (.one (.err none)) : Tm) = sig_Check.R r ∧ ([] : List Box) = [])))))))))) ∧ ((decide (a0 > (2147483647 : Int))) = true → ((decide (a0 > (2147483647 : Int))) = true ∧ ((decide (a0 > (2147483647 : Int))) = true ∧ ((decide (a0 > (2147483647 : Int))) = true ∧ (true = true ∧ (True ∧ (True ∧ ((True) ∧ ((True) ∧ True) ∧ (.v (.one (.err (some (22 : Int)))) : Tm) = sig_Check.R r ∧ ([] : List Box) = []))))))))))))) ∧ (((List.getD a2 19 (0 : Int)) != (0 : Int)) = true → (((List.getD a2 19 (0 : Int)) != (0 : Int)) = true ∧ (((List.getD a2 19 (0 : Int)) != (0 : Int)) = true ∧ (((List.getD a2 19 (0 : Int)) != (0 : Int)) = true ∧ (true = true ∧ (true = true ∧ (true = true ∧ (true = true ∧ (true = true ∧ (True ∧ (True ∧ ((True) ∧ ((True) ∧ True) ∧ (.v (.one (.err (some (22 : Int)))) : Tm) = sig_Check.R r ∧ ([] : List Box) = [])))))))))))))))))) ∧ (((List.getD a2 9 (0 : Int)) != (0 : Int)) = true → (((List.getD a2 9 (0 : Int)) != (0 : Int)) = true ∧ (((List.getD a2 9 (0 : Int)) != (0 : Int)) = true ∧ (((List.getD a2 9 (0 : Int)) != (0 : Int)) = true ∧ (((List.getD a2 9 (0 : Int)) != (0 : Int)) = true ∧ (true = true ∧ (true = true ∧ (true = true ∧ (true = true ∧ (true = true ∧ (true = true ∧ (true = true ∧ (true = true ∧ (true = true ∧ (True ∧ (True ∧ ((True) ∧ ((True) ∧ True) ∧ (.v (.one (.err (some (22 : Int)))) : Tm) = sig_Check.R r ∧ ([] : List Box) = []))))))))))))))))))))))) ∧ (((List.getD a2 0 (0 : Int)) != (0 : Int)) = true → (((List.getD a2 0 (0 : Int)) != (0 : Int)) = true ∧ (((List.getD a2 0 (0 : Int)) != (0 : Int)) = true ∧ (((List.getD a2 0 (0 : Int)) != (0 : Int)) = true ∧ (((List.getD a2 0 (0 : Int)) != (0 : Int)) = true ∧ (true = true ∧ (true = true ∧ (true = true ∧ (true = true ∧ (true = true ∧ (true = true ∧ (true = true ∧ (true = true ∧ (true = true ∧ (true = true ∧ (true = true ∧ (true = true ∧ (true = true ∧ (true = true ∧ (True ∧ (True ∧ ((True) ∧ ((True) ∧ True) ∧ (.v (.one (.err (some (22 : Int)))) : Tm) = sig_Check.R r ∧ ([] : List Box) = [])))))))))))))))))))))))))))) ∧ (((bits .and .u32 a1 (262400 : Int)) != (0 : Int)) = true → (((bits .and .u32 a1 (262400 : Int)) != (0 : Int)) = true ∧ (((bits .and .u32 a1 (262400 : Int)) != (0 : Int)) = true ∧ (((bits .and .u32 a1 (262400 : Int)) != (0 : Int)) = true ∧ (((bits .and .u32 a1 (262400 : Int)) != (0 : Int)) = true ∧ (true = true ∧ (true = true ∧ (true = true ∧ (true = true ∧ (true = true ∧ (true = true ∧ (true = true ∧ (true = true ∧ (true = true ∧ (true = true ∧ (true = true ∧ (true = true ∧ (true = true ∧ (true = true ∧ (true = true ∧ (true = true ∧ (true = true ∧ (true = true ∧ (true = true ∧ (True ∧ (True ∧ ((True) ∧ ((True) ∧ True) ∧ (.v (.one (.err (some (22 : Int)))) : Tm) = sig_Check.R r ∧ ([] : List Box) = []))))))))))))))))))))))))))))) (by kernel_rfl) ?_)
  refine ⟨trivial, ?_⟩
  refine ⟨trivial, ?_⟩
  refine ⟨trivial, ?_⟩
  refine ⟨fun b1 => ?_, fun b1 => ?_⟩
  · rw [if_neg (not_not_intro (bne_f b1))] at h
    refine ⟨b1, ?_⟩
    refine ⟨(by decide), ?_⟩
    refine ⟨b1, ?_⟩
    refine ⟨(by decide), ?_⟩
    refine ⟨b1, ?_⟩
    refine ⟨trivial, ?_⟩
    refine ⟨b1, ?_⟩
    refine ⟨fun b2 => ?_, fun b2 => ?_⟩
    · rw [if_neg (not_not_intro (bne_f b2))] at h
      refine ⟨b2, ?_⟩
      refine ⟨(by decide), ?_⟩
      refine ⟨b2, ?_⟩
      refine ⟨(by decide), ?_⟩
      refine ⟨b2, ?_⟩
      refine ⟨trivial, ?_⟩
      refine ⟨b2, ?_⟩
      refine ⟨fun b3 => ?_, fun b3 => ?_⟩
      · rw [if_neg (not_not_intro (bne_f b3))] at h
        refine ⟨b3, ?_⟩
        refine ⟨(by decide), ?_⟩
        refine ⟨b3, ?_⟩
        refine ⟨(by decide), ?_⟩
        refine ⟨b3, ?_⟩
        refine ⟨trivial, ?_⟩
        refine ⟨b3, ?_⟩
        refine ⟨fun b4 => ?_, fun b4 => ?_⟩
        · rw [if_neg (not_not_intro (bne_f b4))] at h
          refine ⟨b4, ?_⟩
          refine ⟨trivial, ?_⟩
          refine ⟨b4, ?_⟩
          refine ⟨trivial, ?_⟩
          refine ⟨b4, ?_⟩
          refine ⟨fun b5 => ?_, fun b5 => ?_⟩
          · rw [if_neg (of_decide_eq_false b5)] at h
            refine ⟨b5, ?_⟩
            refine ⟨trivial, ?_⟩
            refine ⟨b5, ?_⟩
            refine ⟨trivial, ?_⟩
            refine ⟨b5, ?_⟩
            refine ⟨fun b6 => ?_, fun b6 => ?_⟩
            · rw [if_pos (of_decide_eq_true b6)] at h
              refine ⟨trivial, ?_⟩
              refine ⟨trivial, ?_⟩
              obtain rfl := Option.some.inj h
              exact ⟨trivial, ⟨trivial, trivial⟩, rfl, rfl⟩
            · rw [if_neg (of_decide_eq_false b6)] at h
              refine ⟨trivial, ?_⟩
              refine ⟨trivial, ?_⟩
              refine ⟨trivial, ?_⟩
              obtain rfl := Option.some.inj h
              exact ⟨trivial, ⟨trivial, trivial⟩, rfl, rfl⟩
          · rw [if_pos (of_decide_eq_true b5)] at h
            refine ⟨b5, ?_⟩
            refine ⟨b5, ?_⟩
            refine ⟨b5, ?_⟩
            refine ⟨rfl, ?_⟩
            refine ⟨trivial, ?_⟩
            refine ⟨trivial, ?_⟩
            obtain rfl := Option.some.inj h
            exact ⟨trivial, ⟨trivial, trivial⟩, rfl, rfl⟩
        · rw [if_pos (bne_t b4)] at h
          refine ⟨b4, ?_⟩
          refine ⟨b4, ?_⟩
          refine ⟨b4, ?_⟩
          refine ⟨rfl, ?_⟩
          refine ⟨rfl, ?_⟩
          refine ⟨rfl, ?_⟩
          refine ⟨rfl, ?_⟩
          refine ⟨rfl, ?_⟩
          refine ⟨trivial, ?_⟩
          refine ⟨trivial, ?_⟩
          obtain rfl := Option.some.inj h
          exact ⟨trivial, ⟨trivial, trivial⟩, rfl, rfl⟩
      · rw [if_pos (bne_t b3)] at h
        refine ⟨b3, ?_⟩
        refine ⟨b3, ?_⟩
        refine ⟨b3, ?_⟩
        refine ⟨b3, ?_⟩
        refine ⟨rfl, ?_⟩
        refine ⟨rfl, ?_⟩
        refine ⟨rfl, ?_⟩
        refine ⟨rfl, ?_⟩
        refine ⟨rfl, ?_⟩
        refine ⟨rfl, ?_⟩
        refine ⟨rfl, ?_⟩
        refine ⟨rfl, ?_⟩
        refine ⟨rfl, ?_⟩
        refine ⟨trivial, ?_⟩
        refine ⟨trivial, ?_⟩
        obtain rfl := Option.some.inj h
        exact ⟨trivial, ⟨trivial, trivial⟩, rfl, rfl⟩
    · rw [if_pos (bne_t b2)] at h
      refine ⟨b2, ?_⟩
      refine ⟨b2, ?_⟩
      refine ⟨b2, ?_⟩
      refine ⟨b2, ?_⟩
      refine ⟨rfl, ?_⟩
      refine ⟨rfl, ?_⟩
      refine ⟨rfl, ?_⟩
      refine ⟨rfl, ?_⟩
      refine ⟨rfl, ?_⟩
      refine ⟨rfl, ?_⟩
      refine ⟨rfl, ?_⟩
      refine ⟨rfl, ?_⟩
      refine ⟨rfl, ?_⟩
      refine ⟨rfl, ?_⟩
      refine ⟨rfl, ?_⟩
      refine ⟨rfl, ?_⟩
      refine ⟨rfl, ?_⟩
      refine ⟨rfl, ?_⟩
      refine ⟨trivial, ?_⟩
      refine ⟨trivial, ?_⟩
      obtain rfl := Option.some.inj h
      exact ⟨trivial, ⟨trivial, trivial⟩, rfl, rfl⟩
  · rw [if_pos (bne_t b1)] at h
    refine ⟨b1, ?_⟩
    refine ⟨b1, ?_⟩
    refine ⟨b1, ?_⟩
    refine ⟨b1, ?_⟩
    refine ⟨rfl, ?_⟩
    refine ⟨rfl, ?_⟩
    refine ⟨rfl, ?_⟩
    refine ⟨rfl, ?_⟩
    refine ⟨rfl, ?_⟩
    refine ⟨rfl, ?_⟩
    refine ⟨rfl, ?_⟩
    refine ⟨rfl, ?_⟩
    refine ⟨rfl, ?_⟩
    refine ⟨rfl, ?_⟩
    refine ⟨rfl, ?_⟩
    refine ⟨rfl, ?_⟩
    refine ⟨rfl, ?_⟩
    refine ⟨rfl, ?_⟩
    refine ⟨rfl, ?_⟩
    refine ⟨rfl, ?_⟩
    refine ⟨rfl, ?_⟩
    refine ⟨rfl, ?_⟩
    refine ⟨rfl, ?_⟩
    refine ⟨trivial, ?_⟩
    refine ⟨trivial, ?_⟩
    obtain rfl := Option.some.inj h
    exact ⟨trivial, ⟨trivial, trivial⟩, rfl, rfl⟩
/-! halter/sig.Mask -/
def sig_Mask.f (a0 : Int) (a1 : Int) (a2 : (List Int)) (a3 : Int) (a4 : Int) : Option (Int × Int × (List Int) × (Option Int)) :=
  (sig_Check.f a0 a1 a2).bind fun t1 =>
  if ¬ (t1 = none) then
    some ((0 : Int), (0 : Int), (List.replicate 32 (0 : Int)), (some (22 : Int)))
  else
    if a3 = (0 : Int) then
      some (a0, (bits .andNot .u32 (bits .or .u32 a1 (bits .and .u32 a4 (2147483647 : Int))) (262400 : Int)), a2, none)
    else
      if a3 = (1 : Int) then
        some (a0, (bits .andNot .u32 (bits .andNot .u32 a1 (bits .and .u32 a4 (2147483647 : Int))) (262400 : Int)), a2, none)
      else
        if a3 = (2 : Int) then
          some (a0, (bits .andNot .u32 (bits .and .u32 a4 (2147483647 : Int)) (262400 : Int)), a2, none)
        else
          some ((0 : Int), (0 : Int), (List.replicate 32 (0 : Int)), (some (22 : Int)))
def sig_Mask.R (r : Int × Int × (List Int) × (Option Int)) : Tm := .tup [.agg [.c (.sc (.int .u32 r.1)), .c (.sc (.int .u32 r.2.1)), .row 32 (.int .u32) r.2.2.1], .one (.err r.2.2.2)]
theorem sig_Mask.fun_ {a0 : Int} {a1 : Int} {a2 : (List Int)} {a3 : Int} {a4 : Int} {r : Int × Int × (List Int) × (Option Int)} (h : sig_Mask.f a0 a1 a2 a3 a4 = some r) : Fun cfg 6 [.agg [.c (.sc (.int .u32 a0)), .c (.sc (.int .u32 a1)), .row 32 (.int .u32) a2], .one (.sc (.int .i64 a3)), .one (.sc (.int .u32 a4))] [] (sig_Mask.R r) [] := by
  unfold sig_Mask.f at h
  refine fun_of_run cfg_ok (f := 6) (fn := Tryd.f6) Tryd.func6 rfl (by kernel_rfl) (rs := [.cell 6 27, .tmp 7]) rfl (nt := 41) rfl (l := fin) (k := (.call true [] ((Option Int)) (fun t1 => sig_Check.R t1) (fun t1 => (.br (.adj [] (.adj [] (.adj [.drop 0] .nil))) (.br (.adj [] (.adj [] (.adj [] (.adj [] (.adj [.drop 0] .nil))))) (.br (.adj [] (.adj [] (.adj [] (.adj [] (.adj [.drop 0] .nil))))) (.br (.adj [] (.adj [] (.adj [] (.adj [] (.adj [.drop 0] .nil))))) (.adj [] (.adj [] (.adj [.drop 0] .nil)))))))))) (to_goal (q := (True) ∧ (∃ t1 : (Option Int), (Fun cfg 14 [.agg [.c (.sc (.int .u32 a0)), .c (.sc (.int .u32 a1)), .row 32 (.int .u32) a2]] [] (sig_Check.R t1) [] ∧ True) ∧ (True) ∧ (((!(Option.isNone t1)) = true → (True ∧ (True) ∧ (True ∧ (((True) ∧ True) ∧ ((True) ∧ True) ∧ (.tup [.agg [.c (.sc (.int .u32 (0 : Int))), .c (.sc (.int .u32 (0 : Int))), .row 32 (.int .u32) (List.replicate 32 (0 : Int))], .one (.err (some (22 : Int)))] : Tm) = sig_Mask.R r ∧ ([] : List Box) = [])))) ∧ ((!(Option.isNone t1)) = false → (True) ∧ (True) ∧ (((a3 == (0 : Int)) = true → (True ∧ (True) ∧ (True) ∧ (True) ∧ (True ∧ (True) ∧ (True) ∧ (True) ∧ (True ∧ (True) ∧ (True) ∧ (True ∧ (((True) ∧ True) ∧ ((True) ∧ True) ∧ (.tup [.agg [.c (.sc (.int .u32 a0)), .c (.sc (.int .u32 (bits .andNot .u32 (bits .or .u32 a1 (bits .and .u32 a4 (2147483647 : Int))) (262400 : Int)))), .row 32 (.int .u32) a2], .one (.err none)] : Tm) = sig_Mask.R r ∧ ([] : List Box) = [])))))) ∧ ((a3 == (0 : Int)) = false → (True) ∧ (((a3 == (1 : Int)) = true → (True ∧ (True) ∧ (True) ∧ (True) ∧ (True ∧ (True) ∧ (True) ∧ (True) ∧ (True ∧ (True) ∧ (True) ∧ (True ∧ (((True) ∧ True) ∧ ((True) ∧ True) ∧ (.tup [.agg [.c (.sc (.int .u32 a0)), .c (.sc (.int .u32 (bits .andNot .u32 (bits .andNot .u32 a1 (bits .and .u32 a4 (2147483647 : Int))) (262400 : Int)))), .row 32 (.int .u32) a2], .one (.err none)] : Tm) = sig_Mask.R r ∧ ([] : List Box) = [])))))) ∧ ((a3 == (1 : Int)) = false → (True) ∧ (((a3 == (2 : Int)) = true → (True ∧ (True) ∧ (True ∧ (True) ∧ (True) ∧ (True) ∧ (True ∧ (True) ∧ (True) ∧ (True ∧ (((True) ∧ True) ∧ ((True) ∧ True) ∧ (.tup [.agg [.c (.sc (.int .u32 a0)), .c (.sc (.int .u32 (bits .andNot .u32 (bits .and .u32 a4 (2147483647 : Int)) (262400 : Int)))), .row 32 (.int .u32) a2], .one (.err none)] : Tm) = sig_Mask.R r ∧ ([] : List Box) = [])))))) ∧ ((a3 == (2 : Int)) = false → (True ∧ (True) ∧ (True ∧ (((True) ∧ True) ∧ ((True) ∧ True) ∧ (.tup [.agg [.c (.sc (.int .u32 (0 : Int))), .c (.sc (.int .u32 (0 : Int))), .row 32 (.int .u32) (List.replicate 32 (0 : Int))], .one (.err (some (22 : Int)))] : Tm) = sig_Mask.R r ∧ ([] : List Box) = []))))))))))))) (by kernel_rfl) ?_)
  refine ⟨trivial, ?_⟩
  obtain ⟨t1, ht1, h⟩ := of_bind h
  refine ⟨t1, ⟨sig_Check.fun_ ht1, trivial⟩, ?_⟩
  refine ⟨trivial, ?_⟩
  refine ⟨fun b2 => ?_, fun b2 => ?_⟩
  · rw [if_pos (none_f (not_t b2))] at h
    refine ⟨trivial, ?_⟩
    refine ⟨trivial, ?_⟩
    refine ⟨trivial, ?_⟩
    obtain rfl := Option.some.inj h
    exact ⟨⟨trivial, trivial⟩, ⟨trivial, trivial⟩, rfl, rfl⟩
  · rw [if_neg (not_not_intro (none_t (not_f b2)))] at h
    refine ⟨trivial, ?_⟩
    refine ⟨trivial, ?_⟩
    refine ⟨fun b3 => ?_, fun b3 => ?_⟩
    · rw [if_pos (beq_t b3)] at h
      refine ⟨trivial, ?_⟩
      refine ⟨trivial, ?_⟩
      refine ⟨trivial, ?_⟩
      refine ⟨trivial, ?_⟩
      refine ⟨trivial, ?_⟩
      refine ⟨trivial, ?_⟩
      refine ⟨trivial, ?_⟩
      refine ⟨trivial, ?_⟩
      refine ⟨trivial, ?_⟩
      refine ⟨trivial, ?_⟩
      refine ⟨trivial, ?_⟩
      refine ⟨trivial, ?_⟩
      obtain rfl := Option.some.inj h
      exact ⟨⟨trivial, trivial⟩, ⟨trivial, trivial⟩, rfl, rfl⟩
    · rw [if_neg (beq_f b3)] at h
      refine ⟨trivial, ?_⟩
      refine ⟨fun b4 => ?_, fun b4 => ?_⟩
      · rw [if_pos (beq_t b4)] at h
        refine ⟨trivial, ?_⟩
        refine ⟨trivial, ?_⟩
        refine ⟨trivial, ?_⟩
        refine ⟨trivial, ?_⟩
        refine ⟨trivial, ?_⟩
        refine ⟨trivial, ?_⟩
        refine ⟨trivial, ?_⟩
        refine ⟨trivial, ?_⟩
        refine ⟨trivial, ?_⟩
        refine ⟨trivial, ?_⟩
        refine ⟨trivial, ?_⟩
        refine ⟨trivial, ?_⟩
        obtain rfl := Option.some.inj h
        exact ⟨⟨trivial, trivial⟩, ⟨trivial, trivial⟩, rfl, rfl⟩
      · rw [if_neg (beq_f b4)] at h
        refine ⟨trivial, ?_⟩
        refine ⟨fun b5 => ?_, fun b5 => ?_⟩
        · rw [if_pos (beq_t b5)] at h
          refine ⟨trivial, ?_⟩
          refine ⟨trivial, ?_⟩
          refine ⟨trivial, ?_⟩
          refine ⟨trivial, ?_⟩
          refine ⟨trivial, ?_⟩
          refine ⟨trivial, ?_⟩
          refine ⟨trivial, ?_⟩
          refine ⟨trivial, ?_⟩
          refine ⟨trivial, ?_⟩
          refine ⟨trivial, ?_⟩
          obtain rfl := Option.some.inj h
          exact ⟨⟨trivial, trivial⟩, ⟨trivial, trivial⟩, rfl, rfl⟩
        · rw [if_neg (beq_f b5)] at h
          refine ⟨trivial, ?_⟩
          refine ⟨trivial, ?_⟩
          refine ⟨trivial, ?_⟩
          obtain rfl := Option.some.inj h
          exact ⟨⟨trivial, trivial⟩, ⟨trivial, trivial⟩, rfl, rfl⟩
/-! halter/sig.signal -/
def sig_signal.f (a0 : Int) : Option Bool :=
  if a0 ≥ (1 : Int) then
    some (decide (a0 ≤ (31 : Int)))
  else
    some false
def sig_signal.R (r : Bool) : Tm := .v (.one (.sc (.bool r)))
theorem sig_signal.fun_ {a0 : Int} {r : Bool} (h : sig_signal.f a0 = some r) : Fun cfg 28 [.one (.sc (.int .i64 a0))] [] (sig_signal.R r) [] := by
  unfold sig_signal.f at h
  refine fun_of_run cfg_ok (f := 28) (fn := Tryd.f28) Tryd.func28 rfl (by kernel_rfl) (rs := [.tmp 2]) rfl (nt := 9) rfl (l := fin) (k := (.br (.one true (.one true (.adj [] (.adj [] .nil)))) (.one false (.one false (.adj [] (.adj [] .nil)))))) (to_goal (q := (True) ∧ (((decide (a0 ≥ (1 : Int))) = true → ((decide (a0 ≥ (1 : Int))) = true ∧ (True) ∧ ((decide (a0 ≥ (1 : Int))) = true ∧ (True ∧ ((True) ∧ (True) ∧ (.v (.one (.sc (.bool (decide (a0 ≤ (31 : Int)))))) : Tm) = sig_signal.R r ∧ ([] : List Box) = []))))) ∧ ((decide (a0 ≥ (1 : Int))) = false → ((decide (a0 ≥ (1 : Int))) = false ∧ ((decide (a0 ≥ (1 : Int))) = false ∧ (True ∧ ((True) ∧ (True) ∧ (.v (.one (.sc (.bool false))) : Tm) = sig_signal.R r ∧ ([] : List Box) = []))))))) (by kernel_rfl) ?_)
  refine ⟨trivial, ?_⟩
  refine ⟨fun b1 => ?_, fun b1 => ?_⟩
  · rw [if_pos (of_decide_eq_true b1)] at h
    refine ⟨b1, ?_⟩
    refine ⟨trivial, ?_⟩
    refine ⟨b1, ?_⟩
    refine ⟨trivial, ?_⟩
    obtain rfl := Option.some.inj h
    exact ⟨trivial, trivial, rfl, rfl⟩
  · rw [if_neg (of_decide_eq_false b1)] at h
    refine ⟨b1, ?_⟩
    refine ⟨b1, ?_⟩
    refine ⟨trivial, ?_⟩
    obtain rfl := Option.some.inj h
    exact ⟨trivial, trivial, rfl, rfl⟩
/-! halter/sigset.One -/
def sigset_One.f (a0 : Int) : Option Int :=
  if a0 < (1 : Int) then
    some (0 : Int)
  else
    if a0 > (31 : Int) then
      some (0 : Int)
    else
      if 0 ≤ (IntKind.wrap .i64 (a0 - (1 : Int))) then
        some (shl .u32 (1 : Int) (IntKind.wrap .i64 (a0 - (1 : Int))))
      else none
def sigset_One.R (r : Int) : Tm := .v (.one (.sc (.int .u32 r)))
theorem sigset_One.fun_ {a0 : Int} {r : Int} (h : sigset_One.f a0 = some r) : Fun cfg 33 [.one (.sc (.int .i64 a0))] [] (sigset_One.R r) [] := by
  unfold sigset_One.f at h
  refine fun_of_run cfg_ok (f := 33) (fn := Tryd.f33) Tryd.func33 rfl (by kernel_rfl) (rs := [.tmp 2]) rfl (nt := 12) rfl (l := fin) (k := (.br (.one true (.one true (.one true (.adj [] (.adj [] (.adj [] .nil)))))) (.one false (.one false (.br (.adj [] (.adj [] (.adj [] .nil))) (.adj [] (.adj [] (.adj [] (.adj [] .nil))))))))) (to_goal (q := (True) ∧ (((decide (a0 < (1 : Int))) = false → ((decide (a0 < (1 : Int))) = false ∧ (True) ∧ ((decide (a0 < (1 : Int))) = false ∧ (((decide (a0 > (31 : Int))) = true → (True ∧ (True ∧ ((True) ∧ (True) ∧ (.v (.one (.sc (.int .u32 (0 : Int)))) : Tm) = sigset_One.R r ∧ ([] : List Box) = [])))) ∧ ((decide (a0 > (31 : Int))) = false → (True ∧ (True ∧ (True) ∧ (0 ≤ (IntKind.wrap .i64 (a0 - (1 : Int)))) ∧ (True ∧ ((True) ∧ (True) ∧ (.v (.one (.sc (.int .u32 (shl .u32 (1 : Int) (IntKind.wrap .i64 (a0 - (1 : Int))))))) : Tm) = sigset_One.R r ∧ ([] : List Box) = []))))))))) ∧ ((decide (a0 < (1 : Int))) = true → ((decide (a0 < (1 : Int))) = true ∧ ((decide (a0 < (1 : Int))) = true ∧ (true = true ∧ (True ∧ (True ∧ ((True) ∧ (True) ∧ (.v (.one (.sc (.int .u32 (0 : Int)))) : Tm) = sigset_One.R r ∧ ([] : List Box) = []))))))))) (by kernel_rfl) ?_)
  refine ⟨trivial, ?_⟩
  refine ⟨fun b1 => ?_, fun b1 => ?_⟩
  · rw [if_neg (of_decide_eq_false b1)] at h
    refine ⟨b1, ?_⟩
    refine ⟨trivial, ?_⟩
    refine ⟨b1, ?_⟩
    refine ⟨fun b2 => ?_, fun b2 => ?_⟩
    · rw [if_pos (of_decide_eq_true b2)] at h
      refine ⟨trivial, ?_⟩
      refine ⟨trivial, ?_⟩
      obtain rfl := Option.some.inj h
      exact ⟨trivial, trivial, rfl, rfl⟩
    · rw [if_neg (of_decide_eq_false b2)] at h
      refine ⟨trivial, ?_⟩
      refine ⟨trivial, ?_⟩
      refine ⟨trivial, ?_⟩
      obtain ⟨g3, h⟩ := of_guard h
      refine ⟨g3, ?_⟩
      refine ⟨trivial, ?_⟩
      obtain rfl := Option.some.inj h
      exact ⟨trivial, trivial, rfl, rfl⟩
  · rw [if_pos (of_decide_eq_true b1)] at h
    refine ⟨b1, ?_⟩
    refine ⟨b1, ?_⟩
    refine ⟨rfl, ?_⟩
    refine ⟨trivial, ?_⟩
    refine ⟨trivial, ?_⟩
    obtain rfl := Option.some.inj h
    exact ⟨trivial, trivial, rfl, rfl⟩
/-! halter/sigset.Add -/
def sigset_Add.f (a0 : Int) (a1 : Int) : Option Int :=
  (sigset_One.f a1).bind fun t1 =>
  some (bits .or .u32 (bits .and .u32 a0 (2147483647 : Int)) t1)
def sigset_Add.R (r : Int) : Tm := .v (.one (.sc (.int .u32 r)))
theorem sigset_Add.fun_ {a0 : Int} {a1 : Int} {r : Int} (h : sigset_Add.f a0 a1 = some r) : Fun cfg 30 [.one (.sc (.int .u32 a0)), .one (.sc (.int .i64 a1))] [] (sigset_Add.R r) [] := by
  unfold sigset_Add.f at h
  refine fun_of_run cfg_ok (f := 30) (fn := Tryd.f30) Tryd.func30 rfl (by kernel_rfl) (rs := [.tmp 4]) rfl (nt := 10) rfl (l := fin) (k := (.call true [] (Int) (fun t1 => sigset_One.R t1) (fun t1 => (.adj [] (.adj [] .nil))))) (to_goal (q := (True) ∧ (∃ t1 : Int, (Fun cfg 33 [.one (.sc (.int .i64 a1))] [] (sigset_One.R t1) [] ∧ True) ∧ (True) ∧ (True ∧ ((True) ∧ (True) ∧ (.v (.one (.sc (.int .u32 (bits .or .u32 (bits .and .u32 a0 (2147483647 : Int)) t1)))) : Tm) = sigset_Add.R r ∧ ([] : List Box) = [])))) (by kernel_rfl) ?_)
  refine ⟨trivial, ?_⟩
  obtain ⟨t1, ht1, h⟩ := of_bind h
  refine ⟨t1, ⟨sigset_One.fun_ ht1, trivial⟩, ?_⟩
  refine ⟨trivial, ?_⟩
  refine ⟨trivial, ?_⟩
  obtain rfl := Option.some.inj h
  exact ⟨trivial, trivial, rfl, rfl⟩
/-! halter/sig.against -/
def sig_against.f (a0 : Int) : Option Int :=
  if a0 = (18 : Int) then
    (sigset_One.f (19 : Int)).bind fun t2 =>
    (sigset_Add.f t2 (20 : Int)).bind fun t3 =>
    some t3
  else
    if a0 = (19 : Int) then
      (sigset_One.f (18 : Int)).bind fun t5 =>
      some t5
    else
      if a0 = (20 : Int) then
        (sigset_One.f (18 : Int)).bind fun t7 =>
        some t7
      else
        some (0 : Int)
def sig_against.R (r : Int) : Tm := .v (.one (.sc (.int .u32 r)))
theorem sig_against.fun_ {a0 : Int} {r : Int} (h : sig_against.f a0 = some r) : Fun cfg 29 [.one (.sc (.int .i64 a0))] [] (sig_against.R r) [] := by
  unfold sig_against.f at h
  refine fun_of_run cfg_ok (f := 29) (fn := Tryd.f29) Tryd.func29 rfl (by kernel_rfl) (rs := [.tmp 2]) rfl (nt := 12) rfl (l := fin) (k := (.br (.call true [] (Int) (fun t2 => sigset_One.R t2) (fun t2 => (.call true [] (Int) (fun t3 => sigset_Add.R t3) (fun t3 => (.adj [] (.adj [] .nil)))))) (.br (.one true (.call true [] (Int) (fun t5 => sigset_One.R t5) (fun t5 => (.adj [] (.adj [] .nil))))) (.br (.call true [] (Int) (fun t7 => sigset_One.R t7) (fun t7 => (.adj [] (.adj [] .nil)))) (.adj [] (.adj [] (.adj [] (.adj [] .nil)))))))) (to_goal (q := (True) ∧ (((a0 == (18 : Int)) = true → (∃ t2 : Int, (Fun cfg 33 [.one (.sc (.int .i64 (19 : Int)))] [] (sigset_One.R t2) [] ∧ True) ∧ (∃ t3 : Int, (Fun cfg 30 [.one (.sc (.int .u32 t2)), .one (.sc (.int .i64 (20 : Int)))] [] (sigset_Add.R t3) [] ∧ True) ∧ (True ∧ ((True) ∧ (True) ∧ (.v (.one (.sc (.int .u32 t3))) : Tm) = sig_against.R r ∧ ([] : List Box) = []))))) ∧ ((a0 == (18 : Int)) = false → (True) ∧ (((a0 == (19 : Int)) = true → ((a0 == (19 : Int)) = true ∧ (∃ t5 : Int, (Fun cfg 33 [.one (.sc (.int .i64 (18 : Int)))] [] (sigset_One.R t5) [] ∧ True) ∧ (True ∧ ((True) ∧ (True) ∧ (.v (.one (.sc (.int .u32 t5))) : Tm) = sig_against.R r ∧ ([] : List Box) = []))))) ∧ ((a0 == (19 : Int)) = false → (True) ∧ (((a0 == (20 : Int)) = true → (∃ t7 : Int, (Fun cfg 33 [.one (.sc (.int .i64 (18 : Int)))] [] (sigset_One.R t7) [] ∧ True) ∧ (True ∧ ((True) ∧ (True) ∧ (.v (.one (.sc (.int .u32 t7))) : Tm) = sig_against.R r ∧ ([] : List Box) = [])))) ∧ ((a0 == (20 : Int)) = false → (True ∧ (True ∧ (True ∧ ((True) ∧ (True) ∧ (.v (.one (.sc (.int .u32 (0 : Int)))) : Tm) = sig_against.R r ∧ ([] : List Box) = []))))))))))) (by kernel_rfl) ?_)
  refine ⟨trivial, ?_⟩
  refine ⟨fun b1 => ?_, fun b1 => ?_⟩
  · rw [if_pos (beq_t b1)] at h
    obtain ⟨t2, ht2, h⟩ := of_bind h
    refine ⟨t2, ⟨sigset_One.fun_ ht2, trivial⟩, ?_⟩
    obtain ⟨t3, ht3, h⟩ := of_bind h
    refine ⟨t3, ⟨sigset_Add.fun_ ht3, trivial⟩, ?_⟩
    refine ⟨trivial, ?_⟩
    obtain rfl := Option.some.inj h
    exact ⟨trivial, trivial, rfl, rfl⟩
  · rw [if_neg (beq_f b1)] at h
    refine ⟨trivial, ?_⟩
    refine ⟨fun b4 => ?_, fun b4 => ?_⟩
    · rw [if_pos (beq_t b4)] at h
      refine ⟨b4, ?_⟩
      obtain ⟨t5, ht5, h⟩ := of_bind h
      refine ⟨t5, ⟨sigset_One.fun_ ht5, trivial⟩, ?_⟩
      refine ⟨trivial, ?_⟩
      obtain rfl := Option.some.inj h
      exact ⟨trivial, trivial, rfl, rfl⟩
    · rw [if_neg (beq_f b4)] at h
      refine ⟨trivial, ?_⟩
      refine ⟨fun b6 => ?_, fun b6 => ?_⟩
      · rw [if_pos (beq_t b6)] at h
        obtain ⟨t7, ht7, h⟩ := of_bind h
        refine ⟨t7, ⟨sigset_One.fun_ ht7, trivial⟩, ?_⟩
        refine ⟨trivial, ?_⟩
        obtain rfl := Option.some.inj h
        exact ⟨trivial, trivial, rfl, rfl⟩
      · rw [if_neg (beq_f b6)] at h
        refine ⟨trivial, ?_⟩
        refine ⟨trivial, ?_⟩
        refine ⟨trivial, ?_⟩
        obtain rfl := Option.some.inj h
        exact ⟨trivial, trivial, rfl, rfl⟩
/-! halter/sigset.Has -/
def sigset_Has.f (a0 : Int) (a1 : Int) : Option Bool :=
  (sigset_One.f a1).bind fun t1 =>
  some ((bits .and .u32 a0 t1) != (0 : Int))
def sigset_Has.R (r : Bool) : Tm := .v (.one (.sc (.bool r)))
theorem sigset_Has.fun_ {a0 : Int} {a1 : Int} {r : Bool} (h : sigset_Has.f a0 a1 = some r) : Fun cfg 11 [.one (.sc (.int .u32 a0)), .one (.sc (.int .i64 a1))] [] (sigset_Has.R r) [] := by
  unfold sigset_Has.f at h
  refine fun_of_run cfg_ok (f := 11) (fn := Tryd.f11) Tryd.func11 rfl (by kernel_rfl) (rs := [.tmp 4]) rfl (nt := 10) rfl (l := fin) (k := (.call true [] (Int) (fun t1 => sigset_One.R t1) (fun t1 => (.adj [] (.adj [] .nil))))) (to_goal (q := (∃ t1 : Int, (Fun cfg 33 [.one (.sc (.int .i64 a1))] [] (sigset_One.R t1) [] ∧ True) ∧ (True) ∧ (True) ∧ (True ∧ ((True) ∧ (True) ∧ (.v (.one (.sc (.bool ((bits .and .u32 a0 t1) != (0 : Int))))) : Tm) = sigset_Has.R r ∧ ([] : List Box) = [])))) (by kernel_rfl) ?_)
  obtain ⟨t1, ht1, h⟩ := of_bind h
  refine ⟨t1, ⟨sigset_One.fun_ ht1, trivial⟩, ?_⟩
  refine ⟨trivial, ?_⟩
  refine ⟨trivial, ?_⟩
  refine ⟨trivial, ?_⟩
  obtain rfl := Option.some.inj h
  exact ⟨trivial, trivial, rfl, rfl⟩
/-! halter/sig.plain -/
def sig_plain.f (a0 : Int) : Option Int :=
  if a0 = (17 : Int) then
    some (0 : Int)
  else
    if a0 = (18 : Int) then
      some (3 : Int)
    else
      if a0 = (19 : Int) then
        some (2 : Int)
      else
        if a0 = (20 : Int) then
          some (2 : Int)
        else
          some (1 : Int)
def sig_plain.R (r : Int) : Tm := .v (.one (.sc (.int .i64 r)))
theorem sig_plain.fun_ {a0 : Int} {r : Int} (h : sig_plain.f a0 = some r) : Fun cfg 34 [.one (.sc (.int .i64 a0))] [] (sig_plain.R r) [] := by
  unfold sig_plain.f at h
  refine fun_of_run cfg_ok (f := 34) (fn := Tryd.f34) Tryd.func34 rfl (by kernel_rfl) (rs := [.tmp 2]) rfl (nt := 11) rfl (l := fin) (k := (.br (.adj [] (.adj [] (.adj [] .nil))) (.br (.adj [] (.adj [] (.adj [] .nil))) (.br (.one true (.adj [] (.adj [] (.adj [] .nil)))) (.br (.adj [] (.adj [] (.adj [] .nil))) (.adj [] (.adj [] (.adj [] (.adj [] .nil))))))))) (to_goal (q := (True) ∧ (((a0 == (17 : Int)) = true → (True ∧ (True ∧ ((True) ∧ (True) ∧ (.v (.one (.sc (.int .i64 (0 : Int)))) : Tm) = sig_plain.R r ∧ ([] : List Box) = [])))) ∧ ((a0 == (17 : Int)) = false → (True) ∧ (((a0 == (18 : Int)) = true → (True ∧ (True ∧ ((True) ∧ (True) ∧ (.v (.one (.sc (.int .i64 (3 : Int)))) : Tm) = sig_plain.R r ∧ ([] : List Box) = [])))) ∧ ((a0 == (18 : Int)) = false → (True) ∧ (((a0 == (19 : Int)) = true → ((a0 == (19 : Int)) = true ∧ (True ∧ (True ∧ ((True) ∧ (True) ∧ (.v (.one (.sc (.int .i64 (2 : Int)))) : Tm) = sig_plain.R r ∧ ([] : List Box) = []))))) ∧ ((a0 == (19 : Int)) = false → (True) ∧ (((a0 == (20 : Int)) = true → (True ∧ (True ∧ ((True) ∧ (True) ∧ (.v (.one (.sc (.int .i64 (2 : Int)))) : Tm) = sig_plain.R r ∧ ([] : List Box) = [])))) ∧ ((a0 == (20 : Int)) = false → (True ∧ (True ∧ (True ∧ ((True) ∧ (True) ∧ (.v (.one (.sc (.int .i64 (1 : Int)))) : Tm) = sig_plain.R r ∧ ([] : List Box) = []))))))))))))) (by kernel_rfl) ?_)
  refine ⟨trivial, ?_⟩
  refine ⟨fun b1 => ?_, fun b1 => ?_⟩
  · rw [if_pos (beq_t b1)] at h
    refine ⟨trivial, ?_⟩
    refine ⟨trivial, ?_⟩
    obtain rfl := Option.some.inj h
    exact ⟨trivial, trivial, rfl, rfl⟩
  · rw [if_neg (beq_f b1)] at h
    refine ⟨trivial, ?_⟩
    refine ⟨fun b2 => ?_, fun b2 => ?_⟩
    · rw [if_pos (beq_t b2)] at h
      refine ⟨trivial, ?_⟩
      refine ⟨trivial, ?_⟩
      obtain rfl := Option.some.inj h
      exact ⟨trivial, trivial, rfl, rfl⟩
    · rw [if_neg (beq_f b2)] at h
      refine ⟨trivial, ?_⟩
      refine ⟨fun b3 => ?_, fun b3 => ?_⟩
      · rw [if_pos (beq_t b3)] at h
        refine ⟨b3, ?_⟩
        refine ⟨trivial, ?_⟩
        refine ⟨trivial, ?_⟩
        obtain rfl := Option.some.inj h
        exact ⟨trivial, trivial, rfl, rfl⟩
      · rw [if_neg (beq_f b3)] at h
        refine ⟨trivial, ?_⟩
        refine ⟨fun b4 => ?_, fun b4 => ?_⟩
        · rw [if_pos (beq_t b4)] at h
          refine ⟨trivial, ?_⟩
          refine ⟨trivial, ?_⟩
          obtain rfl := Option.some.inj h
          exact ⟨trivial, trivial, rfl, rfl⟩
        · rw [if_neg (beq_f b4)] at h
          refine ⟨trivial, ?_⟩
          refine ⟨trivial, ?_⟩
          refine ⟨trivial, ?_⟩
          obtain rfl := Option.some.inj h
          exact ⟨trivial, trivial, rfl, rfl⟩
/-! halter/sig.What -/
def sig_What.f (a0 : Int) (a1 : Int) (a2 : (List Int)) (a3 : Int) : Option Int :=
  (sig_signal.f a3).bind fun t1 =>
  if ¬ (t1 = true) then
    some (0 : Int)
  else
    if a3 = (9 : Int) then
      (sig_plain.f a3).bind fun t4 =>
      some t4
    else
      if a3 = (19 : Int) then
        (sig_plain.f a3).bind fun t6 =>
        some t6
      else
        if 0 ≤ a3 ∧ a3 < ((32 : Nat) : Int) then
          if (Int.toNat a3) < 32 then
            if (List.getD a2 (Int.toNat a3) (0 : Int)) = (0 : Int) then
              (sig_plain.f a3).bind fun t8 =>
              some t8
            else
              if 0 ≤ a3 ∧ a3 < ((32 : Nat) : Int) then
                if (Int.toNat a3) < 32 then
                  if (List.getD a2 (Int.toNat a3) (0 : Int)) > (1 : Int) then
                    some (4 : Int)
                  else
                    if a3 = (18 : Int) then
                      some (3 : Int)
                    else
                      some (0 : Int)
                else none
              else none
          else none
        else none
def sig_What.R (r : Int) : Tm := .v (.one (.sc (.int .i64 r)))
theorem sig_What.fun_ {a0 : Int} {a1 : Int} {a2 : (List Int)} {a3 : Int} {r : Int} (h : sig_What.f a0 a1 a2 a3 = some r) : Fun cfg 13 [.agg [.c (.sc (.int .u32 a0)), .c (.sc (.int .u32 a1)), .row 32 (.int .u32) a2], .one (.sc (.int .i64 a3))] [] (sig_What.R r) [] := by
  unfold sig_What.f at h
  refine fun_of_run cfg_ok (f := 13) (fn := Tryd.f13) Tryd.func13 rfl (by kernel_rfl) (rs := [.tmp 4]) rfl (nt := 34) rfl (l := fin) (k := (.call true [] (Bool) (fun t1 => sig_signal.R t1) (fun t1 => (.br (.adj [] (.adj [] (.adj [.drop 0] .nil))) (.br (.one true (.one true (.one true (.one true (.one true (.one true (.one true (.one true (.one true (.call true [] (Int) (fun t4 => sig_plain.R t4) (fun t4 => (.adj [] (.adj [.drop 0] .nil))))))))))))) (.one false (.one false (.br (.one true (.one true (.one true (.one true (.one true (.one true (.call true [] (Int) (fun t6 => sig_plain.R t6) (fun t6 => (.adj [] (.adj [.drop 0] .nil)))))))))) (.one false (.one false (.one false (.one false (.one false (.br (.call true [] (Int) (fun t8 => sig_plain.R t8) (fun t8 => (.adj [] (.adj [.drop 0] .nil)))) (.br (.adj [] (.adj [] (.adj [.drop 0] .nil))) (.br (.adj [] (.adj [] (.adj [.drop 0] .nil))) (.adj [] (.adj [] (.adj [] (.adj [.drop 0] .nil)))))))))))))))))))) (to_goal (q := (∃ t1 : Bool, (Fun cfg 28 [.one (.sc (.int .i64 a3))] [] (sig_signal.R t1) [] ∧ True) ∧ (((!t1) = true → (True ∧ (True ∧ ((True) ∧ ((True) ∧ True) ∧ (.v (.one (.sc (.int .i64 (0 : Int)))) : Tm) = sig_What.R r ∧ ([] : List Box) = [])))) ∧ ((!t1) = false → (True) ∧ (((a3 == (9 : Int)) = false → ((a3 == (9 : Int)) = false ∧ (True) ∧ ((a3 == (9 : Int)) = false ∧ (((a3 == (19 : Int)) = false → ((a3 == (19 : Int)) = false ∧ ((a3 == (19 : Int)) = false ∧ (0 ≤ a3 ∧ a3 < ((32 : Nat) : Int)) ∧ ((a3 == (19 : Int)) = false ∧ ((Int.toNat a3) < 32) ∧ ((a3 == (19 : Int)) = false ∧ (True) ∧ ((a3 == (19 : Int)) = false ∧ ((((List.getD a2 (Int.toNat a3) (0 : Int)) == (0 : Int)) = true → (∃ t8 : Int, (Fun cfg 34 [.one (.sc (.int .i64 a3))] [] (sig_plain.R t8) [] ∧ True) ∧ (True ∧ ((True) ∧ ((True) ∧ True) ∧ (.v (.one (.sc (.int .i64 t8))) : Tm) = sig_What.R r ∧ ([] : List Box) = [])))) ∧ (((List.getD a2 (Int.toNat a3) (0 : Int)) == (0 : Int)) = false → (0 ≤ a3 ∧ a3 < ((32 : Nat) : Int)) ∧ ((Int.toNat a3) < 32) ∧ (True) ∧ (((decide ((List.getD a2 (Int.toNat a3) (0 : Int)) > (1 : Int))) = true → (True ∧ (True ∧ ((True) ∧ ((True) ∧ True) ∧ (.v (.one (.sc (.int .i64 (4 : Int)))) : Tm) = sig_What.R r ∧ ([] : List Box) = [])))) ∧ ((decide ((List.getD a2 (Int.toNat a3) (0 : Int)) > (1 : Int))) = false → (True) ∧ (((a3 == (18 : Int)) = true → (True ∧ (True ∧ ((True) ∧ ((True) ∧ True) ∧ (.v (.one (.sc (.int .i64 (3 : Int)))) : Tm) = sig_What.R r ∧ ([] : List Box) = [])))) ∧ ((a3 == (18 : Int)) = false → (True ∧ (True ∧ (True ∧ ((True) ∧ ((True) ∧ True) ∧ (.v (.one (.sc (.int .i64 (0 : Int)))) : Tm) = sig_What.R r ∧ ([] : List Box) = [])))))))))))))))) ∧ ((a3 == (19 : Int)) = true → ((a3 == (19 : Int)) = true ∧ ((a3 == (19 : Int)) = true ∧ ((a3 == (19 : Int)) = true ∧ ((a3 == (19 : Int)) = true ∧ ((a3 == (19 : Int)) = true ∧ (true = true ∧ (∃ t6 : Int, (Fun cfg 34 [.one (.sc (.int .i64 a3))] [] (sig_plain.R t6) [] ∧ True) ∧ (True ∧ ((True) ∧ ((True) ∧ True) ∧ (.v (.one (.sc (.int .i64 t6))) : Tm) = sig_What.R r ∧ ([] : List Box) = [])))))))))))))) ∧ ((a3 == (9 : Int)) = true → ((a3 == (9 : Int)) = true ∧ ((a3 == (9 : Int)) = true ∧ (true = true ∧ (true = true ∧ (true = true ∧ (true = true ∧ (true = true ∧ (true = true ∧ (true = true ∧ (∃ t4 : Int, (Fun cfg 34 [.one (.sc (.int .i64 a3))] [] (sig_plain.R t4) [] ∧ True) ∧ (True ∧ ((True) ∧ ((True) ∧ True) ∧ (.v (.one (.sc (.int .i64 t4))) : Tm) = sig_What.R r ∧ ([] : List Box) = [])))))))))))))))))) (by kernel_rfl) ?_)
  obtain ⟨t1, ht1, h⟩ := of_bind h
  refine ⟨t1, ⟨sig_signal.fun_ ht1, trivial⟩, ?_⟩
  refine ⟨fun b2 => ?_, fun b2 => ?_⟩
  · rw [if_pos (ff (not_t b2))] at h
    refine ⟨trivial, ?_⟩
    refine ⟨trivial, ?_⟩
    obtain rfl := Option.some.inj h
    exact ⟨trivial, ⟨trivial, trivial⟩, rfl, rfl⟩
  · rw [if_neg (not_not_intro (not_f b2))] at h
    refine ⟨trivial, ?_⟩
    refine ⟨fun b3 => ?_, fun b3 => ?_⟩
    · rw [if_neg (beq_f b3)] at h
      refine ⟨b3, ?_⟩
      refine ⟨trivial, ?_⟩
      refine ⟨b3, ?_⟩
      refine ⟨fun b5 => ?_, fun b5 => ?_⟩
      · rw [if_neg (beq_f b5)] at h
        refine ⟨b5, ?_⟩
        refine ⟨b5, ?_⟩
        obtain ⟨g14, h⟩ := of_guard h
        refine ⟨g14, ?_⟩
        refine ⟨b5, ?_⟩
        obtain ⟨g13, h⟩ := of_guard h
        refine ⟨g13, ?_⟩
        refine ⟨b5, ?_⟩
        refine ⟨trivial, ?_⟩
        refine ⟨b5, ?_⟩
        refine ⟨fun b7 => ?_, fun b7 => ?_⟩
        · rw [if_pos (beq_t b7)] at h
          obtain ⟨t8, ht8, h⟩ := of_bind h
          refine ⟨t8, ⟨sig_plain.fun_ ht8, trivial⟩, ?_⟩
          refine ⟨trivial, ?_⟩
          obtain rfl := Option.some.inj h
          exact ⟨trivial, ⟨trivial, trivial⟩, rfl, rfl⟩
        · rw [if_neg (beq_f b7)] at h
          obtain ⟨g12, h⟩ := of_guard h
          refine ⟨g12, ?_⟩
          obtain ⟨g11, h⟩ := of_guard h
          refine ⟨g11, ?_⟩
          refine ⟨trivial, ?_⟩
          refine ⟨fun b9 => ?_, fun b9 => ?_⟩
          · rw [if_pos (of_decide_eq_true b9)] at h
            refine ⟨trivial, ?_⟩
            refine ⟨trivial, ?_⟩
            obtain rfl := Option.some.inj h
            exact ⟨trivial, ⟨trivial, trivial⟩, rfl, rfl⟩
          · rw [if_neg (of_decide_eq_false b9)] at h
            refine ⟨trivial, ?_⟩
            refine ⟨fun b10 => ?_, fun b10 => ?_⟩
            · rw [if_pos (beq_t b10)] at h
              refine ⟨trivial, ?_⟩
              refine ⟨trivial, ?_⟩
              obtain rfl := Option.some.inj h
              exact ⟨trivial, ⟨trivial, trivial⟩, rfl, rfl⟩
            · rw [if_neg (beq_f b10)] at h
              refine ⟨trivial, ?_⟩
              refine ⟨trivial, ?_⟩
              refine ⟨trivial, ?_⟩
              obtain rfl := Option.some.inj h
              exact ⟨trivial, ⟨trivial, trivial⟩, rfl, rfl⟩
      · rw [if_pos (beq_t b5)] at h
        refine ⟨b5, ?_⟩
        refine ⟨b5, ?_⟩
        refine ⟨b5, ?_⟩
        refine ⟨b5, ?_⟩
        refine ⟨b5, ?_⟩
        refine ⟨rfl, ?_⟩
        obtain ⟨t6, ht6, h⟩ := of_bind h
        refine ⟨t6, ⟨sig_plain.fun_ ht6, trivial⟩, ?_⟩
        refine ⟨trivial, ?_⟩
        obtain rfl := Option.some.inj h
        exact ⟨trivial, ⟨trivial, trivial⟩, rfl, rfl⟩
    · rw [if_pos (beq_t b3)] at h
      refine ⟨b3, ?_⟩
      refine ⟨b3, ?_⟩
      refine ⟨rfl, ?_⟩
      refine ⟨rfl, ?_⟩
      refine ⟨rfl, ?_⟩
      refine ⟨rfl, ?_⟩
      refine ⟨rfl, ?_⟩
      refine ⟨rfl, ?_⟩
      refine ⟨rfl, ?_⟩
      obtain ⟨t4, ht4, h⟩ := of_bind h
      refine ⟨t4, ⟨sig_plain.fun_ ht4, trivial⟩, ?_⟩
      refine ⟨trivial, ?_⟩
      obtain rfl := Option.some.inj h
      exact ⟨trivial, ⟨trivial, trivial⟩, rfl, rfl⟩
/-! halter/sig.Post -/
def sig_Post.f (a0 : Int) (a1 : Int) (a2 : (List Int)) (a3 : Int) : Option (Int × Int × (List Int) × (Option Int)) :=
  (sig_Check.f a0 a1 a2).bind fun t1 =>
  if ¬ (t1 = none) then
    some ((0 : Int), (0 : Int), (List.replicate 32 (0 : Int)), (some (22 : Int)))
  else
    (sig_signal.f a3).bind fun t3 =>
    if ¬ (t3 = true) then
      some ((0 : Int), (0 : Int), (List.replicate 32 (0 : Int)), (some (22 : Int)))
    else
      (sig_against.f a3).bind fun t5 =>
      (sigset_Has.f a1 a3).bind fun t6 =>
      if t6 = true then
        (sigset_Add.f (bits .andNot .u32 a0 t5) a3).bind fun t8 =>
        some (t8, a1, a2, none)
      else
        (sig_What.f (bits .andNot .u32 a0 t5) a1 a2 a3).bind fun t9 =>
        if ¬ t9 = (0 : Int) then
          (sigset_Add.f (bits .andNot .u32 a0 t5) a3).bind fun t11 =>
          some (t11, a1, a2, none)
        else
          some ((bits .andNot .u32 a0 t5), a1, a2, none)
def sig_Post.R (r : Int × Int × (List Int) × (Option Int)) : Tm := .tup [.agg [.c (.sc (.int .u32 r.1)), .c (.sc (.int .u32 r.2.1)), .row 32 (.int .u32) r.2.2.1], .one (.err r.2.2.2)]
theorem sig_Post.fun_ {a0 : Int} {a1 : Int} {a2 : (List Int)} {a3 : Int} {r : Int × Int × (List Int) × (Option Int)} (h : sig_Post.f a0 a1 a2 a3 = some r) : Fun cfg 8 [.agg [.c (.sc (.int .u32 a0)), .c (.sc (.int .u32 a1)), .row 32 (.int .u32) a2], .one (.sc (.int .i64 a3))] [] (sig_Post.R r) [] := by
  unfold sig_Post.f at h
  refine fun_of_run cfg_ok (f := 8) (fn := Tryd.f8) Tryd.func8 rfl (by kernel_rfl) (rs := [.cell 4 27, .tmp 5]) rfl (nt := 38) rfl (l := fin) (k := (.call true [] ((Option Int)) (fun t1 => sig_Check.R t1) (fun t1 => (.br (.one true (.one true (.one true (.one true (.adj [] (.adj [] (.adj [.drop 0] .nil))))))) (.one false (.call true [] (Bool) (fun t3 => sig_signal.R t3) (fun t3 => (.one false (.one false (.br (.adj [] (.adj [] (.adj [.drop 0] .nil))) (.ex (Int) (fun t5 => (.dr [(0, ⟨none, .no⟩), (2, ⟨none, .no⟩), (3, ⟨none, .callP true [] (sig_against.R t5)⟩), (1, ⟨none, .no⟩), (4, ⟨none, .no⟩), (5, ⟨none, .no⟩), (6, ⟨none, .no⟩)] (.call true [] (Bool) (fun t6 => sigset_Has.R t6) (fun t6 => (.br (.one true (.one true (.one true (.one true (.one true (.call true [] (Int) (fun t8 => sigset_Add.R t8) (fun t8 => (.adj [] (.adj [] (.adj [.drop 0] .nil)))))))))) (.one false (.one false (.call true [] (Int) (fun t9 => sig_What.R t9) (fun t9 => (.one false (.one false (.br (.call true [] (Int) (fun t11 => sigset_Add.R t11) (fun t11 => (.adj [] (.adj [] (.adj [.drop 0] .nil))))) (.adj [] (.adj [] (.adj [] (.adj [.drop 0] .nil))))))))))))))))))))))))))) (to_goal (q := (True) ∧ (∃ t1 : (Option Int), (Fun cfg 14 [.agg [.c (.sc (.int .u32 a0)), .c (.sc (.int .u32 a1)), .row 32 (.int .u32) a2]] [] (sig_Check.R t1) [] ∧ True) ∧ (True) ∧ (((!(Option.isNone t1)) = false → ((!(Option.isNone t1)) = false ∧ (∃ t3 : Bool, (Fun cfg 28 [.one (.sc (.int .i64 a3))] [] (sig_signal.R t3) [] ∧ True) ∧ ((!(Option.isNone t1)) = false ∧ ((!(Option.isNone t1)) = false ∧ (((!t3) = true → (True ∧ (True) ∧ (True ∧ (((True) ∧ True) ∧ ((True) ∧ True) ∧ (.tup [.agg [.c (.sc (.int .u32 (0 : Int))), .c (.sc (.int .u32 (0 : Int))), .row 32 (.int .u32) (List.replicate 32 (0 : Int))], .one (.err (some (22 : Int)))] : Tm) = sig_Post.R r ∧ ([] : List Box) = [])))) ∧ ((!t3) = false → (∃ t5 : Int, (Fun cfg 29 [.one (.sc (.int .i64 a3))] [] (sig_against.R t5) [] ∧ True) ∧ (True) ∧ (True) ∧ (True) ∧ (True) ∧ (∃ t6 : Bool, (Fun cfg 11 [.one (.sc (.int .u32 a1)), .one (.sc (.int .i64 a3))] [] (sigset_Has.R t6) [] ∧ True) ∧ ((t6 = false → (True) ∧ (t6 = false ∧ (t6 = false ∧ (∃ t9 : Int, (Fun cfg 13 [.agg [.c (.sc (.int .u32 (bits .andNot .u32 a0 t5))), .c (.sc (.int .u32 a1)), .row 32 (.int .u32) a2], .one (.sc (.int .i64 a3))] [] (sig_What.R t9) [] ∧ True) ∧ (t6 = false ∧ (True) ∧ (t6 = false ∧ (((t9 != (0 : Int)) = true → (True) ∧ (∃ t11 : Int, (Fun cfg 30 [.one (.sc (.int .u32 (bits .andNot .u32 a0 t5))), .one (.sc (.int .i64 a3))] [] (sigset_Add.R t11) [] ∧ True) ∧ (True) ∧ (True ∧ (True) ∧ (True) ∧ (True ∧ (((True) ∧ True) ∧ ((True) ∧ True) ∧ (.tup [.agg [.c (.sc (.int .u32 t11)), .c (.sc (.int .u32 a1)), .row 32 (.int .u32) a2], .one (.err none)] : Tm) = sig_Post.R r ∧ ([] : List Box) = []))))) ∧ ((t9 != (0 : Int)) = false → (True ∧ (True ∧ (True) ∧ (True) ∧ (True ∧ (((True) ∧ True) ∧ ((True) ∧ True) ∧ (.tup [.agg [.c (.sc (.int .u32 (bits .andNot .u32 a0 t5))), .c (.sc (.int .u32 a1)), .row 32 (.int .u32) a2], .one (.err none)] : Tm) = sig_Post.R r ∧ ([] : List Box) = [])))))))))))) ∧ (t6 = true → (t6 = true ∧ (t6 = true ∧ (t6 = true ∧ (t6 = true ∧ (true = true ∧ (True) ∧ (∃ t8 : Int, (Fun cfg 30 [.one (.sc (.int .u32 (bits .andNot .u32 a0 t5))), .one (.sc (.int .i64 a3))] [] (sigset_Add.R t8) [] ∧ True) ∧ (True) ∧ (True ∧ (True) ∧ (True) ∧ (True ∧ (((True) ∧ True) ∧ ((True) ∧ True) ∧ (.tup [.agg [.c (.sc (.int .u32 t8)), .c (.sc (.int .u32 a1)), .row 32 (.int .u32) a2], .one (.err none)] : Tm) = sig_Post.R r ∧ ([] : List Box) = [])))))))))))))))))))) ∧ ((!(Option.isNone t1)) = true → ((!(Option.isNone t1)) = true ∧ ((!(Option.isNone t1)) = true ∧ ((!(Option.isNone t1)) = true ∧ (true = true ∧ (True ∧ (True) ∧ (True ∧ (((True) ∧ True) ∧ ((True) ∧ True) ∧ (.tup [.agg [.c (.sc (.int .u32 (0 : Int))), .c (.sc (.int .u32 (0 : Int))), .row 32 (.int .u32) (List.replicate 32 (0 : Int))], .one (.err (some (22 : Int)))] : Tm) = sig_Post.R r ∧ ([] : List Box) = []))))))))))) (by kernel_rfl) ?_)
  refine ⟨trivial, ?_⟩
  obtain ⟨t1, ht1, h⟩ := of_bind h
  refine ⟨t1, ⟨sig_Check.fun_ ht1, trivial⟩, ?_⟩
  refine ⟨trivial, ?_⟩
  refine ⟨fun b2 => ?_, fun b2 => ?_⟩
  · rw [if_neg (not_not_intro (none_t (not_f b2)))] at h
    refine ⟨b2, ?_⟩
    obtain ⟨t3, ht3, h⟩ := of_bind h
    refine ⟨t3, ⟨sig_signal.fun_ ht3, trivial⟩, ?_⟩
    refine ⟨b2, ?_⟩
    refine ⟨b2, ?_⟩
    refine ⟨fun b4 => ?_, fun b4 => ?_⟩
    · rw [if_pos (ff (not_t b4))] at h
      refine ⟨trivial, ?_⟩
      refine ⟨trivial, ?_⟩
      refine ⟨trivial, ?_⟩
      obtain rfl := Option.some.inj h
      exact ⟨⟨trivial, trivial⟩, ⟨trivial, trivial⟩, rfl, rfl⟩
    · rw [if_neg (not_not_intro (not_f b4))] at h
      obtain ⟨t5, ht5, h⟩ := of_bind h
      refine ⟨t5, ?_⟩
      refine ⟨⟨sig_against.fun_ ht5, trivial⟩, trivial, trivial, trivial, ?_⟩
      refine ⟨trivial, ?_⟩
      obtain ⟨t6, ht6, h⟩ := of_bind h
      refine ⟨t6, ⟨sigset_Has.fun_ ht6, trivial⟩, ?_⟩
      refine ⟨fun b7 => ?_, fun b7 => ?_⟩
      · rw [if_neg (ff b7)] at h
        refine ⟨trivial, ?_⟩
        refine ⟨b7, ?_⟩
        refine ⟨b7, ?_⟩
        obtain ⟨t9, ht9, h⟩ := of_bind h
        refine ⟨t9, ⟨sig_What.fun_ ht9, trivial⟩, ?_⟩
        refine ⟨b7, ?_⟩
        refine ⟨trivial, ?_⟩
        refine ⟨b7, ?_⟩
        refine ⟨fun b10 => ?_, fun b10 => ?_⟩
        · rw [if_pos (bne_t b10)] at h
          refine ⟨trivial, ?_⟩
          obtain ⟨t11, ht11, h⟩ := of_bind h
          refine ⟨t11, ⟨sigset_Add.fun_ ht11, trivial⟩, ?_⟩
          refine ⟨trivial, ?_⟩
          refine ⟨trivial, ?_⟩
          refine ⟨trivial, ?_⟩
          refine ⟨trivial, ?_⟩
          refine ⟨trivial, ?_⟩
          obtain rfl := Option.some.inj h
          exact ⟨⟨trivial, trivial⟩, ⟨trivial, trivial⟩, rfl, rfl⟩
        · rw [if_neg (not_not_intro (bne_f b10))] at h
          refine ⟨trivial, ?_⟩
          refine ⟨trivial, ?_⟩
          refine ⟨trivial, ?_⟩
          refine ⟨trivial, ?_⟩
          refine ⟨trivial, ?_⟩
          obtain rfl := Option.some.inj h
          exact ⟨⟨trivial, trivial⟩, ⟨trivial, trivial⟩, rfl, rfl⟩
      · rw [if_pos b7] at h
        refine ⟨b7, ?_⟩
        refine ⟨b7, ?_⟩
        refine ⟨b7, ?_⟩
        refine ⟨b7, ?_⟩
        refine ⟨rfl, ?_⟩
        refine ⟨trivial, ?_⟩
        obtain ⟨t8, ht8, h⟩ := of_bind h
        refine ⟨t8, ⟨sigset_Add.fun_ ht8, trivial⟩, ?_⟩
        refine ⟨trivial, ?_⟩
        refine ⟨trivial, ?_⟩
        refine ⟨trivial, ?_⟩
        refine ⟨trivial, ?_⟩
        refine ⟨trivial, ?_⟩
        obtain rfl := Option.some.inj h
        exact ⟨⟨trivial, trivial⟩, ⟨trivial, trivial⟩, rfl, rfl⟩
  · rw [if_pos (none_f (not_t b2))] at h
    refine ⟨b2, ?_⟩
    refine ⟨b2, ?_⟩
    refine ⟨b2, ?_⟩
    refine ⟨rfl, ?_⟩
    refine ⟨trivial, ?_⟩
    refine ⟨trivial, ?_⟩
    refine ⟨trivial, ?_⟩
    obtain rfl := Option.some.inj h
    exact ⟨⟨trivial, trivial⟩, ⟨trivial, trivial⟩, rfl, rfl⟩
/-! halter/sigset.Del -/
def sigset_Del.f (a0 : Int) (a1 : Int) : Option Int :=
  (sigset_One.f a1).bind fun t1 =>
  some (bits .andNot .u32 (bits .and .u32 a0 (2147483647 : Int)) t1)
def sigset_Del.R (r : Int) : Tm := .v (.one (.sc (.int .u32 r)))
theorem sigset_Del.fun_ {a0 : Int} {a1 : Int} {r : Int} (h : sigset_Del.f a0 a1 = some r) : Fun cfg 32 [.one (.sc (.int .u32 a0)), .one (.sc (.int .i64 a1))] [] (sigset_Del.R r) [] := by
  unfold sigset_Del.f at h
  refine fun_of_run cfg_ok (f := 32) (fn := Tryd.f32) Tryd.func32 rfl (by kernel_rfl) (rs := [.tmp 4]) rfl (nt := 10) rfl (l := fin) (k := (.call true [] (Int) (fun t1 => sigset_One.R t1) (fun t1 => (.adj [] (.adj [] .nil))))) (to_goal (q := (True) ∧ (∃ t1 : Int, (Fun cfg 33 [.one (.sc (.int .i64 a1))] [] (sigset_One.R t1) [] ∧ True) ∧ (True) ∧ (True ∧ ((True) ∧ (True) ∧ (.v (.one (.sc (.int .u32 (bits .andNot .u32 (bits .and .u32 a0 (2147483647 : Int)) t1)))) : Tm) = sigset_Del.R r ∧ ([] : List Box) = [])))) (by kernel_rfl) ?_)
  refine ⟨trivial, ?_⟩
  obtain ⟨t1, ht1, h⟩ := of_bind h
  refine ⟨t1, ⟨sigset_One.fun_ ht1, trivial⟩, ?_⟩
  refine ⟨trivial, ?_⟩
  refine ⟨trivial, ?_⟩
  obtain rfl := Option.some.inj h
  exact ⟨trivial, trivial, rfl, rfl⟩
/-! halter/sig.Take -/
def sig_Take.f (a0 : Int) (a1 : Int) (a2 : (List Int)) (a3 : Int) : Option (Int × Int × (List Int)) :=
  (sigset_Del.f a0 a3).bind fun t1 =>
  some (t1, a1, a2)
def sig_Take.R (r : Int × Int × (List Int)) : Tm := .v (.agg [.c (.sc (.int .u32 r.1)), .c (.sc (.int .u32 r.2.1)), .row 32 (.int .u32) r.2.2])
theorem sig_Take.fun_ {a0 : Int} {a1 : Int} {a2 : (List Int)} {a3 : Int} {r : Int × Int × (List Int)} (h : sig_Take.f a0 a1 a2 a3 = some r) : Fun cfg 10 [.agg [.c (.sc (.int .u32 a0)), .c (.sc (.int .u32 a1)), .row 32 (.int .u32) a2], .one (.sc (.int .i64 a3))] [] (sig_Take.R r) [] := by
  unfold sig_Take.f at h
  refine fun_of_run cfg_ok (f := 10) (fn := Tryd.f10) Tryd.func10 rfl (by kernel_rfl) (rs := [.cell 4 27]) rfl (nt := 11) rfl (l := fin) (k := (.call true [] (Int) (fun t1 => sigset_Del.R t1) (fun t1 => (.adj [] (.adj [] (.adj [.drop 0] .nil)))))) (to_goal (q := (True) ∧ (∃ t1 : Int, (Fun cfg 32 [.one (.sc (.int .u32 a0)), .one (.sc (.int .i64 a3))] [] (sigset_Del.R t1) [] ∧ True) ∧ (True) ∧ (True ∧ (True) ∧ (True) ∧ (True ∧ (((True) ∧ True) ∧ ((True) ∧ True) ∧ (.v (.agg [.c (.sc (.int .u32 t1)), .c (.sc (.int .u32 a1)), .row 32 (.int .u32) a2]) : Tm) = sig_Take.R r ∧ ([] : List Box) = []))))) (by kernel_rfl) ?_)
  refine ⟨trivial, ?_⟩
  obtain ⟨t1, ht1, h⟩ := of_bind h
  refine ⟨t1, ⟨sigset_Del.fun_ ht1, trivial⟩, ?_⟩
  refine ⟨trivial, ?_⟩
  refine ⟨trivial, ?_⟩
  refine ⟨trivial, ?_⟩
  refine ⟨trivial, ?_⟩
  refine ⟨trivial, ?_⟩
  obtain rfl := Option.some.inj h
  exact ⟨⟨trivial, trivial⟩, ⟨trivial, trivial⟩, rfl, rfl⟩
/-! halter/sig.Act -/
def sig_Act.f (a0 : Int) (a1 : Int) (a2 : (List Int)) (a3 : Int) (a4 : Int) : Option (Int × Int × (List Int) × (Option Int)) :=
  (sig_Check.f a0 a1 a2).bind fun t1 =>
  if ¬ (t1 = none) then
    some ((0 : Int), (0 : Int), (List.replicate 32 (0 : Int)), (some (22 : Int)))
  else
    (sig_signal.f a3).bind fun t3 =>
    if ¬ (t3 = true) then
      some ((0 : Int), (0 : Int), (List.replicate 32 (0 : Int)), (some (22 : Int)))
    else
      if a3 = (9 : Int) then
        some ((0 : Int), (0 : Int), (List.replicate 32 (0 : Int)), (some (22 : Int)))
      else
        if a3 = (19 : Int) then
          some ((0 : Int), (0 : Int), (List.replicate 32 (0 : Int)), (some (22 : Int)))
        else
          if 0 ≤ a3 ∧ a3 < ((32 : Nat) : Int) then
            if (Int.toNat a3) < 32 then
              (sig_What.f a0 a1 (List.set a2 (Int.toNat a3) a4) a3).bind fun t7 =>
              if t7 = (0 : Int) then
                (sig_Take.f a0 a1 (List.set a2 (Int.toNat a3) a4) a3).bind fun t9 =>
                some (t9.1, t9.2.1, t9.2.2, none)
              else
                some (a0, a1, (List.set a2 (Int.toNat a3) a4), none)
            else none
          else none
def sig_Act.R (r : Int × Int × (List Int) × (Option Int)) : Tm := .tup [.agg [.c (.sc (.int .u32 r.1)), .c (.sc (.int .u32 r.2.1)), .row 32 (.int .u32) r.2.2.1], .one (.err r.2.2.2)]
theorem sig_Act.fun_ {a0 : Int} {a1 : Int} {a2 : (List Int)} {a3 : Int} {a4 : Int} {r : Int × Int × (List Int) × (Option Int)} (h : sig_Act.f a0 a1 a2 a3 a4 = some r) : Fun cfg 12 [.agg [.c (.sc (.int .u32 a0)), .c (.sc (.int .u32 a1)), .row 32 (.int .u32) a2], .one (.sc (.int .i64 a3)), .one (.sc (.int .u32 a4))] [] (sig_Act.R r) [] := by
  unfold sig_Act.f at h
  refine fun_of_run cfg_ok (f := 12) (fn := Tryd.f12) Tryd.func12 rfl (by kernel_rfl) (rs := [.cell 6 27, .tmp 7]) rfl (nt := 38) rfl (l := fin) (k := (.call true [] ((Option Int)) (fun t1 => sig_Check.R t1) (fun t1 => (.br (.one true (.one true (.one true (.one true (.one true (.one true (.one true (.one true (.one true (.one true (.adj [] (.adj [] (.adj [.drop 0] .nil))))))))))))) (.one false (.call true [] (Bool) (fun t3 => sig_signal.R t3) (fun t3 => (.one false (.one false (.br (.one true (.one true (.one true (.one true (.one true (.one true (.adj [] (.adj [] (.adj [.drop 0] .nil))))))))) (.one false (.one false (.br (.one true (.one true (.one true (.adj [] (.adj [] (.adj [.drop 0] .nil)))))) (.one false (.one false (.br (.adj [] (.adj [] (.adj [.drop 0] .nil))) (.call true [] (Int) (fun t7 => sig_What.R t7) (fun t7 => (.br (.call true [] (Int × Int × (List Int)) (fun t9 => sig_Take.R t9) (fun t9 => (.adj [] (.adj [.drop 0] .nil)))) (.adj [] (.adj [] (.adj [] (.adj [.drop 0] .nil))))))))))))))))))))))) (to_goal (q := (True) ∧ (∃ t1 : (Option Int), (Fun cfg 14 [.agg [.c (.sc (.int .u32 a0)), .c (.sc (.int .u32 a1)), .row 32 (.int .u32) a2]] [] (sig_Check.R t1) [] ∧ True) ∧ (True) ∧ (((!(Option.isNone t1)) = false → ((!(Option.isNone t1)) = false ∧ (∃ t3 : Bool, (Fun cfg 28 [.one (.sc (.int .i64 a3))] [] (sig_signal.R t3) [] ∧ True) ∧ ((!(Option.isNone t1)) = false ∧ ((!(Option.isNone t1)) = false ∧ (((!t3) = false → ((!t3) = false ∧ (True) ∧ ((!t3) = false ∧ (((a3 == (9 : Int)) = false → ((a3 == (9 : Int)) = false ∧ (True) ∧ ((a3 == (9 : Int)) = false ∧ (((a3 == (19 : Int)) = true → (True ∧ (True) ∧ (True ∧ (((True) ∧ True) ∧ ((True) ∧ True) ∧ (.tup [.agg [.c (.sc (.int .u32 (0 : Int))), .c (.sc (.int .u32 (0 : Int))), .row 32 (.int .u32) (List.replicate 32 (0 : Int))], .one (.err (some (22 : Int)))] : Tm) = sig_Act.R r ∧ ([] : List Box) = [])))) ∧ ((a3 == (19 : Int)) = false → (0 ≤ a3 ∧ a3 < ((32 : Nat) : Int)) ∧ ((Int.toNat a3) < 32) ∧ (True) ∧ (∃ t7 : Int, (Fun cfg 13 [.agg [.c (.sc (.int .u32 a0)), .c (.sc (.int .u32 a1)), .row 32 (.int .u32) (List.set a2 (Int.toNat a3) a4)], .one (.sc (.int .i64 a3))] [] (sig_What.R t7) [] ∧ True) ∧ (True) ∧ (((t7 == (0 : Int)) = true → (True) ∧ (∃ t9 : Int × Int × (List Int), (Fun cfg 10 [.agg [.c (.sc (.int .u32 a0)), .c (.sc (.int .u32 a1)), .row 32 (.int .u32) (List.set a2 (Int.toNat a3) a4)], .one (.sc (.int .i64 a3))] [] (sig_Take.R t9) [] ∧ True) ∧ (True) ∧ (True ∧ (((True) ∧ True) ∧ ((True) ∧ True) ∧ (.tup [.agg [.c (.sc (.int .u32 t9.1)), .c (.sc (.int .u32 t9.2.1)), .row 32 (.int .u32) t9.2.2], .one (.err none)] : Tm) = sig_Act.R r ∧ ([] : List Box) = [])))) ∧ ((t7 == (0 : Int)) = false → (True ∧ (True ∧ (True) ∧ (True) ∧ (True ∧ (((True) ∧ True) ∧ ((True) ∧ True) ∧ (.tup [.agg [.c (.sc (.int .u32 a0)), .c (.sc (.int .u32 a1)), .row 32 (.int .u32) (List.set a2 (Int.toNat a3) a4)], .one (.err none)] : Tm) = sig_Act.R r ∧ ([] : List Box) = [])))))))))))) ∧ ((a3 == (9 : Int)) = true → ((a3 == (9 : Int)) = true ∧ ((a3 == (9 : Int)) = true ∧ (true = true ∧ (True ∧ (True) ∧ (True ∧ (((True) ∧ True) ∧ ((True) ∧ True) ∧ (.tup [.agg [.c (.sc (.int .u32 (0 : Int))), .c (.sc (.int .u32 (0 : Int))), .row 32 (.int .u32) (List.replicate 32 (0 : Int))], .one (.err (some (22 : Int)))] : Tm) = sig_Act.R r ∧ ([] : List Box) = []))))))))))) ∧ ((!t3) = true → ((!t3) = true ∧ ((!t3) = true ∧ (true = true ∧ (true = true ∧ (true = true ∧ (true = true ∧ (True ∧ (True) ∧ (True ∧ (((True) ∧ True) ∧ ((True) ∧ True) ∧ (.tup [.agg [.c (.sc (.int .u32 (0 : Int))), .c (.sc (.int .u32 (0 : Int))), .row 32 (.int .u32) (List.replicate 32 (0 : Int))], .one (.err (some (22 : Int)))] : Tm) = sig_Act.R r ∧ ([] : List Box) = [])))))))))))))))) ∧ ((!(Option.isNone t1)) = true → ((!(Option.isNone t1)) = true ∧ ((!(Option.isNone t1)) = true ∧ ((!(Option.isNone t1)) = true ∧ (true = true ∧ (true = true ∧ (true = true ∧ (true = true ∧ (true = true ∧ (true = true ∧ (true = true ∧ (True ∧ (True) ∧ (True ∧ (((True) ∧ True) ∧ ((True) ∧ True) ∧ (.tup [.agg [.c (.sc (.int .u32 (0 : Int))), .c (.sc (.int .u32 (0 : Int))), .row 32 (.int .u32) (List.replicate 32 (0 : Int))], .one (.err (some (22 : Int)))] : Tm) = sig_Act.R r ∧ ([] : List Box) = []))))))))))))))))) (by kernel_rfl) ?_)
  refine ⟨trivial, ?_⟩
  obtain ⟨t1, ht1, h⟩ := of_bind h
  refine ⟨t1, ⟨sig_Check.fun_ ht1, trivial⟩, ?_⟩
  refine ⟨trivial, ?_⟩
  refine ⟨fun b2 => ?_, fun b2 => ?_⟩
  · rw [if_neg (not_not_intro (none_t (not_f b2)))] at h
    refine ⟨b2, ?_⟩
    obtain ⟨t3, ht3, h⟩ := of_bind h
    refine ⟨t3, ⟨sig_signal.fun_ ht3, trivial⟩, ?_⟩
    refine ⟨b2, ?_⟩
    refine ⟨b2, ?_⟩
    refine ⟨fun b4 => ?_, fun b4 => ?_⟩
    · rw [if_neg (not_not_intro (not_f b4))] at h
      refine ⟨b4, ?_⟩
      refine ⟨trivial, ?_⟩
      refine ⟨b4, ?_⟩
      refine ⟨fun b5 => ?_, fun b5 => ?_⟩
      · rw [if_neg (beq_f b5)] at h
        refine ⟨b5, ?_⟩
        refine ⟨trivial, ?_⟩
        refine ⟨b5, ?_⟩
        refine ⟨fun b6 => ?_, fun b6 => ?_⟩
        · rw [if_pos (beq_t b6)] at h
          refine ⟨trivial, ?_⟩
          refine ⟨trivial, ?_⟩
          refine ⟨trivial, ?_⟩
          obtain rfl := Option.some.inj h
          exact ⟨⟨trivial, trivial⟩, ⟨trivial, trivial⟩, rfl, rfl⟩
        · rw [if_neg (beq_f b6)] at h
          obtain ⟨g11, h⟩ := of_guard h
          refine ⟨g11, ?_⟩
          obtain ⟨g10, h⟩ := of_guard h
          refine ⟨g10, ?_⟩
          refine ⟨trivial, ?_⟩
          obtain ⟨t7, ht7, h⟩ := of_bind h
          refine ⟨t7, ⟨sig_What.fun_ ht7, trivial⟩, ?_⟩
          refine ⟨trivial, ?_⟩
          refine ⟨fun b8 => ?_, fun b8 => ?_⟩
          · rw [if_pos (beq_t b8)] at h
            refine ⟨trivial, ?_⟩
            obtain ⟨t9, ht9, h⟩ := of_bind h
            refine ⟨t9, ⟨sig_Take.fun_ ht9, trivial⟩, ?_⟩
            refine ⟨trivial, ?_⟩
            refine ⟨trivial, ?_⟩
            obtain rfl := Option.some.inj h
            exact ⟨⟨trivial, trivial⟩, ⟨trivial, trivial⟩, rfl, rfl⟩
          · rw [if_neg (beq_f b8)] at h
            refine ⟨trivial, ?_⟩
            refine ⟨trivial, ?_⟩
            refine ⟨trivial, ?_⟩
            refine ⟨trivial, ?_⟩
            refine ⟨trivial, ?_⟩
            obtain rfl := Option.some.inj h
            exact ⟨⟨trivial, trivial⟩, ⟨trivial, trivial⟩, rfl, rfl⟩
      · rw [if_pos (beq_t b5)] at h
        refine ⟨b5, ?_⟩
        refine ⟨b5, ?_⟩
        refine ⟨rfl, ?_⟩
        refine ⟨trivial, ?_⟩
        refine ⟨trivial, ?_⟩
        refine ⟨trivial, ?_⟩
        obtain rfl := Option.some.inj h
        exact ⟨⟨trivial, trivial⟩, ⟨trivial, trivial⟩, rfl, rfl⟩
    · rw [if_pos (ff (not_t b4))] at h
      refine ⟨b4, ?_⟩
      refine ⟨b4, ?_⟩
      refine ⟨rfl, ?_⟩
      refine ⟨rfl, ?_⟩
      refine ⟨rfl, ?_⟩
      refine ⟨rfl, ?_⟩
      refine ⟨trivial, ?_⟩
      refine ⟨trivial, ?_⟩
      refine ⟨trivial, ?_⟩
      obtain rfl := Option.some.inj h
      exact ⟨⟨trivial, trivial⟩, ⟨trivial, trivial⟩, rfl, rfl⟩
  · rw [if_pos (none_f (not_t b2))] at h
    refine ⟨b2, ?_⟩
    refine ⟨b2, ?_⟩
    refine ⟨b2, ?_⟩
    refine ⟨rfl, ?_⟩
    refine ⟨rfl, ?_⟩
    refine ⟨rfl, ?_⟩
    refine ⟨rfl, ?_⟩
    refine ⟨rfl, ?_⟩
    refine ⟨rfl, ?_⟩
    refine ⟨rfl, ?_⟩
    refine ⟨trivial, ?_⟩
    refine ⟨trivial, ?_⟩
    refine ⟨trivial, ?_⟩
    obtain rfl := Option.some.inj h
    exact ⟨⟨trivial, trivial⟩, ⟨trivial, trivial⟩, rfl, rfl⟩
/-! math/bits.TrailingZeros32 -/
def math_bits_TrailingZeros32.f (a0 : Int) : Option Int :=
  if a0 = (0 : Int) then
    some (32 : Int)
  else
    if 0 ≤ (shr .u32 (IntKind.wrap .u32 ((bits .and .u32 a0 (IntKind.wrap .u32 (0 - a0))) * (125613361 : Int))) (27 : Int)) ∧ (shr .u32 (IntKind.wrap .u32 ((bits .and .u32 a0 (IntKind.wrap .u32 (0 - a0))) * (125613361 : Int))) (27 : Int)) < ((32 : Nat) : Int) then
      some (IntKind.wrap .i64 ((List.getD tab1 (Int.toNat (shr .u32 (IntKind.wrap .u32 ((bits .and .u32 a0 (IntKind.wrap .u32 (0 - a0))) * (125613361 : Int))) (27 : Int))) (0 : Int))))
    else none
def math_bits_TrailingZeros32.R (r : Int) : Tm := .v (.one (.sc (.int .i64 r)))
theorem math_bits_TrailingZeros32.fun_ {a0 : Int} {r : Int} (h : math_bits_TrailingZeros32.f a0 = some r) : Fun cfg 41 [.one (.sc (.int .u32 a0))] [] (math_bits_TrailingZeros32.R r) [] := by
  unfold math_bits_TrailingZeros32.f at h
  refine fun_of_run cfg_ok (f := 41) (fn := Tryd.f41) Tryd.func41 rfl (by kernel_rfl) (rs := [.tmp 2]) rfl (nt := 14) rfl (l := fin) (k := (.br (.adj [] (.adj [] (.adj [] .nil))) (.adj [] (.adj [] (.adj [] (.adj [] .nil)))))) (to_goal (q := (True) ∧ (((a0 == (0 : Int)) = true → (True ∧ (True ∧ ((True) ∧ (True) ∧ (.v (.one (.sc (.int .i64 (32 : Int)))) : Tm) = math_bits_TrailingZeros32.R r ∧ ([] : List Box) = [])))) ∧ ((a0 == (0 : Int)) = false → (True ∧ (True ∧ (True) ∧ (True) ∧ (0 ≤ (27 : Int)) ∧ (0 ≤ (shr .u32 (IntKind.wrap .u32 ((bits .and .u32 a0 (IntKind.wrap .u32 (0 - a0))) * (125613361 : Int))) (27 : Int)) ∧ (shr .u32 (IntKind.wrap .u32 ((bits .and .u32 a0 (IntKind.wrap .u32 (0 - a0))) * (125613361 : Int))) (27 : Int)) < ((32 : Nat) : Int)) ∧ (True) ∧ (True) ∧ (True ∧ ((True) ∧ (True) ∧ (.v (.one (.sc (.int .i64 (IntKind.wrap .i64 ((List.getD tab1 (Int.toNat (shr .u32 (IntKind.wrap .u32 ((bits .and .u32 a0 (IntKind.wrap .u32 (0 - a0))) * (125613361 : Int))) (27 : Int))) (0 : Int))))))) : Tm) = math_bits_TrailingZeros32.R r ∧ ([] : List Box) = []))))))) (by kernel_rfl) ?_)
  refine ⟨trivial, ?_⟩
  refine ⟨fun b1 => ?_, fun b1 => ?_⟩
  · rw [if_pos (beq_t b1)] at h
    refine ⟨trivial, ?_⟩
    refine ⟨trivial, ?_⟩
    obtain rfl := Option.some.inj h
    exact ⟨trivial, trivial, rfl, rfl⟩
  · rw [if_neg (beq_f b1)] at h
    refine ⟨trivial, ?_⟩
    refine ⟨trivial, ?_⟩
    refine ⟨trivial, ?_⟩
    refine ⟨trivial, ?_⟩
    refine ⟨(by decide), ?_⟩
    obtain ⟨g2, h⟩ := of_guard h
    refine ⟨g2, ?_⟩
    refine ⟨trivial, ?_⟩
    refine ⟨trivial, ?_⟩
    refine ⟨trivial, ?_⟩
    obtain rfl := Option.some.inj h
    exact ⟨trivial, trivial, rfl, rfl⟩
/-! halter/sigset.First -/
def sigset_First.f (a0 : Int) : Option Int :=
  if (bits .and .u32 a0 (2147483647 : Int)) = (0 : Int) then
    some (0 : Int)
  else
    (math_bits_TrailingZeros32.f a0).bind fun t2 =>
    some (IntKind.wrap .i64 (t2 + (1 : Int)))
def sigset_First.R (r : Int) : Tm := .v (.one (.sc (.int .i64 r)))
theorem sigset_First.fun_ {a0 : Int} {r : Int} (h : sigset_First.f a0 = some r) : Fun cfg 31 [.one (.sc (.int .u32 a0))] [] (sigset_First.R r) [] := by
  unfold sigset_First.f at h
  refine fun_of_run cfg_ok (f := 31) (fn := Tryd.f31) Tryd.func31 rfl (by kernel_rfl) (rs := [.tmp 2]) rfl (nt := 9) rfl (l := fin) (k := (.br (.adj [] (.adj [] (.adj [] .nil))) (.call true [] (Int) (fun t2 => math_bits_TrailingZeros32.R t2) (fun t2 => (.adj [] (.adj [] .nil)))))) (to_goal (q := (True) ∧ (True) ∧ ((((bits .and .u32 a0 (2147483647 : Int)) == (0 : Int)) = true → (True ∧ (True ∧ ((True) ∧ (True) ∧ (.v (.one (.sc (.int .i64 (0 : Int)))) : Tm) = sigset_First.R r ∧ ([] : List Box) = [])))) ∧ (((bits .and .u32 a0 (2147483647 : Int)) == (0 : Int)) = false → (∃ t2 : Int, (Fun cfg 41 [.one (.sc (.int .u32 a0))] [] (math_bits_TrailingZeros32.R t2) [] ∧ True) ∧ (True) ∧ (True ∧ ((True) ∧ (True) ∧ (.v (.one (.sc (.int .i64 (IntKind.wrap .i64 (t2 + (1 : Int)))))) : Tm) = sigset_First.R r ∧ ([] : List Box) = [])))))) (by kernel_rfl) ?_)
  refine ⟨trivial, ?_⟩
  refine ⟨trivial, ?_⟩
  refine ⟨fun b1 => ?_, fun b1 => ?_⟩
  · rw [if_pos (beq_t b1)] at h
    refine ⟨trivial, ?_⟩
    refine ⟨trivial, ?_⟩
    obtain rfl := Option.some.inj h
    exact ⟨trivial, trivial, rfl, rfl⟩
  · rw [if_neg (beq_f b1)] at h
    obtain ⟨t2, ht2, h⟩ := of_bind h
    refine ⟨t2, ⟨math_bits_TrailingZeros32.fun_ ht2, trivial⟩, ?_⟩
    refine ⟨trivial, ?_⟩
    refine ⟨trivial, ?_⟩
    obtain rfl := Option.some.inj h
    exact ⟨trivial, trivial, rfl, rfl⟩
/-! halter/sig.Next -/
def sig_Next.l0 (a0 : Int) (a1 : Int) (a2 : (List Int)) : Nat → Int → Option ((Unit) ⊕ (Int))
  | 0, _ => none
  | n + 1, x1 =>
    if x1 < (2 : Int) then
      if 0 ≤ x1 ∧ x1 < ((2 : Nat) : Int) then
        (sigset_Has.f a0 (List.getD [(9 : Int), (19 : Int)] (Int.toNat x1) (0 : Int))).bind fun t9 =>
        if t9 = true then
          some (.inr (List.getD [(9 : Int), (19 : Int)] (Int.toNat x1) (0 : Int)))
        else
          sig_Next.l0 a0 a1 a2 n (IntKind.wrap .i64 (x1 + (1 : Int)))
      else none
    else
      some (.inl ())
def sig_Next.l0_S (a0 : Int) (a1 : Int) (a2 : (List Int)) (x1 : Int) : St := ⟨[.any, .v (.one (.ptr 0 ⟨0, 0, 0, 0⟩)), .any, .any, .any, .v (.agg [.row 2 (.int .i64) [(9 : Int), (19 : Int)]]), .v (.one (.sc (.int .i64 x1))), .any, .any, .any, .any, .any, .any, .any, .any, .any, .any, .any, .any, .any, .any], [.ex false [.c (.sc (.int .u32 a0)), .c (.sc (.int .u32 a1)), .row 32 (.int .u32) a2] 27], 0⟩
def sig_Next.l0_Q (a0 : Int) (a1 : Int) (a2 : (List Int)) : (Unit) ⊕ (Int) → Exit → St → Prop
  | .inl t => fun e s => e = (.exit 0) ∧ s = ⟨[.any, .v (.one (.ptr 0 ⟨0, 0, 0, 0⟩)), .any, .any, .any, .any, .any, .any, .any, .any, .any, .any, .any, .any, .any, .any, .any, .any, .any, .any, .any], [.ex false [.c (.sc (.int .u32 a0)), .c (.sc (.int .u32 a1)), .row 32 (.int .u32) a2] 27], 0⟩
  | .inr t => fun e s => e = .ret ∧ s = ⟨[.any, .any, .v (.one (.sc (.int .i64 t))), .any, .any, .any, .any, .any, .any, .any, .any, .any, .any, .any, .any, .any, .any, .any, .any, .any, .any], [.ex false [.c (.sc (.int .u32 a0)), .c (.sc (.int .u32 a1)), .row 32 (.int .u32) a2] 27], 0⟩
theorem sig_Next.l0_ok (a0 : Int) (a1 : Int) (a2 : (List Int)) : ∀ (n : Nat) (x1 : Int) (r : (Unit) ⊕ (Int)), sig_Next.l0 a0 a1 a2 n x1 = some r → TripN cfg (cpath (Tryd.f9.body.getD .skip) [1, 0, 1, 0, 0]) n (sig_Next.l0_S a0 a1 a2 x1) (sig_Next.l0_Q a0 a1 a2 r) := by
  intro n
  induction n with
  | zero => intro x1 r h; cases h
  | succ n ih =>
    intro x1 r h
    rw [sig_Next.l0] at h
    refine TripN.of_run cfg_ok (k := (.br (.call true [] (Bool) (fun t9 => sigset_Has.R t9) (fun t9 => (.br (.adj [] (.adj [.keep [2], .drop 1] .nil)) (.adj [] (.adj [] (.adj [.keep [1, 5, 6], .drop 1] .nil)))))) (.adj [.keep [1], .drop 1] .nil))) (to_goal (q := (True) ∧ (((decide (x1 < (2 : Int))) = true → (0 ≤ x1 ∧ x1 < ((2 : Nat) : Int)) ∧ (True) ∧ (∃ t9 : Bool, (Fun cfg 11 [.one (.sc (.int .u32 a0)), .one (.sc (.int .i64 (List.getD [(9 : Int), (19 : Int)] (Int.toNat x1) (0 : Int))))] [] (sigset_Has.R t9) [] ∧ True) ∧ ((t9 = true → (True ∧ (((True) ∧ (True) ∧ True) ∧ sig_Next.l0_Q a0 a1 a2 r .ret ⟨[.any, .any, .v (.one (.sc (.int .i64 (List.getD [(9 : Int), (19 : Int)] (Int.toNat x1) (0 : Int))))), .any, .any, .any, .any, .any, .any, .any, .any, .any, .any, .any, .any, .any, .any, .any, .any, .any, .any], [.ex false [.c (.sc (.int .u32 a0)), .c (.sc (.int .u32 a1)), .row 32 (.int .u32) a2] 27], 0⟩))) ∧ (t9 = false → (True ∧ (True ∧ (True) ∧ (((True) ∧ (True) ∧ True) ∧ TripN cfg (cpath (Tryd.f9.body.getD .skip) [1, 0, 1, 0, 0]) n (sig_Next.l0_S a0 a1 a2 (IntKind.wrap .i64 (x1 + (1 : Int)))) (sig_Next.l0_Q a0 a1 a2 r)))))))) ∧ ((decide (x1 < (2 : Int))) = false → (((True) ∧ (True) ∧ True) ∧ sig_Next.l0_Q a0 a1 a2 r (.exit 0) ⟨[.any, .v (.one (.ptr 0 ⟨0, 0, 0, 0⟩)), .any, .any, .any, .any, .any, .any, .any, .any, .any, .any, .any, .any, .any, .any, .any, .any, .any, .any, .any], [.ex false [.c (.sc (.int .u32 a0)), .c (.sc (.int .u32 a1)), .row 32 (.int .u32) a2] 27], 0⟩)))) (by kernel_rfl) ?_)
    refine ⟨trivial, ?_⟩
    refine ⟨fun b8 => ?_, fun b8 => ?_⟩
    · rw [if_pos (of_decide_eq_true b8)] at h
      obtain ⟨g11, h⟩ := of_guard h
      refine ⟨g11, ?_⟩
      refine ⟨trivial, ?_⟩
      obtain ⟨t9, ht9, h⟩ := of_bind h
      refine ⟨t9, ⟨sigset_Has.fun_ ht9, trivial⟩, ?_⟩
      refine ⟨fun b10 => ?_, fun b10 => ?_⟩
      · rw [if_pos b10] at h
        refine ⟨trivial, ?_⟩
        obtain rfl := Option.some.inj h
        exact ⟨⟨trivial, trivial, trivial⟩, rfl, rfl⟩
      · rw [if_neg (ff b10)] at h
        refine ⟨trivial, ?_⟩
        refine ⟨trivial, ?_⟩
        refine ⟨trivial, ?_⟩
        exact ⟨⟨trivial, trivial, trivial⟩, ih (IntKind.wrap .i64 (x1 + (1 : Int))) r h⟩
    · rw [if_neg (of_decide_eq_false b8)] at h
      obtain rfl := Option.some.inj h
      exact ⟨⟨trivial, trivial, trivial⟩, rfl, rfl⟩
def sig_Next.f (a0 : Int) (a1 : Int) (a2 : (List Int)) : Option Int :=
  (sig_Next.l0 a0 a1 a2 FUEL (0 : Int)).bind fun t7 =>
  match t7 with
  | .inl t13 =>
    (sigset_First.f (bits .andNot .u32 a0 a1)).bind fun t14 =>
    some t14
  | .inr t15 =>
    some t15
def sig_Next.R (r : Int) : Tm := .v (.one (.sc (.int .i64 r)))
theorem sig_Next.fun_ {a0 : Int} {a1 : Int} {a2 : (List Int)} {r : Int} (h : sig_Next.f a0 a1 a2 = some r) : Fun cfg 9 [.agg [.c (.sc (.int .u32 a0)), .c (.sc (.int .u32 a1)), .row 32 (.int .u32) a2]] [] (sig_Next.R r) [] := by
  unfold sig_Next.f at h
  refine fun_of_run cfg_ok (f := 9) (fn := Tryd.f9) Tryd.func9 rfl (by kernel_rfl) (rs := [.tmp 2]) rfl (nt := 21) rfl (l := fin) (k := (.adj [] (.adj [] (.adj [.keep [1, 5, 6]] (.alt (.sub (Unit) (fun _ => (.exit 0)) (fun t13 => ⟨[.any, .v (.one (.ptr 0 ⟨0, 0, 0, 0⟩)), .any, .any, .any, .any, .any, .any, .any, .any, .any, .any, .any, .any, .any, .any, .any, .any, .any, .any, .any], [.ex false [.c (.sc (.int .u32 a0)), .c (.sc (.int .u32 a1)), .row 32 (.int .u32) a2] 27], 0⟩) (fun t13 => (.call true [] (Int) (fun t14 => sigset_First.R t14) (fun t14 => (.adj [] (.adj [.drop 0] .nil)))))) (.sub (Int) (fun _ => .ret) (fun t15 => ⟨[.any, .any, .v (.one (.sc (.int .i64 t15))), .any, .any, .any, .any, .any, .any, .any, .any, .any, .any, .any, .any, .any, .any, .any, .any, .any, .any], [.ex false [.c (.sc (.int .u32 a0)), .c (.sc (.int .u32 a1)), .row 32 (.int .u32) a2] 27], 0⟩) (fun t15 => (.adj [.drop 0] .nil)))))))) (to_goal (q := (True ∧ (True ∧ (((True) ∧ True) ∧ ((∃ t13 : Unit, Trip cfg (.loop (cpath (Tryd.f9.body.getD .skip) [1, 0, 1, 0, 0])) ⟨[.any, .v (.one (.ptr 0 ⟨0, 0, 0, 0⟩)), .any, .any, .any, .v (.agg [.row 2 (.int .i64) [(9 : Int), (19 : Int)]]), .v (.one (.sc (.int .i64 (0 : Int)))), .any, .any, .any, .any, .any, .any, .any, .any, .any, .any, .any, .any, .any, .any], [.ex false [.c (.sc (.int .u32 a0)), .c (.sc (.int .u32 a1)), .row 32 (.int .u32) a2] 27], 0⟩ (fun e s => e = (.exit 0) ∧ s = ⟨[.any, .v (.one (.ptr 0 ⟨0, 0, 0, 0⟩)), .any, .any, .any, .any, .any, .any, .any, .any, .any, .any, .any, .any, .any, .any, .any, .any, .any, .any, .any], [.ex false [.c (.sc (.int .u32 a0)), .c (.sc (.int .u32 a1)), .row 32 (.int .u32) a2] 27], 0⟩) ∧ (True) ∧ (True) ∧ (True) ∧ (∃ t14 : Int, (Fun cfg 31 [.one (.sc (.int .u32 (bits .andNot .u32 a0 a1)))] [] (sigset_First.R t14) [] ∧ True) ∧ (True ∧ ((True) ∧ ((True) ∧ True) ∧ (.v (.one (.sc (.int .i64 t14))) : Tm) = sig_Next.R r ∧ ([] : List Box) = [])))) ∨ (∃ t15 : Int, Trip cfg (.loop (cpath (Tryd.f9.body.getD .skip) [1, 0, 1, 0, 0])) ⟨[.any, .v (.one (.ptr 0 ⟨0, 0, 0, 0⟩)), .any, .any, .any, .v (.agg [.row 2 (.int .i64) [(9 : Int), (19 : Int)]]), .v (.one (.sc (.int .i64 (0 : Int)))), .any, .any, .any, .any, .any, .any, .any, .any, .any, .any, .any, .any, .any, .any], [.ex false [.c (.sc (.int .u32 a0)), .c (.sc (.int .u32 a1)), .row 32 (.int .u32) a2] 27], 0⟩ (fun e s => e = .ret ∧ s = ⟨[.any, .any, .v (.one (.sc (.int .i64 t15))), .any, .any, .any, .any, .any, .any, .any, .any, .any, .any, .any, .any, .any, .any, .any, .any, .any, .any], [.ex false [.c (.sc (.int .u32 a0)), .c (.sc (.int .u32 a1)), .row 32 (.int .u32) a2] 27], 0⟩) ∧ ((True) ∧ ((True) ∧ True) ∧ (.v (.one (.sc (.int .i64 t15))) : Tm) = sig_Next.R r ∧ ([] : List Box) = []))))))) (by kernel_rfl) ?_)
  refine ⟨trivial, ?_⟩
  refine ⟨trivial, ?_⟩
  obtain ⟨t7, ht7, h⟩ := of_bind h
  refine ⟨⟨trivial, trivial⟩, ?_⟩
  rcases t7 with t13 | t15
  · dsimp only at h
    left
    refine ⟨t13, Trip.loop FUEL (sig_Next.l0_ok a0 a1 a2 FUEL (0 : Int) (.inl t13) ht7), ?_⟩
    refine ⟨trivial, ?_⟩
    refine ⟨trivial, ?_⟩
    refine ⟨trivial, ?_⟩
    obtain ⟨t14, ht14, h⟩ := of_bind h
    refine ⟨t14, ⟨sigset_First.fun_ ht14, trivial⟩, ?_⟩
    refine ⟨trivial, ?_⟩
    obtain rfl := Option.some.inj h
    exact ⟨trivial, ⟨trivial, trivial⟩, rfl, rfl⟩
  · dsimp only at h
    right
    refine ⟨t15, Trip.loop FUEL (sig_Next.l0_ok a0 a1 a2 FUEL (0 : Int) (.inr t15) ht7), ?_⟩
    obtain rfl := Option.some.inj h
    exact ⟨trivial, ⟨trivial, trivial⟩, rfl, rfl⟩
/-! halter/halterlaw25.sure -/
def halterlaw25_sure.f : Option Bool :=
  (sig_Post.f (0 : Int) (0 : Int) (List.replicate 32 (0 : Int)) (2 : Int)).bind fun t1 =>
  (sig_Post.f t1.1 t1.2.1 t1.2.2.1 (9 : Int)).bind fun t2 =>
  (sig_Act.f (0 : Int) (0 : Int) (List.replicate 32 (0 : Int)) (2 : Int) (512 : Int)).bind fun t3 =>
  (sig_Act.f (0 : Int) (0 : Int) (List.replicate 32 (0 : Int)) (9 : Int) (1 : Int)).bind fun t4 =>
  if t1.2.2.2 = none then
    if t2.2.2.2 = none then
      if t3.2.2.2 = none then
        (sig_Next.f t1.1 t1.2.1 t1.2.2.1).bind fun t8 =>
        if t8 = (2 : Int) then
          (sig_Next.f t2.1 t2.2.1 t2.2.2.1).bind fun t10 =>
          if t10 = (9 : Int) then
            (sig_Take.f t2.1 t2.2.1 t2.2.2.1 (9 : Int)).bind fun t12 =>
            (sig_Next.f t12.1 t12.2.1 t12.2.2).bind fun t13 =>
            if t13 = (2 : Int) then
              (sig_What.f t3.1 t3.2.1 t3.2.2.1 (2 : Int)).bind fun t15 =>
              if t15 = (4 : Int) then
                (num.f t4.2.2.2).bind fun t17 =>
                if t17 = (22 : Int) then
                  (sig_What.f t1.1 t1.2.1 t1.2.2.1 (17 : Int)).bind fun t19 =>
                  some (t19 == (0 : Int))
                else
                  some false
              else
                some false
            else
              some false
          else
            some false
        else
          some false
      else
        some false
    else
      some false
  else
    some false
def halterlaw25_sure.R (r : Bool) : Tm := .v (.one (.sc (.bool r)))
theorem halterlaw25_sure.fun_ {r : Bool} (h : halterlaw25_sure.f = some r) : Fun cfg 7 [] [] (halterlaw25_sure.R r) [] := by
  unfold halterlaw25_sure.f at h
  refine fun_of_run cfg_ok (f := 7) (fn := Tryd.f7) Tryd.func7 rfl (by kernel_rfl) (rs := [.tmp 0]) rfl (nt := 70) rfl (l := fin) (k := (.call true [] (Int × Int × (List Int) × (Option Int)) (fun t1 => sig_Post.R t1) (fun t1 => (.call true [] (Int × Int × (List Int) × (Option Int)) (fun t2 => sig_Post.R t2) (fun t2 => (.call true [] (Int × Int × (List Int) × (Option Int)) (fun t3 => sig_Act.R t3) (fun t3 => (.call true [] (Int × Int × (List Int) × (Option Int)) (fun t4 => sig_Act.R t4) (fun t4 => (.br (.one true (.one true (.br (.one true (.one true (.br (.one true (.call true [] (Int) (fun t8 => sig_Next.R t8) (fun t8 => (.one true (.one true (.br (.one true (.call true [] (Int) (fun t10 => sig_Next.R t10) (fun t10 => (.one true (.one true (.br (.one true (.call true [] (Int × Int × (List Int)) (fun t12 => sig_Take.R t12) (fun t12 => (.one true (.call true [] (Int) (fun t13 => sig_Next.R t13) (fun t13 => (.one true (.one true (.br (.one true (.call true [] (Int) (fun t15 => sig_What.R t15) (fun t15 => (.one true (.one true (.br (.one true (.call true [] (Int) (fun t17 => num.R t17) (fun t17 => (.one true (.one true (.br (.one true (.call true [] (Int) (fun t19 => sig_What.R t19) (fun t19 => (.one true (.one true (.adj [] (.adj [.drop 0] .nil))))))) (.one false (.one false (.one false (.adj [] (.adj [.drop 0] .nil))))))))))) (.one false (.one false (.one false (.one false (.one false (.one false (.one false (.adj [] (.adj [.drop 0] .nil))))))))))))))) (.one false (.one false (.one false (.one false (.one false (.one false (.one false (.one false (.one false (.one false (.one false (.adj [] (.adj [.drop 0] .nil)))))))))))))))))))))) (.one false (.one false (.one false (.one false (.one false (.one false (.one false (.one false (.one false (.one false (.one false (.one false (.one false (.one false (.one false (.one false (.adj [] (.adj [.drop 0] .nil)))))))))))))))))))))))) (.one false (.one false (.one false (.one false (.one false (.one false (.one false (.one false (.one false (.one false (.one false (.one false (.one false (.one false (.one false (.one false (.one false (.one false (.one false (.one false (.adj [] (.adj [.drop 0] .nil)))))))))))))))))))))))))))) (.one false (.one false (.one false (.one false (.one false (.one false (.one false (.one false (.one false (.one false (.one false (.one false (.one false (.one false (.one false (.one false (.one false (.one false (.one false (.one false (.one false (.one false (.one false (.one false (.adj [] (.adj [.drop 0] .nil))))))))))))))))))))))))))))) (.one false (.one false (.one false (.one false (.one false (.one false (.one false (.one false (.one false (.one false (.one false (.one false (.one false (.one false (.one false (.one false (.one false (.one false (.one false (.one false (.one false (.one false (.one false (.one false (.one false (.one false (.one false (.adj [] (.adj [.drop 0] .nil)))))))))))))))))))))))))))))))) (.one false (.one false (.one false (.one false (.one false (.one false (.one false (.one false (.one false (.one false (.one false (.one false (.one false (.one false (.one false (.one false (.one false (.one false (.one false (.one false (.one false (.one false (.one false (.one false (.one false (.one false (.one false (.one false (.one false (.one false (.adj [] (.adj [.drop 0] .nil)))))))))))))))))))))))))))))))))))))))))) (to_goal (q := (∃ t1 : Int × Int × (List Int) × (Option Int), (Fun cfg 8 [.agg [.c (.sc (.int .u32 (0 : Int))), .c (.sc (.int .u32 (0 : Int))), .row 32 (.int .u32) (List.replicate 32 (0 : Int))], .one (.sc (.int .i64 (2 : Int)))] [] (sig_Post.R t1) [] ∧ True) ∧ (True) ∧ (True) ∧ (∃ t2 : Int × Int × (List Int) × (Option Int), (Fun cfg 8 [.agg [.c (.sc (.int .u32 t1.1)), .c (.sc (.int .u32 t1.2.1)), .row 32 (.int .u32) t1.2.2.1], .one (.sc (.int .i64 (9 : Int)))] [] (sig_Post.R t2) [] ∧ True) ∧ (True) ∧ (∃ t3 : Int × Int × (List Int) × (Option Int), (Fun cfg 12 [.agg [.c (.sc (.int .u32 (0 : Int))), .c (.sc (.int .u32 (0 : Int))), .row 32 (.int .u32) (List.replicate 32 (0 : Int))], .one (.sc (.int .i64 (2 : Int))), .one (.sc (.int .u32 (512 : Int)))] [] (sig_Act.R t3) [] ∧ True) ∧ (True) ∧ (∃ t4 : Int × Int × (List Int) × (Option Int), (Fun cfg 12 [.agg [.c (.sc (.int .u32 (0 : Int))), .c (.sc (.int .u32 (0 : Int))), .row 32 (.int .u32) (List.replicate 32 (0 : Int))], .one (.sc (.int .i64 (9 : Int))), .one (.sc (.int .u32 (1 : Int)))] [] (sig_Act.R t4) [] ∧ True) ∧ (True) ∧ (True) ∧ (((Option.isNone t1.2.2.2) = true → ((Option.isNone t1.2.2.2) = true ∧ (True) ∧ ((Option.isNone t1.2.2.2) = true ∧ (((Option.isNone t2.2.2.2) = true → ((Option.isNone t2.2.2.2) = true ∧ (True) ∧ ((Option.isNone t2.2.2.2) = true ∧ (((Option.isNone t3.2.2.2) = true → (True) ∧ ((Option.isNone t3.2.2.2) = true ∧ (∃ t8 : Int, (Fun cfg 9 [.agg [.c (.sc (.int .u32 t1.1)), .c (.sc (.int .u32 t1.2.1)), .row 32 (.int .u32) t1.2.2.1]] [] (sig_Next.R t8) [] ∧ True) ∧ ((Option.isNone t3.2.2.2) = true ∧ (True) ∧ ((Option.isNone t3.2.2.2) = true ∧ (((t8 == (2 : Int)) = true → (True) ∧ ((t8 == (2 : Int)) = true ∧ (∃ t10 : Int, (Fun cfg 9 [.agg [.c (.sc (.int .u32 t2.1)), .c (.sc (.int .u32 t2.2.1)), .row 32 (.int .u32) t2.2.2.1]] [] (sig_Next.R t10) [] ∧ True) ∧ ((t8 == (2 : Int)) = true ∧ (True) ∧ ((t8 == (2 : Int)) = true ∧ (((t10 == (9 : Int)) = true → (True) ∧ ((t10 == (9 : Int)) = true ∧ (∃ t12 : Int × Int × (List Int), (Fun cfg 10 [.agg [.c (.sc (.int .u32 t2.1)), .c (.sc (.int .u32 t2.2.1)), .row 32 (.int .u32) t2.2.2.1], .one (.sc (.int .i64 (9 : Int)))] [] (sig_Take.R t12) [] ∧ True) ∧ ((t10 == (9 : Int)) = true ∧ (∃ t13 : Int, (Fun cfg 9 [.agg [.c (.sc (.int .u32 t12.1)), .c (.sc (.int .u32 t12.2.1)), .row 32 (.int .u32) t12.2.2]] [] (sig_Next.R t13) [] ∧ True) ∧ ((t10 == (9 : Int)) = true ∧ (True) ∧ ((t10 == (9 : Int)) = true ∧ (((t13 == (2 : Int)) = true → (True) ∧ ((t13 == (2 : Int)) = true ∧ (∃ t15 : Int, (Fun cfg 13 [.agg [.c (.sc (.int .u32 t3.1)), .c (.sc (.int .u32 t3.2.1)), .row 32 (.int .u32) t3.2.2.1], .one (.sc (.int .i64 (2 : Int)))] [] (sig_What.R t15) [] ∧ True) ∧ ((t13 == (2 : Int)) = true ∧ (True) ∧ ((t13 == (2 : Int)) = true ∧ (((t15 == (4 : Int)) = true → ((t15 == (4 : Int)) = true ∧ (∃ t17 : Int, (Fun cfg 22 [.one (.err t4.2.2.2)] [] (num.R t17) [] ∧ True) ∧ ((t15 == (4 : Int)) = true ∧ (True) ∧ ((t15 == (4 : Int)) = true ∧ (((t17 == (22 : Int)) = true → (True) ∧ ((t17 == (22 : Int)) = true ∧ (∃ t19 : Int, (Fun cfg 13 [.agg [.c (.sc (.int .u32 t1.1)), .c (.sc (.int .u32 t1.2.1)), .row 32 (.int .u32) t1.2.2.1], .one (.sc (.int .i64 (17 : Int)))] [] (sig_What.R t19) [] ∧ True) ∧ ((t17 == (22 : Int)) = true ∧ (True) ∧ ((t17 == (22 : Int)) = true ∧ (True ∧ ((True) ∧ ((True) ∧ True) ∧ (.v (.one (.sc (.bool (t19 == (0 : Int))))) : Tm) = halterlaw25_sure.R r ∧ ([] : List Box) = []))))))) ∧ ((t17 == (22 : Int)) = false → ((t17 == (22 : Int)) = false ∧ ((t17 == (22 : Int)) = false ∧ ((t17 == (22 : Int)) = false ∧ (True ∧ ((True) ∧ ((True) ∧ True) ∧ (.v (.one (.sc (.bool false))) : Tm) = halterlaw25_sure.R r ∧ ([] : List Box) = [])))))))))))) ∧ ((t15 == (4 : Int)) = false → ((t15 == (4 : Int)) = false ∧ ((t15 == (4 : Int)) = false ∧ ((t15 == (4 : Int)) = false ∧ (false = false ∧ (false = false ∧ (false = false ∧ (false = false ∧ (True ∧ ((True) ∧ ((True) ∧ True) ∧ (.v (.one (.sc (.bool false))) : Tm) = halterlaw25_sure.R r ∧ ([] : List Box) = [])))))))))))))))) ∧ ((t13 == (2 : Int)) = false → ((t13 == (2 : Int)) = false ∧ ((t13 == (2 : Int)) = false ∧ ((t13 == (2 : Int)) = false ∧ (false = false ∧ (false = false ∧ (false = false ∧ (false = false ∧ (false = false ∧ (false = false ∧ (false = false ∧ (false = false ∧ (True ∧ ((True) ∧ ((True) ∧ True) ∧ (.v (.one (.sc (.bool false))) : Tm) = halterlaw25_sure.R r ∧ ([] : List Box) = [])))))))))))))))))))))) ∧ ((t10 == (9 : Int)) = false → ((t10 == (9 : Int)) = false ∧ ((t10 == (9 : Int)) = false ∧ ((t10 == (9 : Int)) = false ∧ ((t10 == (9 : Int)) = false ∧ (false = false ∧ (false = false ∧ (false = false ∧ (false = false ∧ (false = false ∧ (false = false ∧ (false = false ∧ (false = false ∧ (false = false ∧ (false = false ∧ (false = false ∧ (false = false ∧ (True ∧ ((True) ∧ ((True) ∧ True) ∧ (.v (.one (.sc (.bool false))) : Tm) = halterlaw25_sure.R r ∧ ([] : List Box) = []))))))))))))))))))))))))) ∧ ((t8 == (2 : Int)) = false → ((t8 == (2 : Int)) = false ∧ ((t8 == (2 : Int)) = false ∧ ((t8 == (2 : Int)) = false ∧ (false = false ∧ (false = false ∧ (false = false ∧ (false = false ∧ (false = false ∧ (false = false ∧ (false = false ∧ (false = false ∧ (false = false ∧ (false = false ∧ (false = false ∧ (false = false ∧ (false = false ∧ (false = false ∧ (false = false ∧ (false = false ∧ (false = false ∧ (True ∧ ((True) ∧ ((True) ∧ True) ∧ (.v (.one (.sc (.bool false))) : Tm) = halterlaw25_sure.R r ∧ ([] : List Box) = []))))))))))))))))))))))))))))) ∧ ((Option.isNone t3.2.2.2) = false → ((Option.isNone t3.2.2.2) = false ∧ ((Option.isNone t3.2.2.2) = false ∧ ((Option.isNone t3.2.2.2) = false ∧ (false = false ∧ (false = false ∧ (false = false ∧ (false = false ∧ (false = false ∧ (false = false ∧ (false = false ∧ (false = false ∧ (false = false ∧ (false = false ∧ (false = false ∧ (false = false ∧ (false = false ∧ (false = false ∧ (false = false ∧ (false = false ∧ (false = false ∧ (false = false ∧ (false = false ∧ (false = false ∧ (false = false ∧ (True ∧ ((True) ∧ ((True) ∧ True) ∧ (.v (.one (.sc (.bool false))) : Tm) = halterlaw25_sure.R r ∧ ([] : List Box) = []))))))))))))))))))))))))))))))) ∧ ((Option.isNone t2.2.2.2) = false → ((Option.isNone t2.2.2.2) = false ∧ ((Option.isNone t2.2.2.2) = false ∧ (false = false ∧ (false = false ∧ (false = false ∧ (false = false ∧ (false = false ∧ (false = false ∧ (false = false ∧ (false = false ∧ (false = false ∧ (false = false ∧ (false = false ∧ (false = false ∧ (false = false ∧ (false = false ∧ (false = false ∧ (false = false ∧ (false = false ∧ (false = false ∧ (false = false ∧ (false = false ∧ (false = false ∧ (false = false ∧ (false = false ∧ (false = false ∧ (false = false ∧ (True ∧ ((True) ∧ ((True) ∧ True) ∧ (.v (.one (.sc (.bool false))) : Tm) = halterlaw25_sure.R r ∧ ([] : List Box) = [])))))))))))))))))))))))))))))))))) ∧ ((Option.isNone t1.2.2.2) = false → ((Option.isNone t1.2.2.2) = false ∧ ((Option.isNone t1.2.2.2) = false ∧ (false = false ∧ (false = false ∧ (false = false ∧ (false = false ∧ (false = false ∧ (false = false ∧ (false = false ∧ (false = false ∧ (false = false ∧ (false = false ∧ (false = false ∧ (false = false ∧ (false = false ∧ (false = false ∧ (false = false ∧ (false = false ∧ (false = false ∧ (false = false ∧ (false = false ∧ (false = false ∧ (false = false ∧ (false = false ∧ (false = false ∧ (false = false ∧ (false = false ∧ (false = false ∧ (false = false ∧ (false = false ∧ (True ∧ ((True) ∧ ((True) ∧ True) ∧ (.v (.one (.sc (.bool false))) : Tm) = halterlaw25_sure.R r ∧ ([] : List Box) = []))))))))))))))))))))))))))))))))))))))) (by kernel_rfl) ?_)
  obtain ⟨t1, ht1, h⟩ := of_bind h
  refine ⟨t1, ⟨sig_Post.fun_ ht1, trivial⟩, ?_⟩
  refine ⟨trivial, ?_⟩
  refine ⟨trivial, ?_⟩
  obtain ⟨t2, ht2, h⟩ := of_bind h
  refine ⟨t2, ⟨sig_Post.fun_ ht2, trivial⟩, ?_⟩
  refine ⟨trivial, ?_⟩
  obtain ⟨t3, ht3, h⟩ := of_bind h
  refine ⟨t3, ⟨sig_Act.fun_ ht3, trivial⟩, ?_⟩
  refine ⟨trivial, ?_⟩
  obtain ⟨t4, ht4, h⟩ := of_bind h
  refine ⟨t4, ⟨sig_Act.fun_ ht4, trivial⟩, ?_⟩
  refine ⟨trivial, ?_⟩
  refine ⟨trivial, ?_⟩
  refine ⟨fun b5 => ?_, fun b5 => ?_⟩
  · rw [if_pos (none_t b5)] at h
    refine ⟨b5, ?_⟩
    refine ⟨trivial, ?_⟩
    refine ⟨b5, ?_⟩
    refine ⟨fun b6 => ?_, fun b6 => ?_⟩
    · rw [if_pos (none_t b6)] at h
      refine ⟨b6, ?_⟩
      refine ⟨trivial, ?_⟩
      refine ⟨b6, ?_⟩
      refine ⟨fun b7 => ?_, fun b7 => ?_⟩
      · rw [if_pos (none_t b7)] at h
        refine ⟨trivial, ?_⟩
        refine ⟨b7, ?_⟩
        obtain ⟨t8, ht8, h⟩ := of_bind h
        refine ⟨t8, ⟨sig_Next.fun_ ht8, trivial⟩, ?_⟩
        refine ⟨b7, ?_⟩
        refine ⟨trivial, ?_⟩
        refine ⟨b7, ?_⟩
        refine ⟨fun b9 => ?_, fun b9 => ?_⟩
        · rw [if_pos (beq_t b9)] at h
          refine ⟨trivial, ?_⟩
          refine ⟨b9, ?_⟩
          obtain ⟨t10, ht10, h⟩ := of_bind h
          refine ⟨t10, ⟨sig_Next.fun_ ht10, trivial⟩, ?_⟩
          refine ⟨b9, ?_⟩
          refine ⟨trivial, ?_⟩
          refine ⟨b9, ?_⟩
          refine ⟨fun b11 => ?_, fun b11 => ?_⟩
          · rw [if_pos (beq_t b11)] at h
            refine ⟨trivial, ?_⟩
            refine ⟨b11, ?_⟩
            obtain ⟨t12, ht12, h⟩ := of_bind h
            refine ⟨t12, ⟨sig_Take.fun_ ht12, trivial⟩, ?_⟩
            refine ⟨b11, ?_⟩
            obtain ⟨t13, ht13, h⟩ := of_bind h
            refine ⟨t13, ⟨sig_Next.fun_ ht13, trivial⟩, ?_⟩
            refine ⟨b11, ?_⟩
            refine ⟨trivial, ?_⟩
            refine ⟨b11, ?_⟩
            refine ⟨fun b14 => ?_, fun b14 => ?_⟩
            · rw [if_pos (beq_t b14)] at h
              refine ⟨trivial, ?_⟩
              refine ⟨b14, ?_⟩
              obtain ⟨t15, ht15, h⟩ := of_bind h
              refine ⟨t15, ⟨sig_What.fun_ ht15, trivial⟩, ?_⟩
              refine ⟨b14, ?_⟩
              refine ⟨trivial, ?_⟩
              refine ⟨b14, ?_⟩
              refine ⟨fun b16 => ?_, fun b16 => ?_⟩
              · rw [if_pos (beq_t b16)] at h
                refine ⟨b16, ?_⟩
                obtain ⟨t17, ht17, h⟩ := of_bind h
                refine ⟨t17, ⟨num.fun_ ht17, trivial⟩, ?_⟩
                refine ⟨b16, ?_⟩
                refine ⟨trivial, ?_⟩
                refine ⟨b16, ?_⟩
                refine ⟨fun b18 => ?_, fun b18 => ?_⟩
                · rw [if_pos (beq_t b18)] at h
                  refine ⟨trivial, ?_⟩
                  refine ⟨b18, ?_⟩
                  obtain ⟨t19, ht19, h⟩ := of_bind h
                  refine ⟨t19, ⟨sig_What.fun_ ht19, trivial⟩, ?_⟩
                  refine ⟨b18, ?_⟩
                  refine ⟨trivial, ?_⟩
                  refine ⟨b18, ?_⟩
                  refine ⟨trivial, ?_⟩
                  obtain rfl := Option.some.inj h
                  exact ⟨trivial, ⟨trivial, trivial⟩, rfl, rfl⟩
                · rw [if_neg (beq_f b18)] at h
                  refine ⟨b18, ?_⟩
                  refine ⟨b18, ?_⟩
                  refine ⟨b18, ?_⟩
                  refine ⟨trivial, ?_⟩
                  obtain rfl := Option.some.inj h
                  exact ⟨trivial, ⟨trivial, trivial⟩, rfl, rfl⟩
              · rw [if_neg (beq_f b16)] at h
                refine ⟨b16, ?_⟩
                refine ⟨b16, ?_⟩
                refine ⟨b16, ?_⟩
                refine ⟨rfl, ?_⟩
                refine ⟨rfl, ?_⟩
                refine ⟨rfl, ?_⟩
                refine ⟨rfl, ?_⟩
                refine ⟨trivial, ?_⟩
                obtain rfl := Option.some.inj h
                exact ⟨trivial, ⟨trivial, trivial⟩, rfl, rfl⟩
            · rw [if_neg (beq_f b14)] at h
              refine ⟨b14, ?_⟩
              refine ⟨b14, ?_⟩
              refine ⟨b14, ?_⟩
              refine ⟨rfl, ?_⟩
              refine ⟨rfl, ?_⟩
              refine ⟨rfl, ?_⟩
              refine ⟨rfl, ?_⟩
              refine ⟨rfl, ?_⟩
              refine ⟨rfl, ?_⟩
              refine ⟨rfl, ?_⟩
              refine ⟨rfl, ?_⟩
              refine ⟨trivial, ?_⟩
              obtain rfl := Option.some.inj h
              exact ⟨trivial, ⟨trivial, trivial⟩, rfl, rfl⟩
          · rw [if_neg (beq_f b11)] at h
            refine ⟨b11, ?_⟩
            refine ⟨b11, ?_⟩
            refine ⟨b11, ?_⟩
            refine ⟨b11, ?_⟩
            refine ⟨rfl, ?_⟩
            refine ⟨rfl, ?_⟩
            refine ⟨rfl, ?_⟩
            refine ⟨rfl, ?_⟩
            refine ⟨rfl, ?_⟩
            refine ⟨rfl, ?_⟩
            refine ⟨rfl, ?_⟩
            refine ⟨rfl, ?_⟩
            refine ⟨rfl, ?_⟩
            refine ⟨rfl, ?_⟩
            refine ⟨rfl, ?_⟩
            refine ⟨rfl, ?_⟩
            refine ⟨trivial, ?_⟩
            obtain rfl := Option.some.inj h
            exact ⟨trivial, ⟨trivial, trivial⟩, rfl, rfl⟩
        · rw [if_neg (beq_f b9)] at h
          refine ⟨b9, ?_⟩
          refine ⟨b9, ?_⟩
          refine ⟨b9, ?_⟩
          refine ⟨rfl, ?_⟩
          refine ⟨rfl, ?_⟩
          refine ⟨rfl, ?_⟩
          refine ⟨rfl, ?_⟩
          refine ⟨rfl, ?_⟩
          refine ⟨rfl, ?_⟩
          refine ⟨rfl, ?_⟩
          refine ⟨rfl, ?_⟩
          refine ⟨rfl, ?_⟩
          refine ⟨rfl, ?_⟩
          refine ⟨rfl, ?_⟩
          refine ⟨rfl, ?_⟩
          refine ⟨rfl, ?_⟩
          refine ⟨rfl, ?_⟩
          refine ⟨rfl, ?_⟩
          refine ⟨rfl, ?_⟩
          refine ⟨rfl, ?_⟩
          refine ⟨trivial, ?_⟩
          obtain rfl := Option.some.inj h
          exact ⟨trivial, ⟨trivial, trivial⟩, rfl, rfl⟩
      · rw [if_neg (none_f b7)] at h
        refine ⟨b7, ?_⟩
        refine ⟨b7, ?_⟩
        refine ⟨b7, ?_⟩
        refine ⟨rfl, ?_⟩
        refine ⟨rfl, ?_⟩
        refine ⟨rfl, ?_⟩
        refine ⟨rfl, ?_⟩
        refine ⟨rfl, ?_⟩
        refine ⟨rfl, ?_⟩
        refine ⟨rfl, ?_⟩
        refine ⟨rfl, ?_⟩
        refine ⟨rfl, ?_⟩
        refine ⟨rfl, ?_⟩
        refine ⟨rfl, ?_⟩
        refine ⟨rfl, ?_⟩
        refine ⟨rfl, ?_⟩
        refine ⟨rfl, ?_⟩
        refine ⟨rfl, ?_⟩
        refine ⟨rfl, ?_⟩
        refine ⟨rfl, ?_⟩
        refine ⟨rfl, ?_⟩
        refine ⟨rfl, ?_⟩
        refine ⟨rfl, ?_⟩
        refine ⟨rfl, ?_⟩
        refine ⟨trivial, ?_⟩
        obtain rfl := Option.some.inj h
        exact ⟨trivial, ⟨trivial, trivial⟩, rfl, rfl⟩
    · rw [if_neg (none_f b6)] at h
      refine ⟨b6, ?_⟩
      refine ⟨b6, ?_⟩
      refine ⟨rfl, ?_⟩
      refine ⟨rfl, ?_⟩
      refine ⟨rfl, ?_⟩
      refine ⟨rfl, ?_⟩
      refine ⟨rfl, ?_⟩
      refine ⟨rfl, ?_⟩
      refine ⟨rfl, ?_⟩
      refine ⟨rfl, ?_⟩
      refine ⟨rfl, ?_⟩
      refine ⟨rfl, ?_⟩
      refine ⟨rfl, ?_⟩
      refine ⟨rfl, ?_⟩
      refine ⟨rfl, ?_⟩
      refine ⟨rfl, ?_⟩
      refine ⟨rfl, ?_⟩
      refine ⟨rfl, ?_⟩
      refine ⟨rfl, ?_⟩
      refine ⟨rfl, ?_⟩
      refine ⟨rfl, ?_⟩
      refine ⟨rfl, ?_⟩
      refine ⟨rfl, ?_⟩
      refine ⟨rfl, ?_⟩
      refine ⟨rfl, ?_⟩
      refine ⟨rfl, ?_⟩
      refine ⟨rfl, ?_⟩
      refine ⟨trivial, ?_⟩
      obtain rfl := Option.some.inj h
      exact ⟨trivial, ⟨trivial, trivial⟩, rfl, rfl⟩
  · rw [if_neg (none_f b5)] at h
    refine ⟨b5, ?_⟩
    refine ⟨b5, ?_⟩
    refine ⟨rfl, ?_⟩
    refine ⟨rfl, ?_⟩
    refine ⟨rfl, ?_⟩
    refine ⟨rfl, ?_⟩
    refine ⟨rfl, ?_⟩
    refine ⟨rfl, ?_⟩
    refine ⟨rfl, ?_⟩
    refine ⟨rfl, ?_⟩
    refine ⟨rfl, ?_⟩
    refine ⟨rfl, ?_⟩
    refine ⟨rfl, ?_⟩
    refine ⟨rfl, ?_⟩
    refine ⟨rfl, ?_⟩
    refine ⟨rfl, ?_⟩
    refine ⟨rfl, ?_⟩
    refine ⟨rfl, ?_⟩
    refine ⟨rfl, ?_⟩
    refine ⟨rfl, ?_⟩
    refine ⟨rfl, ?_⟩
    refine ⟨rfl, ?_⟩
    refine ⟨rfl, ?_⟩
    refine ⟨rfl, ?_⟩
    refine ⟨rfl, ?_⟩
    refine ⟨rfl, ?_⟩
    refine ⟨rfl, ?_⟩
    refine ⟨rfl, ?_⟩
    refine ⟨rfl, ?_⟩
    refine ⟨rfl, ?_⟩
    refine ⟨trivial, ?_⟩
    obtain rfl := Option.some.inj h
    exact ⟨trivial, ⟨trivial, trivial⟩, rfl, rfl⟩
/-! halter/halterlaw25.SigOrder -/
def halterlaw25_SigOrder.l0 (a0 : (List Int)) : Nat → Int → Int → (List Int) → Int → Option ((Int × Int × (List Int)) ⊕ (Int × Int × (List Int)))
  | 0, _, _, _, _ => none
  | n + 1, x10, x11, x12, x13 =>
    if x13 < (((List.length a0) : Nat) : Int) then
      if 0 ≤ x13 ∧ x13 < (((List.length a0) : Nat) : Int) then
        (sig_Post.f x10 x11 x12 (IntKind.wrap .i64 ((1 : Int) + (IntKind.wrap .i64 ((Int.tmod (IntKind.wrap .u64 ((List.getD a0 (Int.toNat x13) (0 : Int)))) (31 : Int))))))).bind fun t27 =>
        if ¬ (t27.2.2.2 = none) then
          some (.inr (x10, x11, x12))
        else
          halterlaw25_SigOrder.l0 a0 n t27.1 t27.2.1 t27.2.2.1 (IntKind.wrap .i64 (x13 + (1 : Int)))
      else none
    else
      some (.inl (x10, x11, x12))
def halterlaw25_SigOrder.l0_S (a0 : (List Int)) (x10 : Int) (x11 : Int) (x12 : List Int) (x13 : Int) : St := ⟨[.v (.one (.fs (.int .i64) a0 false)), .any, .any, .any, .any, .v (.one (.ptr 0 ⟨0, 0, 0, 0⟩)), .any, .v (.one (.sc (.int .i64 x13))), .any, .any, .any, .any, .any, .any, .any, .any, .any, .any, .any, .any, .any, .any, .any, .any, .any, .any, .any, .any, .any, .any, .any, .any, .any, .any, .any, .any, .any, .any, .any, .any, .any, .any, .any, .any, .any, .any, .any, .any, .any, .any, .any, .any, .any, .any, .any, .any, .any, .any, .any, .any, .any, .any, .any, .any, .any, .any, .any, .any, .any, .any, .any, .any, .any, .any, .any, .any, .any, .any, .any, .any, .any, .any, .any, .any, .any, .any, .any, .any, .any, .any, .any, .any, .any, .any, .any, .any, .any, .any, .any, .any, .any, .any, .any, .any, .any, .any, .any, .any, .any, .any, .any, .any, .any, .any, .any, .any, .any, .any, .any, .any, .any, .any, .any], [.ex false [.c (.sc (.int .u32 x10)), .c (.sc (.int .u32 x11)), .row 32 (.int .u32) x12] 27], 0⟩
def halterlaw25_SigOrder.l0_Q (a0 : (List Int)) : (Int × Int × (List Int)) ⊕ (Int × Int × (List Int)) → Exit → St → Prop
  | .inl t => fun e s => e = (.exit 0) ∧ s = ⟨[.any, .any, .any, .any, .any, .v (.one (.ptr 0 ⟨0, 0, 0, 0⟩)), .any, .any, .any, .any, .any, .any, .any, .any, .any, .any, .any, .any, .any, .any, .any, .any, .any, .any, .any, .any, .any, .any, .any, .any, .any, .any, .any, .any, .any, .any, .any, .any, .any, .any, .any, .any, .any, .any, .any, .any, .any, .any, .any, .any, .any, .any, .any, .any, .any, .any, .any, .any, .any, .any, .any, .any, .any, .any, .any, .any, .any, .any, .any, .any, .any, .any, .any, .any, .any, .any, .any, .any, .any, .any, .any, .any, .any, .any, .any, .any, .any, .any, .any, .any, .any, .any, .any, .any, .any, .any, .any, .any, .any, .any, .any, .any, .any, .any, .any, .any, .any, .any, .any, .any, .any, .any, .any, .any, .any, .any, .any, .any, .any, .any, .any, .any, .any], [.ex false [.c (.sc (.int .u32 t.1)), .c (.sc (.int .u32 t.2.1)), .row 32 (.int .u32) t.2.2] 27], 0⟩
  | .inr t => fun e s => e = .ret ∧ s = ⟨[.any, .any, .any, .any, .v (.one (.sc (.bool false))), .any, .any, .any, .any, .any, .any, .any, .any, .any, .any, .any, .any, .any, .any, .any, .any, .any, .any, .any, .any, .any, .any, .any, .any, .any, .any, .any, .any, .any, .any, .any, .any, .any, .any, .any, .any, .any, .any, .any, .any, .any, .any, .any, .any, .any, .any, .any, .any, .any, .any, .any, .any, .any, .any, .any, .any, .any, .any, .any, .any, .any, .any, .any, .any, .any, .any, .any, .any, .any, .any, .any, .any, .any, .any, .any, .any, .any, .any, .any, .any, .any, .any, .any, .any, .any, .any, .any, .any, .any, .any, .any, .any, .any, .any, .any, .any, .any, .any, .any, .any, .any, .any, .any, .any, .any, .any, .any, .any, .any, .any, .any, .any, .any, .any, .any, .any, .any, .any], [.ex false [.c (.sc (.int .u32 t.1)), .c (.sc (.int .u32 t.2.1)), .row 32 (.int .u32) t.2.2] 27], 0⟩
theorem halterlaw25_SigOrder.l0_ok (a0 : (List Int)) : ∀ (n : Nat) (x10 : Int) (x11 : Int) (x12 : List Int) (x13 : Int) (r : (Int × Int × (List Int)) ⊕ (Int × Int × (List Int))), halterlaw25_SigOrder.l0 a0 n x10 x11 x12 x13 = some r → TripN cfg (cpath (Tryd.f3.body.getD .skip) [1, 1, 1, 0, 1, 0, 0]) n (halterlaw25_SigOrder.l0_S a0 x10 x11 x12 x13) (halterlaw25_SigOrder.l0_Q a0 r) := by
  intro n
  induction n with
  | zero => intro x10 x11 x12 x13 r h; cases h
  | succ n ih =>
    intro x10 x11 x12 x13 r h
    rw [halterlaw25_SigOrder.l0] at h
    refine TripN.of_run cfg_ok (k := (.br (.ex (Int × Int × (List Int) × (Option Int)) (fun t27 => (.dr [(1, ⟨none, .no⟩), (2, ⟨none, .no⟩), (3, ⟨none, .no⟩), (0, ⟨none, .no⟩), (4, ⟨none, .no⟩), (5, ⟨none, .no⟩), (6, ⟨none, .no⟩), (7, ⟨none, .no⟩), (8, ⟨none, .no⟩), (9, ⟨none, .callP true [] (sig_Post.R t27)⟩), (10, ⟨none, .no⟩), (11, ⟨none, .no⟩), (12, ⟨none, .no⟩), (13, ⟨none, .no⟩), (14, ⟨none, .no⟩), (15, ⟨none, .no⟩)] (.br (.adj [] (.adj [.keep [4], .drop 1] .nil)) (.adj [] (.adj [] (.adj [] (.adj [.keep [0, 5, 7], .drop 1] .nil)))))))) (.adj [.keep [5], .drop 1] .nil))) (to_goal (q := (True) ∧ (True) ∧ (((decide (x13 < (((List.length a0) : Nat) : Int))) = true → (∃ t27 : Int × Int × (List Int) × (Option Int), (0 ≤ x13 ∧ x13 < (((List.length a0) : Nat) : Int)) ∧ (True) ∧ (True) ∧ (True) ∧ ((31 : Int) ≠ 0) ∧ (True) ∧ (True) ∧ (Fun cfg 8 [.agg [.c (.sc (.int .u32 x10)), .c (.sc (.int .u32 x11)), .row 32 (.int .u32) x12], .one (.sc (.int .i64 (IntKind.wrap .i64 ((1 : Int) + (IntKind.wrap .i64 ((Int.tmod (IntKind.wrap .u64 ((List.getD a0 (Int.toNat x13) (0 : Int)))) (31 : Int))))))))] [] (sig_Post.R t27) [] ∧ True) ∧ (True) ∧ (True) ∧ (((!(Option.isNone t27.2.2.2)) = true → (True ∧ (((True) ∧ (True) ∧ True) ∧ halterlaw25_SigOrder.l0_Q a0 r .ret ⟨[.any, .any, .any, .any, .v (.one (.sc (.bool false))), .any, .any, .any, .any, .any, .any, .any, .any, .any, .any, .any, .any, .any, .any, .any, .any, .any, .any, .any, .any, .any, .any, .any, .any, .any, .any, .any, .any, .any, .any, .any, .any, .any, .any, .any, .any, .any, .any, .any, .any, .any, .any, .any, .any, .any, .any, .any, .any, .any, .any, .any, .any, .any, .any, .any, .any, .any, .any, .any, .any, .any, .any, .any, .any, .any, .any, .any, .any, .any, .any, .any, .any, .any, .any, .any, .any, .any, .any, .any, .any, .any, .any, .any, .any, .any, .any, .any, .any, .any, .any, .any, .any, .any, .any, .any, .any, .any, .any, .any, .any, .any, .any, .any, .any, .any, .any, .any, .any, .any, .any, .any, .any, .any, .any, .any, .any, .any, .any], [.ex false [.c (.sc (.int .u32 x10)), .c (.sc (.int .u32 x11)), .row 32 (.int .u32) x12] 27], 0⟩))) ∧ ((!(Option.isNone t27.2.2.2)) = false → (True ∧ (True ∧ (True) ∧ (True) ∧ (True ∧ (True) ∧ (((True) ∧ (True) ∧ True) ∧ TripN cfg (cpath (Tryd.f3.body.getD .skip) [1, 1, 1, 0, 1, 0, 0]) n (halterlaw25_SigOrder.l0_S a0 t27.1 t27.2.1 t27.2.2.1 (IntKind.wrap .i64 (x13 + (1 : Int)))) (halterlaw25_SigOrder.l0_Q a0 r))))))))) ∧ ((decide (x13 < (((List.length a0) : Nat) : Int))) = false → (((True) ∧ (True) ∧ True) ∧ halterlaw25_SigOrder.l0_Q a0 r (.exit 0) ⟨[.any, .any, .any, .any, .any, .v (.one (.ptr 0 ⟨0, 0, 0, 0⟩)), .any, .any, .any, .any, .any, .any, .any, .any, .any, .any, .any, .any, .any, .any, .any, .any, .any, .any, .any, .any, .any, .any, .any, .any, .any, .any, .any, .any, .any, .any, .any, .any, .any, .any, .any, .any, .any, .any, .any, .any, .any, .any, .any, .any, .any, .any, .any, .any, .any, .any, .any, .any, .any, .any, .any, .any, .any, .any, .any, .any, .any, .any, .any, .any, .any, .any, .any, .any, .any, .any, .any, .any, .any, .any, .any, .any, .any, .any, .any, .any, .any, .any, .any, .any, .any, .any, .any, .any, .any, .any, .any, .any, .any, .any, .any, .any, .any, .any, .any, .any, .any, .any, .any, .any, .any, .any, .any, .any, .any, .any, .any, .any, .any, .any, .any, .any, .any], [.ex false [.c (.sc (.int .u32 x10)), .c (.sc (.int .u32 x11)), .row 32 (.int .u32) x12] 27], 0⟩)))) (by kernel_rfl) ?_)
    refine ⟨trivial, ?_⟩
    refine ⟨trivial, ?_⟩
    refine ⟨fun b25 => ?_, fun b25 => ?_⟩
    · rw [if_pos (of_decide_eq_true b25)] at h
      obtain ⟨g26, h⟩ := of_guard h
      obtain ⟨t27, ht27, h⟩ := of_bind h
      refine ⟨t27, ?_⟩
      refine ⟨g26, trivial, trivial, trivial, (by decide), trivial, trivial, ⟨sig_Post.fun_ ht27, trivial⟩, trivial, ?_⟩
      refine ⟨trivial, ?_⟩
      refine ⟨fun b28 => ?_, fun b28 => ?_⟩
      · rw [if_pos (none_f (not_t b28))] at h
        refine ⟨trivial, ?_⟩
        obtain rfl := Option.some.inj h
        exact ⟨⟨trivial, trivial, trivial⟩, rfl, rfl⟩
      · rw [if_neg (not_not_intro (none_t (not_f b28)))] at h
        refine ⟨trivial, ?_⟩
        refine ⟨trivial, ?_⟩
        refine ⟨trivial, ?_⟩
        refine ⟨trivial, ?_⟩
        refine ⟨trivial, ?_⟩
        refine ⟨trivial, ?_⟩
        exact ⟨⟨trivial, trivial, trivial⟩, ih t27.1 t27.2.1 t27.2.2.1 (IntKind.wrap .i64 (x13 + (1 : Int))) r h⟩
    · rw [if_neg (of_decide_eq_false b25)] at h
      obtain rfl := Option.some.inj h
      exact ⟨⟨trivial, trivial, trivial⟩, rfl, rfl⟩
def halterlaw25_SigOrder.l1 : Nat → Int → Int → (List Int) → Int → Bool → Int → Option ((Int × Int × (List Int)) ⊕ (Int × Int × (List Int)))
  | 0, _, _, _, _, _, _ => none
  | n + 1, x82, x83, x84, x85, x86, x87 =>
    if x87 < (40 : Int) then
      (sig_Next.f x82 x83 x84).bind fun t136 =>
      if t136 = (0 : Int) then
        some (.inl (x82, x83, x84))
      else
        (sig_Take.f x82 x83 x84 t136).bind fun t138 =>
        if t136 = (9 : Int) then
          if ¬ (x86 = true) then
            if ¬ t136 = (19 : Int) then
              some (.inr (x82, x83, x84))
            else
              if ¬ x85 = (9 : Int) then
                some (.inr (x82, x83, x84))
              else
                (sigset_Has.f t138.1 t136).bind fun t143 =>
                if t143 = true then
                  some (.inr (x82, x83, x84))
                else
                  halterlaw25_SigOrder.l1 n t138.1 t138.2.1 t138.2.2 t136 false (IntKind.wrap .i64 (x87 + (1 : Int)))
          else
            (sigset_Has.f t138.1 t136).bind fun t145 =>
            if t145 = true then
              some (.inr (x82, x83, x84))
            else
              halterlaw25_SigOrder.l1 n t138.1 t138.2.1 t138.2.2 t136 false (IntKind.wrap .i64 (x87 + (1 : Int)))
        else
          if t136 = (19 : Int) then
            if ¬ (x86 = true) then
              if ¬ t136 = (19 : Int) then
                some (.inr (x82, x83, x84))
              else
                if ¬ x85 = (9 : Int) then
                  some (.inr (x82, x83, x84))
                else
                  (sigset_Has.f t138.1 t136).bind fun t151 =>
                  if t151 = true then
                    some (.inr (x82, x83, x84))
                  else
                    halterlaw25_SigOrder.l1 n t138.1 t138.2.1 t138.2.2 t136 false (IntKind.wrap .i64 (x87 + (1 : Int)))
            else
              (sigset_Has.f t138.1 t136).bind fun t153 =>
              if t153 = true then
                some (.inr (x82, x83, x84))
              else
                halterlaw25_SigOrder.l1 n t138.1 t138.2.1 t138.2.2 t136 false (IntKind.wrap .i64 (x87 + (1 : Int)))
          else
            if ¬ (x86 = true) then
              if ¬ x85 = (9 : Int) then
                if ¬ x85 = (19 : Int) then
                  if t136 ≤ x85 then
                    some (.inr (x82, x83, x84))
                  else
                    (sigset_Has.f x83 t136).bind fun t159 =>
                    if t159 = true then
                      some (.inr (x82, x83, x84))
                    else
                      (sigset_Has.f t138.1 t136).bind fun t161 =>
                      if t161 = true then
                        some (.inr (x82, x83, x84))
                      else
                        halterlaw25_SigOrder.l1 n t138.1 t138.2.1 t138.2.2 t136 false (IntKind.wrap .i64 (x87 + (1 : Int)))
                else
                  (sigset_Has.f x83 t136).bind fun t163 =>
                  if t163 = true then
                    some (.inr (x82, x83, x84))
                  else
                    (sigset_Has.f t138.1 t136).bind fun t165 =>
                    if t165 = true then
                      some (.inr (x82, x83, x84))
                    else
                      halterlaw25_SigOrder.l1 n t138.1 t138.2.1 t138.2.2 t136 false (IntKind.wrap .i64 (x87 + (1 : Int)))
              else
                (sigset_Has.f x83 t136).bind fun t167 =>
                if t167 = true then
                  some (.inr (x82, x83, x84))
                else
                  (sigset_Has.f t138.1 t136).bind fun t169 =>
                  if t169 = true then
                    some (.inr (x82, x83, x84))
                  else
                    halterlaw25_SigOrder.l1 n t138.1 t138.2.1 t138.2.2 t136 false (IntKind.wrap .i64 (x87 + (1 : Int)))
            else
              (sigset_Has.f x83 t136).bind fun t171 =>
              if t171 = true then
                some (.inr (x82, x83, x84))
              else
                (sigset_Has.f t138.1 t136).bind fun t173 =>
                if t173 = true then
                  some (.inr (x82, x83, x84))
                else
                  halterlaw25_SigOrder.l1 n t138.1 t138.2.1 t138.2.2 t136 false (IntKind.wrap .i64 (x87 + (1 : Int)))
    else
      some (.inl (x82, x83, x84))
def halterlaw25_SigOrder.l1_S (x82 : Int) (x83 : Int) (x84 : List Int) (x85 : Int) (x86 : Bool) (x87 : Int) : St := ⟨[.any, .any, .any, .any, .any, .v (.one (.ptr 0 ⟨0, 0, 0, 0⟩)), .any, .any, .any, .any, .v (.one (.sc (.int .i64 x85))), .v (.one (.sc (.bool x86))), .v (.one (.sc (.int .i64 x87))), .any, .any, .any, .any, .any, .any, .any, .any, .any, .any, .any, .any, .any, .any, .any, .any, .any, .any, .any, .any, .any, .any, .any, .any, .any, .any, .any, .any, .any, .any, .any, .any, .any, .any, .any, .any, .any, .any, .any, .any, .any, .any, .any, .any, .any, .any, .any, .any, .any, .any, .any, .any, .any, .any, .any, .any, .any, .any, .any, .any, .any, .any, .any, .any, .any, .any, .any, .any, .any, .any, .any, .any, .any, .any, .any, .any, .any, .any, .any, .any, .any, .any, .any, .any, .any, .any, .any, .any, .any, .any, .any, .any, .any, .any, .any, .any, .any, .any, .any, .any, .any, .any, .any, .any, .any, .any, .any, .any, .any, .any], [.ex false [.c (.sc (.int .u32 x82)), .c (.sc (.int .u32 x83)), .row 32 (.int .u32) x84] 27], 0⟩
def halterlaw25_SigOrder.l1_Q : (Int × Int × (List Int)) ⊕ (Int × Int × (List Int)) → Exit → St → Prop
  | .inl t => fun e s => e = (.exit 2) ∧ s = ⟨[.any, .any, .any, .any, .any, .v (.one (.ptr 0 ⟨0, 0, 0, 0⟩)), .any, .any, .any, .any, .any, .any, .any, .any, .any, .any, .any, .any, .any, .any, .any, .any, .any, .any, .any, .any, .any, .any, .any, .any, .any, .any, .any, .any, .any, .any, .any, .any, .any, .any, .any, .any, .any, .any, .any, .any, .any, .any, .any, .any, .any, .any, .any, .any, .any, .any, .any, .any, .any, .any, .any, .any, .any, .any, .any, .any, .any, .any, .any, .any, .any, .any, .any, .any, .any, .any, .any, .any, .any, .any, .any, .any, .any, .any, .any, .any, .any, .any, .any, .any, .any, .any, .any, .any, .any, .any, .any, .any, .any, .any, .any, .any, .any, .any, .any, .any, .any, .any, .any, .any, .any, .any, .any, .any, .any, .any, .any, .any, .any, .any, .any, .any, .any], [.ex false [.c (.sc (.int .u32 t.1)), .c (.sc (.int .u32 t.2.1)), .row 32 (.int .u32) t.2.2] 27], 0⟩
  | .inr t => fun e s => e = .ret ∧ s = ⟨[.any, .any, .any, .any, .v (.one (.sc (.bool false))), .any, .any, .any, .any, .any, .any, .any, .any, .any, .any, .any, .any, .any, .any, .any, .any, .any, .any, .any, .any, .any, .any, .any, .any, .any, .any, .any, .any, .any, .any, .any, .any, .any, .any, .any, .any, .any, .any, .any, .any, .any, .any, .any, .any, .any, .any, .any, .any, .any, .any, .any, .any, .any, .any, .any, .any, .any, .any, .any, .any, .any, .any, .any, .any, .any, .any, .any, .any, .any, .any, .any, .any, .any, .any, .any, .any, .any, .any, .any, .any, .any, .any, .any, .any, .any, .any, .any, .any, .any, .any, .any, .any, .any, .any, .any, .any, .any, .any, .any, .any, .any, .any, .any, .any, .any, .any, .any, .any, .any, .any, .any, .any, .any, .any, .any, .any, .any, .any], [.ex false [.c (.sc (.int .u32 t.1)), .c (.sc (.int .u32 t.2.1)), .row 32 (.int .u32) t.2.2] 27], 0⟩
theorem halterlaw25_SigOrder.l1_ok : ∀ (n : Nat) (x82 : Int) (x83 : Int) (x84 : List Int) (x85 : Int) (x86 : Bool) (x87 : Int) (r : (Int × Int × (List Int)) ⊕ (Int × Int × (List Int))), halterlaw25_SigOrder.l1 n x82 x83 x84 x85 x86 x87 = some r → TripN cfg (cpath (Tryd.f3.body.getD .skip) [1, 1, 1, 1, 1, 0, 1, 0, 0]) n (halterlaw25_SigOrder.l1_S x82 x83 x84 x85 x86 x87) (halterlaw25_SigOrder.l1_Q r) := by
  intro n
  induction n with
  | zero => intro x82 x83 x84 x85 x86 x87 r h; cases h
  | succ n ih =>
    intro x82 x83 x84 x85 x86 x87 r h
    rw [halterlaw25_SigOrder.l1] at h
    refine TripN.of_run cfg_ok (k := (.br (.call true [] (Int) (fun t136 => sig_Next.R t136) (fun t136 => (.br (.adj [.keep [5], .drop 1] .nil) (.call true [] (Int × Int × (List Int)) (fun t138 => sig_Take.R t138) (fun t138 => (.br (.one true (.one true (.one true (.br (.one true (.one true (.br (.one true (.one true (.one true (.one true (.one true (.adj [] (.adj [.keep [4], .drop 1] .nil))))))) (.one false (.one true (.one false (.one true (.br (.adj [] (.adj [.keep [4], .drop 1] .nil)) (.call true [] (Bool) (fun t143 => sigset_Has.R t143) (fun t143 => (.br (.adj [] (.adj [.keep [4], .drop 1] .nil)) (.dr [(0, ⟨none, .no⟩), (2, ⟨none, .no⟩), (3, ⟨none, .no⟩), (1, ⟨none, .no⟩), (4, ⟨none, .no⟩)] (.adj [] (.adj [.keep [5, 10, 11, 12], .drop 1] .nil)))))))))))))) (.one false (.one false (.one false (.one false (.one false (.call true [] (Bool) (fun t145 => sigset_Has.R t145) (fun t145 => (.br (.adj [] (.adj [.keep [4], .drop 1] .nil)) (.dr [(0, ⟨none, .no⟩), (2, ⟨none, .no⟩), (3, ⟨none, .no⟩), (1, ⟨none, .no⟩), (4, ⟨none, .no⟩)] (.adj [] (.adj [.keep [5, 10, 11, 12], .drop 1] .nil))))))))))))))) (.one false (.one false (.br (.br (.one true (.one true (.br (.one true (.one true (.one true (.one true (.one true (.adj [] (.adj [.keep [4], .drop 1] .nil))))))) (.one false (.one true (.one false (.one true (.br (.adj [] (.adj [.keep [4], .drop 1] .nil)) (.call true [] (Bool) (fun t151 => sigset_Has.R t151) (fun t151 => (.br (.adj [] (.adj [.keep [4], .drop 1] .nil)) (.dr [(0, ⟨none, .no⟩), (2, ⟨none, .no⟩), (3, ⟨none, .no⟩), (1, ⟨none, .no⟩), (4, ⟨none, .no⟩)] (.adj [] (.adj [.keep [5, 10, 11, 12], .drop 1] .nil)))))))))))))) (.one false (.one false (.one false (.one false (.one false (.call true [] (Bool) (fun t153 => sigset_Has.R t153) (fun t153 => (.br (.adj [] (.adj [.keep [4], .drop 1] .nil)) (.dr [(0, ⟨none, .no⟩), (2, ⟨none, .no⟩), (3, ⟨none, .no⟩), (1, ⟨none, .no⟩), (4, ⟨none, .no⟩)] (.adj [] (.adj [.keep [5, 10, 11, 12], .drop 1] .nil)))))))))))) (.br (.one true (.one true (.br (.one true (.one true (.br (.one true (.one true (.one true (.br (.one true (.one true (.one true (.one true (.one true (.adj [] (.adj [.keep [4], .drop 1] .nil))))))) (.one false (.one false (.one false (.call true [] (Bool) (fun t159 => sigset_Has.R t159) (fun t159 => (.one false (.br (.adj [] (.adj [.keep [4], .drop 1] .nil)) (.call true [] (Bool) (fun t161 => sigset_Has.R t161) (fun t161 => (.br (.adj [] (.adj [.keep [4], .drop 1] .nil)) (.dr [(0, ⟨none, .no⟩), (2, ⟨none, .no⟩), (3, ⟨none, .no⟩), (1, ⟨none, .no⟩), (4, ⟨none, .no⟩)] (.adj [] (.adj [.keep [5, 10, 11, 12], .drop 1] .nil))))))))))))))))) (.one false (.one false (.one false (.one false (.one false (.one false (.one false (.call true [] (Bool) (fun t163 => sigset_Has.R t163) (fun t163 => (.one false (.br (.adj [] (.adj [.keep [4], .drop 1] .nil)) (.call true [] (Bool) (fun t165 => sigset_Has.R t165) (fun t165 => (.br (.adj [] (.adj [.keep [4], .drop 1] .nil)) (.dr [(0, ⟨none, .no⟩), (2, ⟨none, .no⟩), (3, ⟨none, .no⟩), (1, ⟨none, .no⟩), (4, ⟨none, .no⟩)] (.adj [] (.adj [.keep [5, 10, 11, 12], .drop 1] .nil)))))))))))))))))))) (.one false (.one false (.one false (.one false (.one false (.one false (.one false (.one false (.one false (.one false (.call true [] (Bool) (fun t167 => sigset_Has.R t167) (fun t167 => (.one false (.br (.adj [] (.adj [.keep [4], .drop 1] .nil)) (.call true [] (Bool) (fun t169 => sigset_Has.R t169) (fun t169 => (.br (.adj [] (.adj [.keep [4], .drop 1] .nil)) (.dr [(0, ⟨none, .no⟩), (2, ⟨none, .no⟩), (3, ⟨none, .no⟩), (1, ⟨none, .no⟩), (4, ⟨none, .no⟩)] (.adj [] (.adj [.keep [5, 10, 11, 12], .drop 1] .nil))))))))))))))))))))))) (.one false (.one false (.one false (.one false (.one false (.one false (.one false (.one false (.one false (.one false (.one false (.one false (.one false (.call true [] (Bool) (fun t171 => sigset_Has.R t171) (fun t171 => (.one false (.br (.adj [] (.adj [.keep [4], .drop 1] .nil)) (.call true [] (Bool) (fun t173 => sigset_Has.R t173) (fun t173 => (.br (.adj [] (.adj [.keep [4], .drop 1] .nil)) (.dr [(0, ⟨none, .no⟩), (2, ⟨none, .no⟩), (3, ⟨none, .no⟩), (1, ⟨none, .no⟩), (4, ⟨none, .no⟩)] (.adj [] (.adj [.keep [5, 10, 11, 12], .drop 1] .nil))))))))))))))))))))))))))))))))) (.adj [.keep [5], .drop 1] .nil))) (to_goal (q := (True) ∧ (((decide (x87 < (40 : Int))) = true → (True) ∧ (∃ t136 : Int, (Fun cfg 9 [.agg [.c (.sc (.int .u32 x82)), .c (.sc (.int .u32 x83)), .row 32 (.int .u32) x84]] [] (sig_Next.R t136) [] ∧ True) ∧ (True) ∧ (((t136 == (0 : Int)) = true → (((True) ∧ (True) ∧ True) ∧ halterlaw25_SigOrder.l1_Q r (.exit 2) ⟨[.any, .any, .any, .any, .any, .v (.one (.ptr 0 ⟨0, 0, 0, 0⟩)), .any, .any, .any, .any, .any, .any, .any, .any, .any, .any, .any, .any, .any, .any, .any, .any, .any, .any, .any, .any, .any, .any, .any, .any, .any, .any, .any, .any, .any, .any, .any, .any, .any, .any, .any, .any, .any, .any, .any, .any, .any, .any, .any, .any, .any, .any, .any, .any, .any, .any, .any, .any, .any, .any, .any, .any, .any, .any, .any, .any, .any, .any, .any, .any, .any, .any, .any, .any, .any, .any, .any, .any, .any, .any, .any, .any, .any, .any, .any, .any, .any, .any, .any, .any, .any, .any, .any, .any, .any, .any, .any, .any, .any, .any, .any, .any, .any, .any, .any, .any, .any, .any, .any, .any, .any, .any, .any, .any, .any, .any, .any, .any, .any, .any, .any, .any, .any], [.ex false [.c (.sc (.int .u32 x82)), .c (.sc (.int .u32 x83)), .row 32 (.int .u32) x84] 27], 0⟩)) ∧ ((t136 == (0 : Int)) = false → (True) ∧ (∃ t138 : Int × Int × (List Int), (Fun cfg 10 [.agg [.c (.sc (.int .u32 x82)), .c (.sc (.int .u32 x83)), .row 32 (.int .u32) x84], .one (.sc (.int .i64 t136))] [] (sig_Take.R t138) [] ∧ True) ∧ (True) ∧ (True) ∧ (((t136 == (9 : Int)) = false → ((t136 == (9 : Int)) = false ∧ (True) ∧ ((t136 == (9 : Int)) = false ∧ (((t136 == (19 : Int)) = true → (((!x86) = true → ((!x86) = true ∧ (True) ∧ ((!x86) = true ∧ (((t136 != (19 : Int)) = false → ((t136 != (19 : Int)) = false ∧ (True) ∧ ((!x86) = true ∧ ((t136 != (19 : Int)) = false ∧ ((!x86) = true ∧ (((x85 != (9 : Int)) = true → (True ∧ (((True) ∧ (True) ∧ True) ∧ halterlaw25_SigOrder.l1_Q r .ret ⟨[.any, .any, .any, .any, .v (.one (.sc (.bool false))), .any, .any, .any, .any, .any, .any, .any, .any, .any, .any, .any, .any, .any, .any, .any, .any, .any, .any, .any, .any, .any, .any, .any, .any, .any, .any, .any, .any, .any, .any, .any, .any, .any, .any, .any, .any, .any, .any, .any, .any, .any, .any, .any, .any, .any, .any, .any, .any, .any, .any, .any, .any, .any, .any, .any, .any, .any, .any, .any, .any, .any, .any, .any, .any, .any, .any, .any, .any, .any, .any, .any, .any, .any, .any, .any, .any, .any, .any, .any, .any, .any, .any, .any, .any, .any, .any, .any, .any, .any, .any, .any, .any, .any, .any, .any, .any, .any, .any, .any, .any, .any, .any, .any, .any, .any, .any, .any, .any, .any, .any, .any, .any, .any, .any, .any, .any, .any, .any], [.ex false [.c (.sc (.int .u32 x82)), .c (.sc (.int .u32 x83)), .row 32 (.int .u32) x84] 27], 0⟩))) ∧ ((x85 != (9 : Int)) = false → (True) ∧ (∃ t151 : Bool, (Fun cfg 11 [.one (.sc (.int .u32 t138.1)), .one (.sc (.int .i64 t136))] [] (sigset_Has.R t151) [] ∧ True) ∧ ((t151 = true → (True ∧ (((True) ∧ (True) ∧ True) ∧ halterlaw25_SigOrder.l1_Q r .ret ⟨[.any, .any, .any, .any, .v (.one (.sc (.bool false))), .any, .any, .any, .any, .any, .any, .any, .any, .any, .any, .any, .any, .any, .any, .any, .any, .any, .any, .any, .any, .any, .any, .any, .any, .any, .any, .any, .any, .any, .any, .any, .any, .any, .any, .any, .any, .any, .any, .any, .any, .any, .any, .any, .any, .any, .any, .any, .any, .any, .any, .any, .any, .any, .any, .any, .any, .any, .any, .any, .any, .any, .any, .any, .any, .any, .any, .any, .any, .any, .any, .any, .any, .any, .any, .any, .any, .any, .any, .any, .any, .any, .any, .any, .any, .any, .any, .any, .any, .any, .any, .any, .any, .any, .any, .any, .any, .any, .any, .any, .any, .any, .any, .any, .any, .any, .any, .any, .any, .any, .any, .any, .any, .any, .any, .any, .any, .any, .any], [.ex false [.c (.sc (.int .u32 x82)), .c (.sc (.int .u32 x83)), .row 32 (.int .u32) x84] 27], 0⟩))) ∧ (t151 = false → (True) ∧ (True) ∧ (True ∧ (True) ∧ (((True) ∧ (True) ∧ True) ∧ TripN cfg (cpath (Tryd.f3.body.getD .skip) [1, 1, 1, 1, 1, 0, 1, 0, 0]) n (halterlaw25_SigOrder.l1_S t138.1 t138.2.1 t138.2.2 t136 false (IntKind.wrap .i64 (x87 + (1 : Int)))) (halterlaw25_SigOrder.l1_Q r))))))))))))) ∧ ((t136 != (19 : Int)) = true → ((t136 != (19 : Int)) = true ∧ ((!x86) = true ∧ ((t136 != (19 : Int)) = true ∧ ((!x86) = true ∧ (true = true ∧ (True ∧ (((True) ∧ (True) ∧ True) ∧ halterlaw25_SigOrder.l1_Q r .ret ⟨[.any, .any, .any, .any, .v (.one (.sc (.bool false))), .any, .any, .any, .any, .any, .any, .any, .any, .any, .any, .any, .any, .any, .any, .any, .any, .any, .any, .any, .any, .any, .any, .any, .any, .any, .any, .any, .any, .any, .any, .any, .any, .any, .any, .any, .any, .any, .any, .any, .any, .any, .any, .any, .any, .any, .any, .any, .any, .any, .any, .any, .any, .any, .any, .any, .any, .any, .any, .any, .any, .any, .any, .any, .any, .any, .any, .any, .any, .any, .any, .any, .any, .any, .any, .any, .any, .any, .any, .any, .any, .any, .any, .any, .any, .any, .any, .any, .any, .any, .any, .any, .any, .any, .any, .any, .any, .any, .any, .any, .any, .any, .any, .any, .any, .any, .any, .any, .any, .any, .any, .any, .any, .any, .any, .any, .any, .any, .any], [.ex false [.c (.sc (.int .u32 x82)), .c (.sc (.int .u32 x83)), .row 32 (.int .u32) x84] 27], 0⟩)))))))))))) ∧ ((!x86) = false → ((!x86) = false ∧ ((!x86) = false ∧ ((!x86) = false ∧ ((!x86) = false ∧ (false = false ∧ (True) ∧ (∃ t153 : Bool, (Fun cfg 11 [.one (.sc (.int .u32 t138.1)), .one (.sc (.int .i64 t136))] [] (sigset_Has.R t153) [] ∧ True) ∧ ((t153 = true → (True ∧ (((True) ∧ (True) ∧ True) ∧ halterlaw25_SigOrder.l1_Q r .ret ⟨[.any, .any, .any, .any, .v (.one (.sc (.bool false))), .any, .any, .any, .any, .any, .any, .any, .any, .any, .any, .any, .any, .any, .any, .any, .any, .any, .any, .any, .any, .any, .any, .any, .any, .any, .any, .any, .any, .any, .any, .any, .any, .any, .any, .any, .any, .any, .any, .any, .any, .any, .any, .any, .any, .any, .any, .any, .any, .any, .any, .any, .any, .any, .any, .any, .any, .any, .any, .any, .any, .any, .any, .any, .any, .any, .any, .any, .any, .any, .any, .any, .any, .any, .any, .any, .any, .any, .any, .any, .any, .any, .any, .any, .any, .any, .any, .any, .any, .any, .any, .any, .any, .any, .any, .any, .any, .any, .any, .any, .any, .any, .any, .any, .any, .any, .any, .any, .any, .any, .any, .any, .any, .any, .any, .any, .any, .any, .any], [.ex false [.c (.sc (.int .u32 x82)), .c (.sc (.int .u32 x83)), .row 32 (.int .u32) x84] 27], 0⟩))) ∧ (t153 = false → (True) ∧ (True) ∧ (True ∧ (True) ∧ (((True) ∧ (True) ∧ True) ∧ TripN cfg (cpath (Tryd.f3.body.getD .skip) [1, 1, 1, 1, 1, 0, 1, 0, 0]) n (halterlaw25_SigOrder.l1_S t138.1 t138.2.1 t138.2.2 t136 false (IntKind.wrap .i64 (x87 + (1 : Int)))) (halterlaw25_SigOrder.l1_Q r)))))))))))))) ∧ ((t136 == (19 : Int)) = false → (((!x86) = true → ((!x86) = true ∧ (True) ∧ ((!x86) = true ∧ (((x85 != (9 : Int)) = true → ((x85 != (9 : Int)) = true ∧ (True) ∧ ((x85 != (9 : Int)) = true ∧ (((x85 != (19 : Int)) = true → ((x85 != (19 : Int)) = true ∧ ((x85 != (19 : Int)) = true ∧ (True) ∧ ((x85 != (19 : Int)) = true ∧ (((decide (t136 ≤ x85)) = false → ((decide (t136 ≤ x85)) = false ∧ (True) ∧ ((decide (t136 ≤ x85)) = false ∧ ((decide (t136 ≤ x85)) = false ∧ (∃ t159 : Bool, (Fun cfg 11 [.one (.sc (.int .u32 x83)), .one (.sc (.int .i64 t136))] [] (sigset_Has.R t159) [] ∧ True) ∧ ((decide (t136 ≤ x85)) = false ∧ ((t159 = true → (True ∧ (((True) ∧ (True) ∧ True) ∧ halterlaw25_SigOrder.l1_Q r .ret ⟨[.any, .any, .any, .any, .v (.one (.sc (.bool false))), .any, .any, .any, .any, .any, .any, .any, .any, .any, .any, .any, .any, .any, .any, .any, .any, .any, .any, .any, .any, .any, .any, .any, .any, .any, .any, .any, .any, .any, .any, .any, .any, .any, .any, .any, .any, .any, .any, .any, .any, .any, .any, .any, .any, .any, .any, .any, .any, .any, .any, .any, .any, .any, .any, .any, .any, .any, .any, .any, .any, .any, .any, .any, .any, .any, .any, .any, .any, .any, .any, .any, .any, .any, .any, .any, .any, .any, .any, .any, .any, .any, .any, .any, .any, .any, .any, .any, .any, .any, .any, .any, .any, .any, .any, .any, .any, .any, .any, .any, .any, .any, .any, .any, .any, .any, .any, .any, .any, .any, .any, .any, .any, .any, .any, .any, .any, .any, .any], [.ex false [.c (.sc (.int .u32 x82)), .c (.sc (.int .u32 x83)), .row 32 (.int .u32) x84] 27], 0⟩))) ∧ (t159 = false → (True) ∧ (∃ t161 : Bool, (Fun cfg 11 [.one (.sc (.int .u32 t138.1)), .one (.sc (.int .i64 t136))] [] (sigset_Has.R t161) [] ∧ True) ∧ ((t161 = true → (True ∧ (((True) ∧ (True) ∧ True) ∧ halterlaw25_SigOrder.l1_Q r .ret ⟨[.any, .any, .any, .any, .v (.one (.sc (.bool false))), .any, .any, .any, .any, .any, .any, .any, .any, .any, .any, .any, .any, .any, .any, .any, .any, .any, .any, .any, .any, .any, .any, .any, .any, .any, .any, .any, .any, .any, .any, .any, .any, .any, .any, .any, .any, .any, .any, .any, .any, .any, .any, .any, .any, .any, .any, .any, .any, .any, .any, .any, .any, .any, .any, .any, .any, .any, .any, .any, .any, .any, .any, .any, .any, .any, .any, .any, .any, .any, .any, .any, .any, .any, .any, .any, .any, .any, .any, .any, .any, .any, .any, .any, .any, .any, .any, .any, .any, .any, .any, .any, .any, .any, .any, .any, .any, .any, .any, .any, .any, .any, .any, .any, .any, .any, .any, .any, .any, .any, .any, .any, .any, .any, .any, .any, .any, .any, .any], [.ex false [.c (.sc (.int .u32 x82)), .c (.sc (.int .u32 x83)), .row 32 (.int .u32) x84] 27], 0⟩))) ∧ (t161 = false → (True) ∧ (True) ∧ (True ∧ (True) ∧ (((True) ∧ (True) ∧ True) ∧ TripN cfg (cpath (Tryd.f3.body.getD .skip) [1, 1, 1, 1, 1, 0, 1, 0, 0]) n (halterlaw25_SigOrder.l1_S t138.1 t138.2.1 t138.2.2 t136 false (IntKind.wrap .i64 (x87 + (1 : Int)))) (halterlaw25_SigOrder.l1_Q r)))))))))))))) ∧ ((decide (t136 ≤ x85)) = true → ((decide (t136 ≤ x85)) = true ∧ ((decide (t136 ≤ x85)) = true ∧ ((decide (t136 ≤ x85)) = true ∧ ((decide (t136 ≤ x85)) = true ∧ (true = true ∧ (True ∧ (((True) ∧ (True) ∧ True) ∧ halterlaw25_SigOrder.l1_Q r .ret ⟨[.any, .any, .any, .any, .v (.one (.sc (.bool false))), .any, .any, .any, .any, .any, .any, .any, .any, .any, .any, .any, .any, .any, .any, .any, .any, .any, .any, .any, .any, .any, .any, .any, .any, .any, .any, .any, .any, .any, .any, .any, .any, .any, .any, .any, .any, .any, .any, .any, .any, .any, .any, .any, .any, .any, .any, .any, .any, .any, .any, .any, .any, .any, .any, .any, .any, .any, .any, .any, .any, .any, .any, .any, .any, .any, .any, .any, .any, .any, .any, .any, .any, .any, .any, .any, .any, .any, .any, .any, .any, .any, .any, .any, .any, .any, .any, .any, .any, .any, .any, .any, .any, .any, .any, .any, .any, .any, .any, .any, .any, .any, .any, .any, .any, .any, .any, .any, .any, .any, .any, .any, .any, .any, .any, .any, .any, .any, .any], [.ex false [.c (.sc (.int .u32 x82)), .c (.sc (.int .u32 x83)), .row 32 (.int .u32) x84] 27], 0⟩))))))))))))) ∧ ((x85 != (19 : Int)) = false → ((x85 != (19 : Int)) = false ∧ ((x85 != (19 : Int)) = false ∧ ((x85 != (19 : Int)) = false ∧ (false = false ∧ (false = false ∧ (True) ∧ (false = false ∧ (false = false ∧ (∃ t163 : Bool, (Fun cfg 11 [.one (.sc (.int .u32 x83)), .one (.sc (.int .i64 t136))] [] (sigset_Has.R t163) [] ∧ True) ∧ (false = false ∧ ((t163 = true → (True ∧ (((True) ∧ (True) ∧ True) ∧ halterlaw25_SigOrder.l1_Q r .ret ⟨[.any, .any, .any, .any, .v (.one (.sc (.bool false))), .any, .any, .any, .any, .any, .any, .any, .any, .any, .any, .any, .any, .any, .any, .any, .any, .any, .any, .any, .any, .any, .any, .any, .any, .any, .any, .any, .any, .any, .any, .any, .any, .any, .any, .any, .any, .any, .any, .any, .any, .any, .any, .any, .any, .any, .any, .any, .any, .any, .any, .any, .any, .any, .any, .any, .any, .any, .any, .any, .any, .any, .any, .any, .any, .any, .any, .any, .any, .any, .any, .any, .any, .any, .any, .any, .any, .any, .any, .any, .any, .any, .any, .any, .any, .any, .any, .any, .any, .any, .any, .any, .any, .any, .any, .any, .any, .any, .any, .any, .any, .any, .any, .any, .any, .any, .any, .any, .any, .any, .any, .any, .any, .any, .any, .any, .any, .any, .any], [.ex false [.c (.sc (.int .u32 x82)), .c (.sc (.int .u32 x83)), .row 32 (.int .u32) x84] 27], 0⟩))) ∧ (t163 = false → (True) ∧ (∃ t165 : Bool, (Fun cfg 11 [.one (.sc (.int .u32 t138.1)), .one (.sc (.int .i64 t136))] [] (sigset_Has.R t165) [] ∧ True) ∧ ((t165 = true → (True ∧ (((True) ∧ (True) ∧ True) ∧ halterlaw25_SigOrder.l1_Q r .ret ⟨[.any, .any, .any, .any, .v (.one (.sc (.bool false))), .any, .any, .any, .any, .any, .any, .any, .any, .any, .any, .any, .any, .any, .any, .any, .any, .any, .any, .any, .any, .any, .any, .any, .any, .any, .any, .any, .any, .any, .any, .any, .any, .any, .any, .any, .any, .any, .any, .any, .any, .any, .any, .any, .any, .any, .any, .any, .any, .any, .any, .any, .any, .any, .any, .any, .any, .any, .any, .any, .any, .any, .any, .any, .any, .any, .any, .any, .any, .any, .any, .any, .any, .any, .any, .any, .any, .any, .any, .any, .any, .any, .any, .any, .any, .any, .any, .any, .any, .any, .any, .any, .any, .any, .any, .any, .any, .any, .any, .any, .any, .any, .any, .any, .any, .any, .any, .any, .any, .any, .any, .any, .any, .any, .any, .any, .any, .any, .any], [.ex false [.c (.sc (.int .u32 x82)), .c (.sc (.int .u32 x83)), .row 32 (.int .u32) x84] 27], 0⟩))) ∧ (t165 = false → (True) ∧ (True) ∧ (True ∧ (True) ∧ (((True) ∧ (True) ∧ True) ∧ TripN cfg (cpath (Tryd.f3.body.getD .skip) [1, 1, 1, 1, 1, 0, 1, 0, 0]) n (halterlaw25_SigOrder.l1_S t138.1 t138.2.1 t138.2.2 t136 false (IntKind.wrap .i64 (x87 + (1 : Int)))) (halterlaw25_SigOrder.l1_Q r)))))))))))))))))))))) ∧ ((x85 != (9 : Int)) = false → ((x85 != (9 : Int)) = false ∧ ((x85 != (9 : Int)) = false ∧ (false = false ∧ (false = false ∧ (false = false ∧ (false = false ∧ (false = false ∧ (false = false ∧ (True) ∧ (false = false ∧ (false = false ∧ (∃ t167 : Bool, (Fun cfg 11 [.one (.sc (.int .u32 x83)), .one (.sc (.int .i64 t136))] [] (sigset_Has.R t167) [] ∧ True) ∧ (false = false ∧ ((t167 = true → (True ∧ (((True) ∧ (True) ∧ True) ∧ halterlaw25_SigOrder.l1_Q r .ret ⟨[.any, .any, .any, .any, .v (.one (.sc (.bool false))), .any, .any, .any, .any, .any, .any, .any, .any, .any, .any, .any, .any, .any, .any, .any, .any, .any, .any, .any, .any, .any, .any, .any, .any, .any, .any, .any, .any, .any, .any, .any, .any, .any, .any, .any, .any, .any, .any, .any, .any, .any, .any, .any, .any, .any, .any, .any, .any, .any, .any, .any, .any, .any, .any, .any, .any, .any, .any, .any, .any, .any, .any, .any, .any, .any, .any, .any, .any, .any, .any, .any, .any, .any, .any, .any, .any, .any, .any, .any, .any, .any, .any, .any, .any, .any, .any, .any, .any, .any, .any, .any, .any, .any, .any, .any, .any, .any, .any, .any, .any, .any, .any, .any, .any, .any, .any, .any, .any, .any, .any, .any, .any, .any, .any, .any, .any, .any, .any], [.ex false [.c (.sc (.int .u32 x82)), .c (.sc (.int .u32 x83)), .row 32 (.int .u32) x84] 27], 0⟩))) ∧ (t167 = false → (True) ∧ (∃ t169 : Bool, (Fun cfg 11 [.one (.sc (.int .u32 t138.1)), .one (.sc (.int .i64 t136))] [] (sigset_Has.R t169) [] ∧ True) ∧ ((t169 = true → (True ∧ (((True) ∧ (True) ∧ True) ∧ halterlaw25_SigOrder.l1_Q r .ret ⟨[.any, .any, .any, .any, .v (.one (.sc (.bool false))), .any, .any, .any, .any, .any, .any, .any, .any, .any, .any, .any, .any, .any, .any, .any, .any, .any, .any, .any, .any, .any, .any, .any, .any, .any, .any, .any, .any, .any, .any, .any, .any, .any, .any, .any, .any, .any, .any, .any, .any, .any, .any, .any, .any, .any, .any, .any, .any, .any, .any, .any, .any, .any, .any, .any, .any, .any, .any, .any, .any, .any, .any, .any, .any, .any, .any, .any, .any, .any, .any, .any, .any, .any, .any, .any, .any, .any, .any, .any, .any, .any, .any, .any, .any, .any, .any, .any, .any, .any, .any, .any, .any, .any, .any, .any, .any, .any, .any, .any, .any, .any, .any, .any, .any, .any, .any, .any, .any, .any, .any, .any, .any, .any, .any, .any, .any, .any, .any], [.ex false [.c (.sc (.int .u32 x82)), .c (.sc (.int .u32 x83)), .row 32 (.int .u32) x84] 27], 0⟩))) ∧ (t169 = false → (True) ∧ (True) ∧ (True ∧ (True) ∧ (((True) ∧ (True) ∧ True) ∧ TripN cfg (cpath (Tryd.f3.body.getD .skip) [1, 1, 1, 1, 1, 0, 1, 0, 0]) n (halterlaw25_SigOrder.l1_S t138.1 t138.2.1 t138.2.2 t136 false (IntKind.wrap .i64 (x87 + (1 : Int)))) (halterlaw25_SigOrder.l1_Q r))))))))))))))))))))))))) ∧ ((!x86) = false → ((!x86) = false ∧ ((!x86) = false ∧ (false = false ∧ (false = false ∧ (false = false ∧ (false = false ∧ (false = false ∧ (false = false ∧ (false = false ∧ (false = false ∧ (false = false ∧ (True) ∧ (false = false ∧ (false = false ∧ (∃ t171 : Bool, (Fun cfg 11 [.one (.sc (.int .u32 x83)), .one (.sc (.int .i64 t136))] [] (sigset_Has.R t171) [] ∧ True) ∧ (false = false ∧ ((t171 = true → (True ∧ (((True) ∧ (True) ∧ True) ∧ halterlaw25_SigOrder.l1_Q r .ret ⟨[.any, .any, .any, .any, .v (.one (.sc (.bool false))), .any, .any, .any, .any, .any, .any, .any, .any, .any, .any, .any, .any, .any, .any, .any, .any, .any, .any, .any, .any, .any, .any, .any, .any, .any, .any, .any, .any, .any, .any, .any, .any, .any, .any, .any, .any, .any, .any, .any, .any, .any, .any, .any, .any, .any, .any, .any, .any, .any, .any, .any, .any, .any, .any, .any, .any, .any, .any, .any, .any, .any, .any, .any, .any, .any, .any, .any, .any, .any, .any, .any, .any, .any, .any, .any, .any, .any, .any, .any, .any, .any, .any, .any, .any, .any, .any, .any, .any, .any, .any, .any, .any, .any, .any, .any, .any, .any, .any, .any, .any, .any, .any, .any, .any, .any, .any, .any, .any, .any, .any, .any, .any, .any, .any, .any, .any, .any, .any], [.ex false [.c (.sc (.int .u32 x82)), .c (.sc (.int .u32 x83)), .row 32 (.int .u32) x84] 27], 0⟩))) ∧ (t171 = false → (True) ∧ (∃ t173 : Bool, (Fun cfg 11 [.one (.sc (.int .u32 t138.1)), .one (.sc (.int .i64 t136))] [] (sigset_Has.R t173) [] ∧ True) ∧ ((t173 = true → (True ∧ (((True) ∧ (True) ∧ True) ∧ halterlaw25_SigOrder.l1_Q r .ret ⟨[.any, .any, .any, .any, .v (.one (.sc (.bool false))), .any, .any, .any, .any, .any, .any, .any, .any, .any, .any, .any, .any, .any, .any, .any, .any, .any, .any, .any, .any, .any, .any, .any, .any, .any, .any, .any, .any, .any, .any, .any, .any, .any, .any, .any, .any, .any, .any, .any, .any, .any, .any, .any, .any, .any, .any, .any, .any, .any, .any, .any, .any, .any, .any, .any, .any, .any, .any, .any, .any, .any, .any, .any, .any, .any, .any, .any, .any, .any, .any, .any, .any, .any, .any, .any, .any, .any, .any, .any, .any, .any, .any, .any, .any, .any, .any, .any, .any, .any, .any, .any, .any, .any, .any, .any, .any, .any, .any, .any, .any, .any, .any, .any, .any, .any, .any, .any, .any, .any, .any, .any, .any, .any, .any, .any, .any, .any, .any], [.ex false [.c (.sc (.int .u32 x82)), .c (.sc (.int .u32 x83)), .row 32 (.int .u32) x84] 27], 0⟩))) ∧ (t173 = false → (True) ∧ (True) ∧ (True ∧ (True) ∧ (((True) ∧ (True) ∧ True) ∧ TripN cfg (cpath (Tryd.f3.body.getD .skip) [1, 1, 1, 1, 1, 0, 1, 0, 0]) n (halterlaw25_SigOrder.l1_S t138.1 t138.2.1 t138.2.2 t136 false (IntKind.wrap .i64 (x87 + (1 : Int)))) (halterlaw25_SigOrder.l1_Q r)))))))))))))))))))))))))))))) ∧ ((t136 == (9 : Int)) = true → ((t136 == (9 : Int)) = true ∧ ((t136 == (9 : Int)) = true ∧ (true = true ∧ (((!x86) = true → ((!x86) = true ∧ (True) ∧ ((!x86) = true ∧ (((t136 != (19 : Int)) = false → ((t136 != (19 : Int)) = false ∧ (True) ∧ ((!x86) = true ∧ ((t136 != (19 : Int)) = false ∧ ((!x86) = true ∧ (((x85 != (9 : Int)) = true → (True ∧ (((True) ∧ (True) ∧ True) ∧ halterlaw25_SigOrder.l1_Q r .ret ⟨[.any, .any, .any, .any, .v (.one (.sc (.bool false))), .any, .any, .any, .any, .any, .any, .any, .any, .any, .any, .any, .any, .any, .any, .any, .any, .any, .any, .any, .any, .any, .any, .any, .any, .any, .any, .any, .any, .any, .any, .any, .any, .any, .any, .any, .any, .any, .any, .any, .any, .any, .any, .any, .any, .any, .any, .any, .any, .any, .any, .any, .any, .any, .any, .any, .any, .any, .any, .any, .any, .any, .any, .any, .any, .any, .any, .any, .any, .any, .any, .any, .any, .any, .any, .any, .any, .any, .any, .any, .any, .any, .any, .any, .any, .any, .any, .any, .any, .any, .any, .any, .any, .any, .any, .any, .any, .any, .any, .any, .any, .any, .any, .any, .any, .any, .any, .any, .any, .any, .any, .any, .any, .any, .any, .any, .any, .any, .any], [.ex false [.c (.sc (.int .u32 x82)), .c (.sc (.int .u32 x83)), .row 32 (.int .u32) x84] 27], 0⟩))) ∧ ((x85 != (9 : Int)) = false → (True) ∧ (∃ t143 : Bool, (Fun cfg 11 [.one (.sc (.int .u32 t138.1)), .one (.sc (.int .i64 t136))] [] (sigset_Has.R t143) [] ∧ True) ∧ ((t143 = true → (True ∧ (((True) ∧ (True) ∧ True) ∧ halterlaw25_SigOrder.l1_Q r .ret ⟨[.any, .any, .any, .any, .v (.one (.sc (.bool false))), .any, .any, .any, .any, .any, .any, .any, .any, .any, .any, .any, .any, .any, .any, .any, .any, .any, .any, .any, .any, .any, .any, .any, .any, .any, .any, .any, .any, .any, .any, .any, .any, .any, .any, .any, .any, .any, .any, .any, .any, .any, .any, .any, .any, .any, .any, .any, .any, .any, .any, .any, .any, .any, .any, .any, .any, .any, .any, .any, .any, .any, .any, .any, .any, .any, .any, .any, .any, .any, .any, .any, .any, .any, .any, .any, .any, .any, .any, .any, .any, .any, .any, .any, .any, .any, .any, .any, .any, .any, .any, .any, .any, .any, .any, .any, .any, .any, .any, .any, .any, .any, .any, .any, .any, .any, .any, .any, .any, .any, .any, .any, .any, .any, .any, .any, .any, .any, .any], [.ex false [.c (.sc (.int .u32 x82)), .c (.sc (.int .u32 x83)), .row 32 (.int .u32) x84] 27], 0⟩))) ∧ (t143 = false → (True) ∧ (True) ∧ (True ∧ (True) ∧ (((True) ∧ (True) ∧ True) ∧ TripN cfg (cpath (Tryd.f3.body.getD .skip) [1, 1, 1, 1, 1, 0, 1, 0, 0]) n (halterlaw25_SigOrder.l1_S t138.1 t138.2.1 t138.2.2 t136 false (IntKind.wrap .i64 (x87 + (1 : Int)))) (halterlaw25_SigOrder.l1_Q r))))))))))))) ∧ ((t136 != (19 : Int)) = true → ((t136 != (19 : Int)) = true ∧ ((!x86) = true ∧ ((t136 != (19 : Int)) = true ∧ ((!x86) = true ∧ (true = true ∧ (True ∧ (((True) ∧ (True) ∧ True) ∧ halterlaw25_SigOrder.l1_Q r .ret ⟨[.any, .any, .any, .any, .v (.one (.sc (.bool false))), .any, .any, .any, .any, .any, .any, .any, .any, .any, .any, .any, .any, .any, .any, .any, .any, .any, .any, .any, .any, .any, .any, .any, .any, .any, .any, .any, .any, .any, .any, .any, .any, .any, .any, .any, .any, .any, .any, .any, .any, .any, .any, .any, .any, .any, .any, .any, .any, .any, .any, .any, .any, .any, .any, .any, .any, .any, .any, .any, .any, .any, .any, .any, .any, .any, .any, .any, .any, .any, .any, .any, .any, .any, .any, .any, .any, .any, .any, .any, .any, .any, .any, .any, .any, .any, .any, .any, .any, .any, .any, .any, .any, .any, .any, .any, .any, .any, .any, .any, .any, .any, .any, .any, .any, .any, .any, .any, .any, .any, .any, .any, .any, .any, .any, .any, .any, .any, .any], [.ex false [.c (.sc (.int .u32 x82)), .c (.sc (.int .u32 x83)), .row 32 (.int .u32) x84] 27], 0⟩)))))))))))) ∧ ((!x86) = false → ((!x86) = false ∧ ((!x86) = false ∧ ((!x86) = false ∧ ((!x86) = false ∧ (false = false ∧ (True) ∧ (∃ t145 : Bool, (Fun cfg 11 [.one (.sc (.int .u32 t138.1)), .one (.sc (.int .i64 t136))] [] (sigset_Has.R t145) [] ∧ True) ∧ ((t145 = true → (True ∧ (((True) ∧ (True) ∧ True) ∧ halterlaw25_SigOrder.l1_Q r .ret ⟨[.any, .any, .any, .any, .v (.one (.sc (.bool false))), .any, .any, .any, .any, .any, .any, .any, .any, .any, .any, .any, .any, .any, .any, .any, .any, .any, .any, .any, .any, .any, .any, .any, .any, .any, .any, .any, .any, .any, .any, .any, .any, .any, .any, .any, .any, .any, .any, .any, .any, .any, .any, .any, .any, .any, .any, .any, .any, .any, .any, .any, .any, .any, .any, .any, .any, .any, .any, .any, .any, .any, .any, .any, .any, .any, .any, .any, .any, .any, .any, .any, .any, .any, .any, .any, .any, .any, .any, .any, .any, .any, .any, .any, .any, .any, .any, .any, .any, .any, .any, .any, .any, .any, .any, .any, .any, .any, .any, .any, .any, .any, .any, .any, .any, .any, .any, .any, .any, .any, .any, .any, .any, .any, .any, .any, .any, .any, .any], [.ex false [.c (.sc (.int .u32 x82)), .c (.sc (.int .u32 x83)), .row 32 (.int .u32) x84] 27], 0⟩))) ∧ (t145 = false → (True) ∧ (True) ∧ (True ∧ (True) ∧ (((True) ∧ (True) ∧ True) ∧ TripN cfg (cpath (Tryd.f3.body.getD .skip) [1, 1, 1, 1, 1, 0, 1, 0, 0]) n (halterlaw25_SigOrder.l1_S t138.1 t138.2.1 t138.2.2 t136 false (IntKind.wrap .i64 (x87 + (1 : Int)))) (halterlaw25_SigOrder.l1_Q r))))))))))))))))))))))) ∧ ((decide (x87 < (40 : Int))) = false → (((True) ∧ (True) ∧ True) ∧ halterlaw25_SigOrder.l1_Q r (.exit 2) ⟨[.any, .any, .any, .any, .any, .v (.one (.ptr 0 ⟨0, 0, 0, 0⟩)), .any, .any, .any, .any, .any, .any, .any, .any, .any, .any, .any, .any, .any, .any, .any, .any, .any, .any, .any, .any, .any, .any, .any, .any, .any, .any, .any, .any, .any, .any, .any, .any, .any, .any, .any, .any, .any, .any, .any, .any, .any, .any, .any, .any, .any, .any, .any, .any, .any, .any, .any, .any, .any, .any, .any, .any, .any, .any, .any, .any, .any, .any, .any, .any, .any, .any, .any, .any, .any, .any, .any, .any, .any, .any, .any, .any, .any, .any, .any, .any, .any, .any, .any, .any, .any, .any, .any, .any, .any, .any, .any, .any, .any, .any, .any, .any, .any, .any, .any, .any, .any, .any, .any, .any, .any, .any, .any, .any, .any, .any, .any, .any, .any, .any, .any, .any, .any], [.ex false [.c (.sc (.int .u32 x82)), .c (.sc (.int .u32 x83)), .row 32 (.int .u32) x84] 27], 0⟩)))) (by kernel_rfl) ?_)
    refine ⟨trivial, ?_⟩
    refine ⟨fun b135 => ?_, fun b135 => ?_⟩
    · rw [if_pos (of_decide_eq_true b135)] at h
      refine ⟨trivial, ?_⟩
      obtain ⟨t136, ht136, h⟩ := of_bind h
      refine ⟨t136, ⟨sig_Next.fun_ ht136, trivial⟩, ?_⟩
      refine ⟨trivial, ?_⟩
      refine ⟨fun b137 => ?_, fun b137 => ?_⟩
      · rw [if_pos (beq_t b137)] at h
        obtain rfl := Option.some.inj h
        exact ⟨⟨trivial, trivial, trivial⟩, rfl, rfl⟩
      · rw [if_neg (beq_f b137)] at h
        refine ⟨trivial, ?_⟩
        obtain ⟨t138, ht138, h⟩ := of_bind h
        refine ⟨t138, ⟨sig_Take.fun_ ht138, trivial⟩, ?_⟩
        refine ⟨trivial, ?_⟩
        refine ⟨trivial, ?_⟩
        refine ⟨fun b139 => ?_, fun b139 => ?_⟩
        · rw [if_neg (beq_f b139)] at h
          refine ⟨b139, ?_⟩
          refine ⟨trivial, ?_⟩
          refine ⟨b139, ?_⟩
          refine ⟨fun b147 => ?_, fun b147 => ?_⟩
          · rw [if_pos (beq_t b147)] at h
            refine ⟨fun b148 => ?_, fun b148 => ?_⟩
            · rw [if_pos (ff (not_t b148))] at h
              refine ⟨b148, ?_⟩
              refine ⟨trivial, ?_⟩
              refine ⟨b148, ?_⟩
              refine ⟨fun b149 => ?_, fun b149 => ?_⟩
              · rw [if_neg (not_not_intro (bne_f b149))] at h
                refine ⟨b149, ?_⟩
                refine ⟨trivial, ?_⟩
                refine ⟨b148, ?_⟩
                refine ⟨b149, ?_⟩
                refine ⟨b148, ?_⟩
                refine ⟨fun b150 => ?_, fun b150 => ?_⟩
                · rw [if_pos (bne_t b150)] at h
                  refine ⟨trivial, ?_⟩
                  obtain rfl := Option.some.inj h
                  exact ⟨⟨trivial, trivial, trivial⟩, rfl, rfl⟩
                · rw [if_neg (not_not_intro (bne_f b150))] at h
                  refine ⟨trivial, ?_⟩
                  obtain ⟨t151, ht151, h⟩ := of_bind h
                  refine ⟨t151, ⟨sigset_Has.fun_ ht151, trivial⟩, ?_⟩
                  refine ⟨fun b152 => ?_, fun b152 => ?_⟩
                  · rw [if_pos b152] at h
                    refine ⟨trivial, ?_⟩
                    obtain rfl := Option.some.inj h
                    exact ⟨⟨trivial, trivial, trivial⟩, rfl, rfl⟩
                  · rw [if_neg (ff b152)] at h
                    refine ⟨trivial, trivial, ?_⟩
                    refine ⟨trivial, ?_⟩
                    refine ⟨trivial, ?_⟩
                    exact ⟨⟨trivial, trivial, trivial⟩, ih t138.1 t138.2.1 t138.2.2 t136 false (IntKind.wrap .i64 (x87 + (1 : Int))) r h⟩
              · rw [if_pos (bne_t b149)] at h
                refine ⟨b149, ?_⟩
                refine ⟨b148, ?_⟩
                refine ⟨b149, ?_⟩
                refine ⟨b148, ?_⟩
                refine ⟨rfl, ?_⟩
                refine ⟨trivial, ?_⟩
                obtain rfl := Option.some.inj h
                exact ⟨⟨trivial, trivial, trivial⟩, rfl, rfl⟩
            · rw [if_neg (not_not_intro (not_f b148))] at h
              refine ⟨b148, ?_⟩
              refine ⟨b148, ?_⟩
              refine ⟨b148, ?_⟩
              refine ⟨b148, ?_⟩
              refine ⟨rfl, ?_⟩
              refine ⟨trivial, ?_⟩
              obtain ⟨t153, ht153, h⟩ := of_bind h
              refine ⟨t153, ⟨sigset_Has.fun_ ht153, trivial⟩, ?_⟩
              refine ⟨fun b154 => ?_, fun b154 => ?_⟩
              · rw [if_pos b154] at h
                refine ⟨trivial, ?_⟩
                obtain rfl := Option.some.inj h
                exact ⟨⟨trivial, trivial, trivial⟩, rfl, rfl⟩
              · rw [if_neg (ff b154)] at h
                refine ⟨trivial, trivial, ?_⟩
                refine ⟨trivial, ?_⟩
                refine ⟨trivial, ?_⟩
                exact ⟨⟨trivial, trivial, trivial⟩, ih t138.1 t138.2.1 t138.2.2 t136 false (IntKind.wrap .i64 (x87 + (1 : Int))) r h⟩
          · rw [if_neg (beq_f b147)] at h
            refine ⟨fun b155 => ?_, fun b155 => ?_⟩
            · rw [if_pos (ff (not_t b155))] at h
              refine ⟨b155, ?_⟩
              refine ⟨trivial, ?_⟩
              refine ⟨b155, ?_⟩
              refine ⟨fun b156 => ?_, fun b156 => ?_⟩
              · rw [if_pos (bne_t b156)] at h
                refine ⟨b156, ?_⟩
                refine ⟨trivial, ?_⟩
                refine ⟨b156, ?_⟩
                refine ⟨fun b157 => ?_, fun b157 => ?_⟩
                · rw [if_pos (bne_t b157)] at h
                  refine ⟨b157, ?_⟩
                  refine ⟨b157, ?_⟩
                  refine ⟨trivial, ?_⟩
                  refine ⟨b157, ?_⟩
                  refine ⟨fun b158 => ?_, fun b158 => ?_⟩
                  · rw [if_neg (of_decide_eq_false b158)] at h
                    refine ⟨b158, ?_⟩
                    refine ⟨trivial, ?_⟩
                    refine ⟨b158, ?_⟩
                    refine ⟨b158, ?_⟩
                    obtain ⟨t159, ht159, h⟩ := of_bind h
                    refine ⟨t159, ⟨sigset_Has.fun_ ht159, trivial⟩, ?_⟩
                    refine ⟨b158, ?_⟩
                    refine ⟨fun b160 => ?_, fun b160 => ?_⟩
                    · rw [if_pos b160] at h
                      refine ⟨trivial, ?_⟩
                      obtain rfl := Option.some.inj h
                      exact ⟨⟨trivial, trivial, trivial⟩, rfl, rfl⟩
                    · rw [if_neg (ff b160)] at h
                      refine ⟨trivial, ?_⟩
                      obtain ⟨t161, ht161, h⟩ := of_bind h
                      refine ⟨t161, ⟨sigset_Has.fun_ ht161, trivial⟩, ?_⟩
                      refine ⟨fun b162 => ?_, fun b162 => ?_⟩
                      · rw [if_pos b162] at h
                        refine ⟨trivial, ?_⟩
                        obtain rfl := Option.some.inj h
                        exact ⟨⟨trivial, trivial, trivial⟩, rfl, rfl⟩
                      · rw [if_neg (ff b162)] at h
                        refine ⟨trivial, trivial, ?_⟩
                        refine ⟨trivial, ?_⟩
                        refine ⟨trivial, ?_⟩
                        exact ⟨⟨trivial, trivial, trivial⟩, ih t138.1 t138.2.1 t138.2.2 t136 false (IntKind.wrap .i64 (x87 + (1 : Int))) r h⟩
                  · rw [if_pos (of_decide_eq_true b158)] at h
                    refine ⟨b158, ?_⟩
                    refine ⟨b158, ?_⟩
                    refine ⟨b158, ?_⟩
                    refine ⟨b158, ?_⟩
                    refine ⟨rfl, ?_⟩
                    refine ⟨trivial, ?_⟩
                    obtain rfl := Option.some.inj h
                    exact ⟨⟨trivial, trivial, trivial⟩, rfl, rfl⟩
                · rw [if_neg (not_not_intro (bne_f b157))] at h
                  refine ⟨b157, ?_⟩
                  refine ⟨b157, ?_⟩
                  refine ⟨b157, ?_⟩
                  refine ⟨rfl, ?_⟩
                  refine ⟨rfl, ?_⟩
                  refine ⟨trivial, ?_⟩
                  refine ⟨rfl, ?_⟩
                  refine ⟨rfl, ?_⟩
                  obtain ⟨t163, ht163, h⟩ := of_bind h
                  refine ⟨t163, ⟨sigset_Has.fun_ ht163, trivial⟩, ?_⟩
                  refine ⟨rfl, ?_⟩
                  refine ⟨fun b164 => ?_, fun b164 => ?_⟩
                  · rw [if_pos b164] at h
                    refine ⟨trivial, ?_⟩
                    obtain rfl := Option.some.inj h
                    exact ⟨⟨trivial, trivial, trivial⟩, rfl, rfl⟩
                  · rw [if_neg (ff b164)] at h
                    refine ⟨trivial, ?_⟩
                    obtain ⟨t165, ht165, h⟩ := of_bind h
                    refine ⟨t165, ⟨sigset_Has.fun_ ht165, trivial⟩, ?_⟩
                    refine ⟨fun b166 => ?_, fun b166 => ?_⟩
                    · rw [if_pos b166] at h
                      refine ⟨trivial, ?_⟩
                      obtain rfl := Option.some.inj h
                      exact ⟨⟨trivial, trivial, trivial⟩, rfl, rfl⟩
                    · rw [if_neg (ff b166)] at h
                      refine ⟨trivial, trivial, ?_⟩
                      refine ⟨trivial, ?_⟩
                      refine ⟨trivial, ?_⟩
                      exact ⟨⟨trivial, trivial, trivial⟩, ih t138.1 t138.2.1 t138.2.2 t136 false (IntKind.wrap .i64 (x87 + (1 : Int))) r h⟩
              · rw [if_neg (not_not_intro (bne_f b156))] at h
                refine ⟨b156, ?_⟩
                refine ⟨b156, ?_⟩
                refine ⟨rfl, ?_⟩
                refine ⟨rfl, ?_⟩
                refine ⟨rfl, ?_⟩
                refine ⟨rfl, ?_⟩
                refine ⟨rfl, ?_⟩
                refine ⟨rfl, ?_⟩
                refine ⟨trivial, ?_⟩
                refine ⟨rfl, ?_⟩
                refine ⟨rfl, ?_⟩
                obtain ⟨t167, ht167, h⟩ := of_bind h
                refine ⟨t167, ⟨sigset_Has.fun_ ht167, trivial⟩, ?_⟩
                refine ⟨rfl, ?_⟩
                refine ⟨fun b168 => ?_, fun b168 => ?_⟩
                · rw [if_pos b168] at h
                  refine ⟨trivial, ?_⟩
                  obtain rfl := Option.some.inj h
                  exact ⟨⟨trivial, trivial, trivial⟩, rfl, rfl⟩
                · rw [if_neg (ff b168)] at h
                  refine ⟨trivial, ?_⟩
                  obtain ⟨t169, ht169, h⟩ := of_bind h
                  refine ⟨t169, ⟨sigset_Has.fun_ ht169, trivial⟩, ?_⟩
                  refine ⟨fun b170 => ?_, fun b170 => ?_⟩
                  · rw [if_pos b170] at h
                    refine ⟨trivial, ?_⟩
                    obtain rfl := Option.some.inj h
                    exact ⟨⟨trivial, trivial, trivial⟩, rfl, rfl⟩
                  · rw [if_neg (ff b170)] at h
                    refine ⟨trivial, trivial, ?_⟩
                    refine ⟨trivial, ?_⟩
                    refine ⟨trivial, ?_⟩
                    exact ⟨⟨trivial, trivial, trivial⟩, ih t138.1 t138.2.1 t138.2.2 t136 false (IntKind.wrap .i64 (x87 + (1 : Int))) r h⟩
            · rw [if_neg (not_not_intro (not_f b155))] at h
              refine ⟨b155, ?_⟩
              refine ⟨b155, ?_⟩
              refine ⟨rfl, ?_⟩
              refine ⟨rfl, ?_⟩
              refine ⟨rfl, ?_⟩
              refine ⟨rfl, ?_⟩
              refine ⟨rfl, ?_⟩
              refine ⟨rfl, ?_⟩
              refine ⟨rfl, ?_⟩
              refine ⟨rfl, ?_⟩
              refine ⟨rfl, ?_⟩
              refine ⟨trivial, ?_⟩
              refine ⟨rfl, ?_⟩
              refine ⟨rfl, ?_⟩
              obtain ⟨t171, ht171, h⟩ := of_bind h
              refine ⟨t171, ⟨sigset_Has.fun_ ht171, trivial⟩, ?_⟩
              refine ⟨rfl, ?_⟩
              refine ⟨fun b172 => ?_, fun b172 => ?_⟩
              · rw [if_pos b172] at h
                refine ⟨trivial, ?_⟩
                obtain rfl := Option.some.inj h
                exact ⟨⟨trivial, trivial, trivial⟩, rfl, rfl⟩
              · rw [if_neg (ff b172)] at h
                refine ⟨trivial, ?_⟩
                obtain ⟨t173, ht173, h⟩ := of_bind h
                refine ⟨t173, ⟨sigset_Has.fun_ ht173, trivial⟩, ?_⟩
                refine ⟨fun b174 => ?_, fun b174 => ?_⟩
                · rw [if_pos b174] at h
                  refine ⟨trivial, ?_⟩
                  obtain rfl := Option.some.inj h
                  exact ⟨⟨trivial, trivial, trivial⟩, rfl, rfl⟩
                · rw [if_neg (ff b174)] at h
                  refine ⟨trivial, trivial, ?_⟩
                  refine ⟨trivial, ?_⟩
                  refine ⟨trivial, ?_⟩
                  exact ⟨⟨trivial, trivial, trivial⟩, ih t138.1 t138.2.1 t138.2.2 t136 false (IntKind.wrap .i64 (x87 + (1 : Int))) r h⟩
        · rw [if_pos (beq_t b139)] at h
          refine ⟨b139, ?_⟩
          refine ⟨b139, ?_⟩
          refine ⟨rfl, ?_⟩
          refine ⟨fun b140 => ?_, fun b140 => ?_⟩
          · rw [if_pos (ff (not_t b140))] at h
            refine ⟨b140, ?_⟩
            refine ⟨trivial, ?_⟩
            refine ⟨b140, ?_⟩
            refine ⟨fun b141 => ?_, fun b141 => ?_⟩
            · rw [if_neg (not_not_intro (bne_f b141))] at h
              refine ⟨b141, ?_⟩
              refine ⟨trivial, ?_⟩
              refine ⟨b140, ?_⟩
              refine ⟨b141, ?_⟩
              refine ⟨b140, ?_⟩
              refine ⟨fun b142 => ?_, fun b142 => ?_⟩
              · rw [if_pos (bne_t b142)] at h
                refine ⟨trivial, ?_⟩
                obtain rfl := Option.some.inj h
                exact ⟨⟨trivial, trivial, trivial⟩, rfl, rfl⟩
              · rw [if_neg (not_not_intro (bne_f b142))] at h
                refine ⟨trivial, ?_⟩
                obtain ⟨t143, ht143, h⟩ := of_bind h
                refine ⟨t143, ⟨sigset_Has.fun_ ht143, trivial⟩, ?_⟩
                refine ⟨fun b144 => ?_, fun b144 => ?_⟩
                · rw [if_pos b144] at h
                  refine ⟨trivial, ?_⟩
                  obtain rfl := Option.some.inj h
                  exact ⟨⟨trivial, trivial, trivial⟩, rfl, rfl⟩
                · rw [if_neg (ff b144)] at h
                  refine ⟨trivial, trivial, ?_⟩
                  refine ⟨trivial, ?_⟩
                  refine ⟨trivial, ?_⟩
                  exact ⟨⟨trivial, trivial, trivial⟩, ih t138.1 t138.2.1 t138.2.2 t136 false (IntKind.wrap .i64 (x87 + (1 : Int))) r h⟩
            · rw [if_pos (bne_t b141)] at h
              refine ⟨b141, ?_⟩
              refine ⟨b140, ?_⟩
              refine ⟨b141, ?_⟩
              refine ⟨b140, ?_⟩
              refine ⟨rfl, ?_⟩
              refine ⟨trivial, ?_⟩
              obtain rfl := Option.some.inj h
              exact ⟨⟨trivial, trivial, trivial⟩, rfl, rfl⟩
          · rw [if_neg (not_not_intro (not_f b140))] at h
            refine ⟨b140, ?_⟩
            refine ⟨b140, ?_⟩
            refine ⟨b140, ?_⟩
            refine ⟨b140, ?_⟩
            refine ⟨rfl, ?_⟩
            refine ⟨trivial, ?_⟩
            obtain ⟨t145, ht145, h⟩ := of_bind h
            refine ⟨t145, ⟨sigset_Has.fun_ ht145, trivial⟩, ?_⟩
            refine ⟨fun b146 => ?_, fun b146 => ?_⟩
            · rw [if_pos b146] at h
              refine ⟨trivial, ?_⟩
              obtain rfl := Option.some.inj h
              exact ⟨⟨trivial, trivial, trivial⟩, rfl, rfl⟩
            · rw [if_neg (ff b146)] at h
              refine ⟨trivial, trivial, ?_⟩
              refine ⟨trivial, ?_⟩
              refine ⟨trivial, ?_⟩
              exact ⟨⟨trivial, trivial, trivial⟩, ih t138.1 t138.2.1 t138.2.2 t136 false (IntKind.wrap .i64 (x87 + (1 : Int))) r h⟩
    · rw [if_neg (of_decide_eq_false b135)] at h
      obtain rfl := Option.some.inj h
      exact ⟨⟨trivial, trivial, trivial⟩, rfl, rfl⟩
def halterlaw25_SigOrder.f (a0 : (List Int)) (a1 : Int) : Option Bool :=
  (sig_Mask.f (0 : Int) (0 : Int) (List.replicate 32 (0 : Int)) (2 : Int) a1).bind fun t1 =>
  if ¬ (t1.2.2.2 = none) then
    some false
  else
    if (((List.length a0) : Nat) : Int) > (60 : Int) then
      halterlaw25_sure.f.bind fun t4 =>
      some t4
    else
      (halterlaw25_SigOrder.l0 a0 FUEL t1.1 t1.2.1 t1.2.2.1 (0 : Int)).bind fun t24 =>
      match t24 with
      | .inl t35 =>
        (halterlaw25_SigOrder.l1 FUEL t35.1 t35.2.1 t35.2.2 (0 : Int) true (0 : Int)).bind fun t134 =>
        match t134 with
        | .inl t181 =>
          (sig_Next.f t181.1 t181.2.1 t181.2.2).bind fun t185 =>
          if t185 = (0 : Int) then
            if (bits .andNot .u32 t181.1 t181.2.1) = (0 : Int) then
              halterlaw25_sure.f.bind fun t188 =>
              some t188
            else
              some false
          else
            some false
        | .inr t189 =>
          some false
      | .inr t193 =>
        some false
def halterlaw25_SigOrder.R (r : Bool) : Tm := .v (.one (.sc (.bool r)))
theorem halterlaw25_SigOrder.fun_ {a0 : (List Int)} {a1 : Int} {r : Bool} (h : halterlaw25_SigOrder.f a0 a1 = some r) : Fun cfg 3 [.one (.fs (.int .i64) a0 false), .one (.sc (.int .u32 a1))] [] (halterlaw25_SigOrder.R r) [] := by
  unfold halterlaw25_SigOrder.f at h
  refine fun_of_run cfg_ok (f := 3) (fn := Tryd.f3) Tryd.func3 rfl (by kernel_rfl) (rs := [.tmp 4]) rfl (nt := 123) rfl (l := fin) (k := (.call true [] (Int × Int × (List Int) × (Option Int)) (fun t1 => sig_Mask.R t1) (fun t1 => (.br (.one true (.one true (.one true (.one true (.one false (.one false (.adj [] (.adj [.drop 0] .nil)))))))) (.one false (.one false (.one false (.br (.one true (.call true [] (Bool) (fun t4 => halterlaw25_sure.R t4) (fun t4 => (.one true (.adj [] (.adj [.drop 0] .nil)))))) (.adj [] (.adj [] (.adj [.keep [0, 5, 7]] (.alt (.sub (Int × Int × (List Int)) (fun _ => (.exit 0)) (fun t35 => ⟨[.any, .any, .any, .any, .any, .v (.one (.ptr 0 ⟨0, 0, 0, 0⟩)), .any, .any, .any, .any, .any, .any, .any, .any, .any, .any, .any, .any, .any, .any, .any, .any, .any, .any, .any, .any, .any, .any, .any, .any, .any, .any, .any, .any, .any, .any, .any, .any, .any, .any, .any, .any, .any, .any, .any, .any, .any, .any, .any, .any, .any, .any, .any, .any, .any, .any, .any, .any, .any, .any, .any, .any, .any, .any, .any, .any, .any, .any, .any, .any, .any, .any, .any, .any, .any, .any, .any, .any, .any, .any, .any, .any, .any, .any, .any, .any, .any, .any, .any, .any, .any, .any, .any, .any, .any, .any, .any, .any, .any, .any, .any, .any, .any, .any, .any, .any, .any, .any, .any, .any, .any, .any, .any, .any, .any, .any, .any, .any, .any, .any, .any, .any, .any], [.ex false [.c (.sc (.int .u32 t35.1)), .c (.sc (.int .u32 t35.2.1)), .row 32 (.int .u32) t35.2.2] 27], 0⟩) (fun t35 => (.adj [] (.adj [] (.adj [.keep [5, 10, 11, 12]] (.alt (.sub (Int × Int × (List Int)) (fun _ => (.exit 2)) (fun t181 => ⟨[.any, .any, .any, .any, .any, .v (.one (.ptr 0 ⟨0, 0, 0, 0⟩)), .any, .any, .any, .any, .any, .any, .any, .any, .any, .any, .any, .any, .any, .any, .any, .any, .any, .any, .any, .any, .any, .any, .any, .any, .any, .any, .any, .any, .any, .any, .any, .any, .any, .any, .any, .any, .any, .any, .any, .any, .any, .any, .any, .any, .any, .any, .any, .any, .any, .any, .any, .any, .any, .any, .any, .any, .any, .any, .any, .any, .any, .any, .any, .any, .any, .any, .any, .any, .any, .any, .any, .any, .any, .any, .any, .any, .any, .any, .any, .any, .any, .any, .any, .any, .any, .any, .any, .any, .any, .any, .any, .any, .any, .any, .any, .any, .any, .any, .any, .any, .any, .any, .any, .any, .any, .any, .any, .any, .any, .any, .any, .any, .any, .any, .any, .any, .any], [.ex false [.c (.sc (.int .u32 t181.1)), .c (.sc (.int .u32 t181.2.1)), .row 32 (.int .u32) t181.2.2] 27], 0⟩) (fun t181 => (.call true [] (Int) (fun t185 => sig_Next.R t185) (fun t185 => (.br (.one true (.one true (.one true (.one true (.one true (.one true (.br (.call true [] (Bool) (fun t188 => halterlaw25_sure.R t188) (fun t188 => (.one true (.adj [] (.adj [.drop 0] .nil))))) (.one false (.adj [] (.adj [.drop 0] .nil)))))))))) (.one false (.one false (.one false (.one false (.one false (.one false (.one false (.one false (.adj [] (.adj [.drop 0] .nil))))))))))))))) (.sub (Int × Int × (List Int)) (fun _ => .ret) (fun t189 => ⟨[.any, .any, .any, .any, .v (.one (.sc (.bool false))), .any, .any, .any, .any, .any, .any, .any, .any, .any, .any, .any, .any, .any, .any, .any, .any, .any, .any, .any, .any, .any, .any, .any, .any, .any, .any, .any, .any, .any, .any, .any, .any, .any, .any, .any, .any, .any, .any, .any, .any, .any, .any, .any, .any, .any, .any, .any, .any, .any, .any, .any, .any, .any, .any, .any, .any, .any, .any, .any, .any, .any, .any, .any, .any, .any, .any, .any, .any, .any, .any, .any, .any, .any, .any, .any, .any, .any, .any, .any, .any, .any, .any, .any, .any, .any, .any, .any, .any, .any, .any, .any, .any, .any, .any, .any, .any, .any, .any, .any, .any, .any, .any, .any, .any, .any, .any, .any, .any, .any, .any, .any, .any, .any, .any, .any, .any, .any, .any], [.ex false [.c (.sc (.int .u32 t189.1)), .c (.sc (.int .u32 t189.2.1)), .row 32 (.int .u32) t189.2.2] 27], 0⟩) (fun t189 => (.adj [.drop 0] .nil))))))))) (.sub (Int × Int × (List Int)) (fun _ => .ret) (fun t193 => ⟨[.any, .any, .any, .any, .v (.one (.sc (.bool false))), .any, .any, .any, .any, .any, .any, .any, .any, .any, .any, .any, .any, .any, .any, .any, .any, .any, .any, .any, .any, .any, .any, .any, .any, .any, .any, .any, .any, .any, .any, .any, .any, .any, .any, .any, .any, .any, .any, .any, .any, .any, .any, .any, .any, .any, .any, .any, .any, .any, .any, .any, .any, .any, .any, .any, .any, .any, .any, .any, .any, .any, .any, .any, .any, .any, .any, .any, .any, .any, .any, .any, .any, .any, .any, .any, .any, .any, .any, .any, .any, .any, .any, .any, .any, .any, .any, .any, .any, .any, .any, .any, .any, .any, .any, .any, .any, .any, .any, .any, .any, .any, .any, .any, .any, .any, .any, .any, .any, .any, .any, .any, .any, .any, .any, .any, .any, .any, .any], [.ex false [.c (.sc (.int .u32 t193.1)), .c (.sc (.int .u32 t193.2.1)), .row 32 (.int .u32) t193.2.2] 27], 0⟩) (fun t193 => (.adj [.drop 0] .nil))))))))))))))) (to_goal (q := (∃ t1 : Int × Int × (List Int) × (Option Int), (Fun cfg 6 [.agg [.c (.sc (.int .u32 (0 : Int))), .c (.sc (.int .u32 (0 : Int))), .row 32 (.int .u32) (List.replicate 32 (0 : Int))], .one (.sc (.int .i64 (2 : Int))), .one (.sc (.int .u32 a1))] [] (sig_Mask.R t1) [] ∧ True) ∧ (True) ∧ (True) ∧ (((!(Option.isNone t1.2.2.2)) = false → ((!(Option.isNone t1.2.2.2)) = false ∧ (True) ∧ ((!(Option.isNone t1.2.2.2)) = false ∧ (True) ∧ ((!(Option.isNone t1.2.2.2)) = false ∧ (((decide ((((List.length a0) : Nat) : Int) > (60 : Int))) = true → (True) ∧ ((Option.isNone t1.2.2.2) = true ∧ (∃ t4 : Bool, (Fun cfg 7 [] [] (halterlaw25_sure.R t4) [] ∧ True) ∧ ((Option.isNone t1.2.2.2) = true ∧ (True ∧ ((True) ∧ ((True) ∧ True) ∧ (.v (.one (.sc (.bool t4))) : Tm) = halterlaw25_SigOrder.R r ∧ ([] : List Box) = [])))))) ∧ ((decide ((((List.length a0) : Nat) : Int) > (60 : Int))) = false → (True ∧ (True ∧ (((True) ∧ True) ∧ ((∃ t35 : Int × Int × (List Int), Trip cfg (.loop (cpath (Tryd.f3.body.getD .skip) [1, 1, 1, 0, 1, 0, 0])) ⟨[.v (.one (.fs (.int .i64) a0 false)), .any, .any, .any, .any, .v (.one (.ptr 0 ⟨0, 0, 0, 0⟩)), .any, .v (.one (.sc (.int .i64 (0 : Int)))), .any, .any, .any, .any, .any, .any, .any, .any, .any, .any, .any, .any, .any, .any, .any, .any, .any, .any, .any, .any, .any, .any, .any, .any, .any, .any, .any, .any, .any, .any, .any, .any, .any, .any, .any, .any, .any, .any, .any, .any, .any, .any, .any, .any, .any, .any, .any, .any, .any, .any, .any, .any, .any, .any, .any, .any, .any, .any, .any, .any, .any, .any, .any, .any, .any, .any, .any, .any, .any, .any, .any, .any, .any, .any, .any, .any, .any, .any, .any, .any, .any, .any, .any, .any, .any, .any, .any, .any, .any, .any, .any, .any, .any, .any, .any, .any, .any, .any, .any, .any, .any, .any, .any, .any, .any, .any, .any, .any, .any, .any, .any, .any, .any, .any, .any], [.ex false [.c (.sc (.int .u32 t1.1)), .c (.sc (.int .u32 t1.2.1)), .row 32 (.int .u32) t1.2.2.1] 27], 0⟩ (fun e s => e = (.exit 0) ∧ s = ⟨[.any, .any, .any, .any, .any, .v (.one (.ptr 0 ⟨0, 0, 0, 0⟩)), .any, .any, .any, .any, .any, .any, .any, .any, .any, .any, .any, .any, .any, .any, .any, .any, .any, .any, .any, .any, .any, .any, .any, .any, .any, .any, .any, .any, .any, .any, .any, .any, .any, .any, .any, .any, .any, .any, .any, .any, .any, .any, .any, .any, .any, .any, .any, .any, .any, .any, .any, .any, .any, .any, .any, .any, .any, .any, .any, .any, .any, .any, .any, .any, .any, .any, .any, .any, .any, .any, .any, .any, .any, .any, .any, .any, .any, .any, .any, .any, .any, .any, .any, .any, .any, .any, .any, .any, .any, .any, .any, .any, .any, .any, .any, .any, .any, .any, .any, .any, .any, .any, .any, .any, .any, .any, .any, .any, .any, .any, .any, .any, .any, .any, .any, .any, .any], [.ex false [.c (.sc (.int .u32 t35.1)), .c (.sc (.int .u32 t35.2.1)), .row 32 (.int .u32) t35.2.2] 27], 0⟩) ∧ (True ∧ (True ∧ (((True) ∧ True) ∧ ((∃ t181 : Int × Int × (List Int), Trip cfg (.loop (cpath (Tryd.f3.body.getD .skip) [1, 1, 1, 1, 1, 0, 1, 0, 0])) ⟨[.any, .any, .any, .any, .any, .v (.one (.ptr 0 ⟨0, 0, 0, 0⟩)), .any, .any, .any, .any, .v (.one (.sc (.int .i64 (0 : Int)))), .v (.one (.sc (.bool true))), .v (.one (.sc (.int .i64 (0 : Int)))), .any, .any, .any, .any, .any, .any, .any, .any, .any, .any, .any, .any, .any, .any, .any, .any, .any, .any, .any, .any, .any, .any, .any, .any, .any, .any, .any, .any, .any, .any, .any, .any, .any, .any, .any, .any, .any, .any, .any, .any, .any, .any, .any, .any, .any, .any, .any, .any, .any, .any, .any, .any, .any, .any, .any, .any, .any, .any, .any, .any, .any, .any, .any, .any, .any, .any, .any, .any, .any, .any, .any, .any, .any, .any, .any, .any, .any, .any, .any, .any, .any, .any, .any, .any, .any, .any, .any, .any, .any, .any, .any, .any, .any, .any, .any, .any, .any, .any, .any, .any, .any, .any, .any, .any, .any, .any, .any, .any, .any, .any], [.ex false [.c (.sc (.int .u32 t35.1)), .c (.sc (.int .u32 t35.2.1)), .row 32 (.int .u32) t35.2.2] 27], 0⟩ (fun e s => e = (.exit 2) ∧ s = ⟨[.any, .any, .any, .any, .any, .v (.one (.ptr 0 ⟨0, 0, 0, 0⟩)), .any, .any, .any, .any, .any, .any, .any, .any, .any, .any, .any, .any, .any, .any, .any, .any, .any, .any, .any, .any, .any, .any, .any, .any, .any, .any, .any, .any, .any, .any, .any, .any, .any, .any, .any, .any, .any, .any, .any, .any, .any, .any, .any, .any, .any, .any, .any, .any, .any, .any, .any, .any, .any, .any, .any, .any, .any, .any, .any, .any, .any, .any, .any, .any, .any, .any, .any, .any, .any, .any, .any, .any, .any, .any, .any, .any, .any, .any, .any, .any, .any, .any, .any, .any, .any, .any, .any, .any, .any, .any, .any, .any, .any, .any, .any, .any, .any, .any, .any, .any, .any, .any, .any, .any, .any, .any, .any, .any, .any, .any, .any, .any, .any, .any, .any, .any, .any], [.ex false [.c (.sc (.int .u32 t181.1)), .c (.sc (.int .u32 t181.2.1)), .row 32 (.int .u32) t181.2.2] 27], 0⟩) ∧ (True) ∧ (∃ t185 : Int, (Fun cfg 9 [.agg [.c (.sc (.int .u32 t181.1)), .c (.sc (.int .u32 t181.2.1)), .row 32 (.int .u32) t181.2.2]] [] (sig_Next.R t185) [] ∧ True) ∧ (True) ∧ (((t185 == (0 : Int)) = true → ((t185 == (0 : Int)) = true ∧ (True) ∧ ((t185 == (0 : Int)) = true ∧ ((t185 == (0 : Int)) = true ∧ (True) ∧ ((t185 == (0 : Int)) = true ∧ (True) ∧ ((t185 == (0 : Int)) = true ∧ (True) ∧ ((t185 == (0 : Int)) = true ∧ ((((bits .andNot .u32 t181.1 t181.2.1) == (0 : Int)) = true → (∃ t188 : Bool, (Fun cfg 7 [] [] (halterlaw25_sure.R t188) [] ∧ True) ∧ (((bits .andNot .u32 t181.1 t181.2.1) == (0 : Int)) = true ∧ (True ∧ ((True) ∧ ((True) ∧ True) ∧ (.v (.one (.sc (.bool t188))) : Tm) = halterlaw25_SigOrder.R r ∧ ([] : List Box) = []))))) ∧ (((bits .andNot .u32 t181.1 t181.2.1) == (0 : Int)) = false → (((bits .andNot .u32 t181.1 t181.2.1) == (0 : Int)) = false ∧ (True ∧ ((True) ∧ ((True) ∧ True) ∧ (.v (.one (.sc (.bool false))) : Tm) = halterlaw25_SigOrder.R r ∧ ([] : List Box) = [])))))))))))) ∧ ((t185 == (0 : Int)) = false → ((t185 == (0 : Int)) = false ∧ ((t185 == (0 : Int)) = false ∧ ((t185 == (0 : Int)) = false ∧ ((t185 == (0 : Int)) = false ∧ ((t185 == (0 : Int)) = false ∧ ((t185 == (0 : Int)) = false ∧ (false = false ∧ (false = false ∧ (True ∧ ((True) ∧ ((True) ∧ True) ∧ (.v (.one (.sc (.bool false))) : Tm) = halterlaw25_SigOrder.R r ∧ ([] : List Box) = [])))))))))))))) ∨ (∃ t189 : Int × Int × (List Int), Trip cfg (.loop (cpath (Tryd.f3.body.getD .skip) [1, 1, 1, 1, 1, 0, 1, 0, 0])) ⟨[.any, .any, .any, .any, .any, .v (.one (.ptr 0 ⟨0, 0, 0, 0⟩)), .any, .any, .any, .any, .v (.one (.sc (.int .i64 (0 : Int)))), .v (.one (.sc (.bool true))), .v (.one (.sc (.int .i64 (0 : Int)))), .any, .any, .any, .any, .any, .any, .any, .any, .any, .any, .any, .any, .any, .any, .any, .any, .any, .any, .any, .any, .any, .any, .any, .any, .any, .any, .any, .any, .any, .any, .any, .any, .any, .any, .any, .any, .any, .any, .any, .any, .any, .any, .any, .any, .any, .any, .any, .any, .any, .any, .any, .any, .any, .any, .any, .any, .any, .any, .any, .any, .any, .any, .any, .any, .any, .any, .any, .any, .any, .any, .any, .any, .any, .any, .any, .any, .any, .any, .any, .any, .any, .any, .any, .any, .any, .any, .any, .any, .any, .any, .any, .any, .any, .any, .any, .any, .any, .any, .any, .any, .any, .any, .any, .any, .any, .any, .any, .any, .any, .any], [.ex false [.c (.sc (.int .u32 t35.1)), .c (.sc (.int .u32 t35.2.1)), .row 32 (.int .u32) t35.2.2] 27], 0⟩ (fun e s => e = .ret ∧ s = ⟨[.any, .any, .any, .any, .v (.one (.sc (.bool false))), .any, .any, .any, .any, .any, .any, .any, .any, .any, .any, .any, .any, .any, .any, .any, .any, .any, .any, .any, .any, .any, .any, .any, .any, .any, .any, .any, .any, .any, .any, .any, .any, .any, .any, .any, .any, .any, .any, .any, .any, .any, .any, .any, .any, .any, .any, .any, .any, .any, .any, .any, .any, .any, .any, .any, .any, .any, .any, .any, .any, .any, .any, .any, .any, .any, .any, .any, .any, .any, .any, .any, .any, .any, .any, .any, .any, .any, .any, .any, .any, .any, .any, .any, .any, .any, .any, .any, .any, .any, .any, .any, .any, .any, .any, .any, .any, .any, .any, .any, .any, .any, .any, .any, .any, .any, .any, .any, .any, .any, .any, .any, .any, .any, .any, .any, .any, .any, .any], [.ex false [.c (.sc (.int .u32 t189.1)), .c (.sc (.int .u32 t189.2.1)), .row 32 (.int .u32) t189.2.2] 27], 0⟩) ∧ ((True) ∧ ((True) ∧ True) ∧ (.v (.one (.sc (.bool false))) : Tm) = halterlaw25_SigOrder.R r ∧ ([] : List Box) = []))))))) ∨ (∃ t193 : Int × Int × (List Int), Trip cfg (.loop (cpath (Tryd.f3.body.getD .skip) [1, 1, 1, 0, 1, 0, 0])) ⟨[.v (.one (.fs (.int .i64) a0 false)), .any, .any, .any, .any, .v (.one (.ptr 0 ⟨0, 0, 0, 0⟩)), .any, .v (.one (.sc (.int .i64 (0 : Int)))), .any, .any, .any, .any, .any, .any, .any, .any, .any, .any, .any, .any, .any, .any, .any, .any, .any, .any, .any, .any, .any, .any, .any, .any, .any, .any, .any, .any, .any, .any, .any, .any, .any, .any, .any, .any, .any, .any, .any, .any, .any, .any, .any, .any, .any, .any, .any, .any, .any, .any, .any, .any, .any, .any, .any, .any, .any, .any, .any, .any, .any, .any, .any, .any, .any, .any, .any, .any, .any, .any, .any, .any, .any, .any, .any, .any, .any, .any, .any, .any, .any, .any, .any, .any, .any, .any, .any, .any, .any, .any, .any, .any, .any, .any, .any, .any, .any, .any, .any, .any, .any, .any, .any, .any, .any, .any, .any, .any, .any, .any, .any, .any, .any, .any, .any], [.ex false [.c (.sc (.int .u32 t1.1)), .c (.sc (.int .u32 t1.2.1)), .row 32 (.int .u32) t1.2.2.1] 27], 0⟩ (fun e s => e = .ret ∧ s = ⟨[.any, .any, .any, .any, .v (.one (.sc (.bool false))), .any, .any, .any, .any, .any, .any, .any, .any, .any, .any, .any, .any, .any, .any, .any, .any, .any, .any, .any, .any, .any, .any, .any, .any, .any, .any, .any, .any, .any, .any, .any, .any, .any, .any, .any, .any, .any, .any, .any, .any, .any, .any, .any, .any, .any, .any, .any, .any, .any, .any, .any, .any, .any, .any, .any, .any, .any, .any, .any, .any, .any, .any, .any, .any, .any, .any, .any, .any, .any, .any, .any, .any, .any, .any, .any, .any, .any, .any, .any, .any, .any, .any, .any, .any, .any, .any, .any, .any, .any, .any, .any, .any, .any, .any, .any, .any, .any, .any, .any, .any, .any, .any, .any, .any, .any, .any, .any, .any, .any, .any, .any, .any, .any, .any, .any, .any, .any, .any], [.ex false [.c (.sc (.int .u32 t193.1)), .c (.sc (.int .u32 t193.2.1)), .row 32 (.int .u32) t193.2.2] 27], 0⟩) ∧ ((True) ∧ ((True) ∧ True) ∧ (.v (.one (.sc (.bool false))) : Tm) = halterlaw25_SigOrder.R r ∧ ([] : List Box) = [])))))))))))) ∧ ((!(Option.isNone t1.2.2.2)) = true → ((!(Option.isNone t1.2.2.2)) = true ∧ ((!(Option.isNone t1.2.2.2)) = true ∧ ((!(Option.isNone t1.2.2.2)) = true ∧ (true = true ∧ (True) ∧ ((Option.isNone t1.2.2.2) = false ∧ ((Option.isNone t1.2.2.2) = false ∧ (True ∧ ((True) ∧ ((True) ∧ True) ∧ (.v (.one (.sc (.bool false))) : Tm) = halterlaw25_SigOrder.R r ∧ ([] : List Box) = [])))))))))))) (by kernel_rfl) ?_)
  obtain ⟨t1, ht1, h⟩ := of_bind h
  refine ⟨t1, ⟨sig_Mask.fun_ ht1, trivial⟩, ?_⟩
  refine ⟨trivial, ?_⟩
  refine ⟨trivial, ?_⟩
  refine ⟨fun b2 => ?_, fun b2 => ?_⟩
  · rw [if_neg (not_not_intro (none_t (not_f b2)))] at h
    refine ⟨b2, ?_⟩
    refine ⟨trivial, ?_⟩
    refine ⟨b2, ?_⟩
    refine ⟨trivial, ?_⟩
    refine ⟨b2, ?_⟩
    refine ⟨fun b3 => ?_, fun b3 => ?_⟩
    · rw [if_pos (of_decide_eq_true b3)] at h
      refine ⟨trivial, ?_⟩
      refine ⟨(not_f b2), ?_⟩
      obtain ⟨t4, ht4, h⟩ := of_bind h
      refine ⟨t4, ⟨halterlaw25_sure.fun_ ht4, trivial⟩, ?_⟩
      refine ⟨(not_f b2), ?_⟩
      refine ⟨trivial, ?_⟩
      obtain rfl := Option.some.inj h
      exact ⟨trivial, ⟨trivial, trivial⟩, rfl, rfl⟩
    · rw [if_neg (of_decide_eq_false b3)] at h
      refine ⟨trivial, ?_⟩
      refine ⟨trivial, ?_⟩
      obtain ⟨t24, ht24, h⟩ := of_bind h
      refine ⟨⟨trivial, trivial⟩, ?_⟩
      rcases t24 with t35 | t193
      · dsimp only at h
        left
        refine ⟨t35, Trip.loop FUEL (halterlaw25_SigOrder.l0_ok a0 FUEL t1.1 t1.2.1 t1.2.2.1 (0 : Int) (.inl t35) ht24), ?_⟩
        refine ⟨trivial, ?_⟩
        refine ⟨trivial, ?_⟩
        obtain ⟨t134, ht134, h⟩ := of_bind h
        refine ⟨⟨trivial, trivial⟩, ?_⟩
        rcases t134 with t181 | t189
        · dsimp only at h
          left
          refine ⟨t181, Trip.loop FUEL (halterlaw25_SigOrder.l1_ok FUEL t35.1 t35.2.1 t35.2.2 (0 : Int) true (0 : Int) (.inl t181) ht134), ?_⟩
          refine ⟨trivial, ?_⟩
          obtain ⟨t185, ht185, h⟩ := of_bind h
          refine ⟨t185, ⟨sig_Next.fun_ ht185, trivial⟩, ?_⟩
          refine ⟨trivial, ?_⟩
          refine ⟨fun b186 => ?_, fun b186 => ?_⟩
          · rw [if_pos (beq_t b186)] at h
            refine ⟨b186, ?_⟩
            refine ⟨trivial, ?_⟩
            refine ⟨b186, ?_⟩
            refine ⟨b186, ?_⟩
            refine ⟨trivial, ?_⟩
            refine ⟨b186, ?_⟩
            refine ⟨trivial, ?_⟩
            refine ⟨b186, ?_⟩
            refine ⟨trivial, ?_⟩
            refine ⟨b186, ?_⟩
            refine ⟨fun b187 => ?_, fun b187 => ?_⟩
            · rw [if_pos (beq_t b187)] at h
              obtain ⟨t188, ht188, h⟩ := of_bind h
              refine ⟨t188, ⟨halterlaw25_sure.fun_ ht188, trivial⟩, ?_⟩
              refine ⟨b187, ?_⟩
              refine ⟨trivial, ?_⟩
              obtain rfl := Option.some.inj h
              exact ⟨trivial, ⟨trivial, trivial⟩, rfl, rfl⟩
            · rw [if_neg (beq_f b187)] at h
              refine ⟨b187, ?_⟩
              refine ⟨trivial, ?_⟩
              obtain rfl := Option.some.inj h
              exact ⟨trivial, ⟨trivial, trivial⟩, rfl, rfl⟩
          · rw [if_neg (beq_f b186)] at h
            refine ⟨b186, ?_⟩
            refine ⟨b186, ?_⟩
            refine ⟨b186, ?_⟩
            refine ⟨b186, ?_⟩
            refine ⟨b186, ?_⟩
            refine ⟨b186, ?_⟩
            refine ⟨rfl, ?_⟩
            refine ⟨rfl, ?_⟩
            refine ⟨trivial, ?_⟩
            obtain rfl := Option.some.inj h
            exact ⟨trivial, ⟨trivial, trivial⟩, rfl, rfl⟩
        · dsimp only at h
          right
          refine ⟨t189, Trip.loop FUEL (halterlaw25_SigOrder.l1_ok FUEL t35.1 t35.2.1 t35.2.2 (0 : Int) true (0 : Int) (.inr t189) ht134), ?_⟩
          obtain rfl := Option.some.inj h
          exact ⟨trivial, ⟨trivial, trivial⟩, rfl, rfl⟩
      · dsimp only at h
        right
        refine ⟨t193, Trip.loop FUEL (halterlaw25_SigOrder.l0_ok a0 FUEL t1.1 t1.2.1 t1.2.2.1 (0 : Int) (.inr t193) ht24), ?_⟩
        obtain rfl := Option.some.inj h
        exact ⟨trivial, ⟨trivial, trivial⟩, rfl, rfl⟩
  · rw [if_pos (none_f (not_t b2))] at h
    refine ⟨b2, ?_⟩
    refine ⟨b2, ?_⟩
    refine ⟨b2, ?_⟩
    refine ⟨rfl, ?_⟩
    refine ⟨trivial, ?_⟩
    refine ⟨(not_t b2), ?_⟩
    refine ⟨(not_t b2), ?_⟩
    refine ⟨trivial, ?_⟩
    obtain rfl := Option.some.inj h
    exact ⟨trivial, ⟨trivial, trivial⟩, rfl, rfl⟩
end Go.Proofs.YtmpdijmcoboiiaaDoorGSigOrder
