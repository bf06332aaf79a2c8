/- Printed by gen.py: what functions of the program compute, in plain Lean, and that they do. -/
import Derived.Test.YtmpdijmcoboiiaaDoorE15
import Derived.Test.YtmpdijmcoboiiaaDoorN
set_option linter.unusedVariables false
set_option maxRecDepth 100000
set_option maxHeartbeats 4000000
namespace Go.Proofs.YtmpdijmcoboiiaaDoorGSigLaws
open Go Go.Proofs.YtmpdijmcoboiiaaDoorE
def tiL : List (Nat × TI) := [
  (3, ⟨1, 8, false, .int .i64, [.c (.sc (.int .i64 (0 : Int)))], some (.int .i64)⟩),
  (4, ⟨1, 1, false, .bool, [.c (.sc (.bool false))], some .bool⟩),
  (5, ⟨1, 1, false, .int .u8, [.c (.sc (.int .u8 (0 : Int)))], some (.int .u8)⟩),
  (9, ⟨1, 16, false, .str, [.c (.sc (.string ByteArray.empty))], some .str⟩),
  (23, ⟨1, 4, false, .int .u32, [.c (.sc (.int .u32 (0 : Int)))], some (.int .u32)⟩),
  (24, ⟨1, 4, false, .int .u32, [.c (.sc (.int .u32 (0 : Int)))], some (.int .u32)⟩),
  (25, ⟨32, 128, true, (.array 32 23), [.row 32 (.int .u32) (List.replicate 32 (0 : Int))], some (.arr 32 (.int .u32))⟩),
  (27, ⟨34, 136, true, (.struct [(0, 24), (1, 24), (2, 25)]), [.c (.sc (.int .u32 (0 : Int))), .c (.sc (.int .u32 (0 : Int))), .row 32 (.int .u32) (List.replicate 32 (0 : Int))], some (.pair (.int .u32) (.pair (.int .u32) (.arr 32 (.int .u32))))⟩),
  (29, ⟨1, 16, false, .iface, [.c (.err none)], none⟩),
  (34, ⟨1, 8, false, .int .u64, [.c (.sc (.int .u64 (0 : Int)))], some (.int .u64)⟩),
  (39, ⟨1, 24, false, (.slice 41), [.c (.sc (.slice none 0 0))], some (.sl (.pair (.int .i64) (.pair (.int .i64) (.int .u32))))⟩),
  (41, ⟨3, 24, true, (.struct [(0, 3), (1, 3), (2, 23)]), [.c (.sc (.int .i64 (0 : Int))), .c (.sc (.int .i64 (0 : Int))), .c (.sc (.int .u32 (0 : Int)))], some (.pair (.int .i64) (.pair (.int .i64) (.int .u32)))⟩),
  (49, ⟨2, 16, true, (.array 2 3), [.row 2 (.int .i64) (List.replicate 2 (0 : Int))], some (.arr 2 (.int .i64))⟩),
  (62, ⟨1, 8, false, .int .i64, [.c (.sc (.int .i64 (0 : Int)))], some (.int .i64)⟩),
  (85, ⟨32, 32, true, (.array 32 5), [.row 32 (.int .u8) (List.replicate 32 (0 : Int))], some (.arr 32 (.int .u8))⟩)]
def tab1 : List Int := [0, 1, 28, 2, 29, 14, 24, 3, 30, 22, 20, 15, 25, 17, 4, 8, 31, 27, 13, 23, 21, 19, 16, 7, 26, 12, 18, 6, 11, 5, 10, 9]
def tabs : List (Nat × IntKind × List Int) := [(1, .u8, tab1)]
noncomputable def cfg : Cfg := ⟨Tryd.prog, 62, [(⟨0, 0, none⟩, .iface 87 (.agg #[.pointer (some ⟨2, 29, none⟩)]))] ++ tabs.flatMap tabG, tiL, [], tabs⟩
theorem cfg_ok : COk cfg := by
  refine ⟨fun p hp => ?_, by kernel_rfl, fun p hp => ?_, fun t ht => ?_, fun x hx y hy => List.mem_append_right _ (List.mem_flatMap.2 ⟨x, hx, hy⟩)⟩
  · simp only [cfg, tiL, List.mem_cons, List.not_mem_nil, or_false] at hp
    rcases hp with rfl | rfl | rfl | rfl | rfl | rfl | rfl | rfl | rfl | rfl | rfl | rfl | rfl | rfl | rfl <;> exact ⟨by kernel_rfl, by kernel_rfl, by kernel_rfl, by kernel_rfl, by kernel_rfl, by kernel_rfl⟩
  · simp only [cfg, tiL, List.mem_cons, List.not_mem_nil, or_false] at hp
    rcases hp with rfl | rfl | rfl | rfl | rfl | rfl | rfl | rfl | rfl | rfl | rfl | rfl | rfl | rfl | rfl <;> intro fs hfs bl hbl
    · cases hfs
    · cases hfs
    · cases hfs
    · cases hfs
    · cases hfs
    · cases hfs
    · cases hfs
    · cases hfs
      have e : fieldsZ cfg.L 0 [(0, 24), (1, 24), (2, 25)] = some [[.c (.sc (.int .u32 (0 : Int)))], [.c (.sc (.int .u32 (0 : Int)))], [.row 32 (.int .u32) (List.replicate 32 (0 : Int))]] := by kernel_rfl
      rw [e] at hbl
      cases hbl
      exact (by kernel_rfl : encPs (List.flatten [[.c (.sc (.int .u32 (0 : Int)))], [.c (.sc (.int .u32 (0 : Int)))], [.row 32 (.int .u32) (List.replicate 32 (0 : Int))]]) = encPs [.c (.sc (.int .u32 (0 : Int))), .c (.sc (.int .u32 (0 : Int))), .row 32 (.int .u32) (List.replicate 32 (0 : Int))])
    · cases hfs
    · cases hfs
    · cases hfs
    · cases hfs
      have e : fieldsZ cfg.L 0 [(0, 3), (1, 3), (2, 23)] = some [[.c (.sc (.int .i64 (0 : Int)))], [.c (.sc (.int .i64 (0 : Int)))], [.c (.sc (.int .u32 (0 : Int)))]] := by kernel_rfl
      rw [e] at hbl
      cases hbl
      exact (by kernel_rfl : encPs (List.flatten [[.c (.sc (.int .i64 (0 : Int)))], [.c (.sc (.int .i64 (0 : Int)))], [.c (.sc (.int .u32 (0 : Int)))]]) = encPs [.c (.sc (.int .i64 (0 : Int))), .c (.sc (.int .i64 (0 : Int))), .c (.sc (.int .u32 (0 : Int)))])
    · cases hfs
    · cases hfs
    · cases hfs
  · cases ht
def fin : Scr → List Adj
  | .adj l _ => l
  | _ => []
/-! the error's number -/
def num.f (a0 : Option Int) : Option Int := some (a0.getD 0)
def num.R (r : Int) : Tm := .v (.one (.sc (.int .i64 r)))
theorem num.fun_ {a0 : Option Int} {r : Int} (h : num.f a0 = some r) : Fun cfg 22 [.one (.err a0)] [] (num.R r) [] := by
  refine Fun.of_below (f := 22) (fn := Tryd.f22) Tryd.func22 rfl (by kernel_rfl) (r := .int .i64 r) (fun X => ⟨⟨rfl, rfl⟩, rfl⟩) fun X vs hE hvs hG => ?_
  obtain ⟨v, us, rfl, hv, rfl⟩ := hvs
  have hv : v = errV X.E a0 := hv.1
  have he : errV cfg.E a0 = YtmpdijmcoboiiaaDoorN.errW a0 := by cases a0 <;> rfl
  rw [hv, hE, he]
  exact YtmpdijmcoboiiaaDoorN.num.calls a0 r X.w (hG _ (List.mem_append_left _ (List.mem_cons_self ..))) h
/-! halter/sig.Check -/
def sig_Check.f (a0 : Int) (a1 : Int) (a2 : (List Int)) : Option (Option Int) :=
  if ¬ (bits .and .u32 a1 (262400 : Int)) = (0 : Int) then
    some (some (22 : Int))
  else
    if ¬ (List.getD a2 0 (0 : Int)) = (0 : Int) then
      some (some (22 : Int))
    else
      if ¬ (List.getD a2 9 (0 : Int)) = (0 : Int) then
        some (some (22 : Int))
      else
        if ¬ (List.getD a2 19 (0 : Int)) = (0 : Int) then
          some (some (22 : Int))
        else
          if a0 > (2147483647 : Int) then
            some (some (22 : Int))
          else
            if a1 > (2147483647 : Int) then
              some (some (22 : Int))
            else
              some none
def sig_Check.R (r : (Option Int)) : Tm := .v (.one (.err r))
theorem sig_Check.fun_ {a0 : Int} {a1 : Int} {a2 : (List Int)} {r : (Option Int)} (h : sig_Check.f a0 a1 a2 = some r) : Fun cfg 14 [.agg [.c (.sc (.int .u32 a0)), .c (.sc (.int .u32 a1)), .row 32 (.int .u32) a2]] [] (sig_Check.R r) [] := by
  unfold sig_Check.f at h
  refine fun_of_run cfg_ok (f := 14) (fn := Tryd.f14) Tryd.func14 rfl (by kernel_rfl) (rs := [.tmp 2]) rfl (nt := 36) rfl (l := fin) (k := (.br (.one true (.one true (.one true (.one true (.one true (.one true (.one true (.one true (.one true (.one true (.one true (.one true (.one true (.one true (.one true (.one true (.one true (.one true (.one true (.one true (.one true (.one true (.one true (.adj [] (.adj [] (.adj [.drop 0] .nil)))))))))))))))))))))))))) (.one false (.one false (.one false (.one false (.br (.one true (.one true (.one true (.one true (.one true (.one true (.one true (.one true (.one true (.one true (.one true (.one true (.one true (.one true (.one true (.one true (.one true (.one true (.adj [] (.adj [] (.adj [.drop 0] .nil))))))))))))))))))))) (.one false (.one false (.one false (.one false (.br (.one true (.one true (.one true (.one true (.one true (.one true (.one true (.one true (.one true (.one true (.one true (.one true (.one true (.adj [] (.adj [] (.adj [.drop 0] .nil)))))))))))))))) (.one false (.one false (.one false (.one false (.br (.one true (.one true (.one true (.one true (.one true (.one true (.one true (.one true (.adj [] (.adj [] (.adj [.drop 0] .nil))))))))))) (.one false (.one false (.one false (.br (.one true (.one true (.one true (.one true (.adj [] (.adj [] (.adj [.drop 0] .nil))))))) (.one false (.one false (.one false (.br (.adj [] (.adj [] (.adj [.drop 0] .nil))) (.adj [] (.adj [] (.adj [] (.adj [.drop 0] .nil))))))))))))))))))))))))))))) (to_goal (q := (True) ∧ (True) ∧ (True) ∧ ((((bits .and .u32 a1 (262400 : Int)) != (0 : Int)) = false → (((bits .and .u32 a1 (262400 : Int)) != (0 : Int)) = false ∧ (0 ≤ (0 : Int) ∧ (0 : Int) < ((32 : Nat) : Int)) ∧ (((bits .and .u32 a1 (262400 : Int)) != (0 : Int)) = false ∧ (0 < 32) ∧ (((bits .and .u32 a1 (262400 : Int)) != (0 : Int)) = false ∧ (True) ∧ (((bits .and .u32 a1 (262400 : Int)) != (0 : Int)) = false ∧ ((((List.getD a2 0 (0 : Int)) != (0 : Int)) = false → (((List.getD a2 0 (0 : Int)) != (0 : Int)) = false ∧ (0 ≤ (9 : Int) ∧ (9 : Int) < ((32 : Nat) : Int)) ∧ (((List.getD a2 0 (0 : Int)) != (0 : Int)) = false ∧ (9 < 32) ∧ (((List.getD a2 0 (0 : Int)) != (0 : Int)) = false ∧ (True) ∧ (((List.getD a2 0 (0 : Int)) != (0 : Int)) = false ∧ ((((List.getD a2 9 (0 : Int)) != (0 : Int)) = false → (((List.getD a2 9 (0 : Int)) != (0 : Int)) = false ∧ (0 ≤ (19 : Int) ∧ (19 : Int) < ((32 : Nat) : Int)) ∧ (((List.getD a2 9 (0 : Int)) != (0 : Int)) = false ∧ (19 < 32) ∧ (((List.getD a2 9 (0 : Int)) != (0 : Int)) = false ∧ (True) ∧ (((List.getD a2 9 (0 : Int)) != (0 : Int)) = false ∧ ((((List.getD a2 19 (0 : Int)) != (0 : Int)) = false → (((List.getD a2 19 (0 : Int)) != (0 : Int)) = false ∧ (True) ∧ (((List.getD a2 19 (0 : Int)) != (0 : Int)) = false ∧ (True) ∧ (((List.getD a2 19 (0 : Int)) != (0 : Int)) = false ∧ (((decide (a0 > (2147483647 : Int))) = false → ((decide (a0 > (2147483647 : Int))) = false ∧ (True) ∧ ((decide (a0 > (2147483647 : Int))) = false ∧ (True) ∧ ((decide (a0 > (2147483647 : Int))) = false ∧ (((decide (a1 > (2147483647 : Int))) = true → (True ∧ (True ∧ ((True) ∧ ((True) ∧ True) ∧ (.v (.one (.err (some (22 : Int)))) : Tm) = sig_Check.R r ∧ ([] : List Box) = [])))) ∧ ((decide (a1 > (2147483647 : Int))) = false → (True ∧ (True ∧ (True ∧ ((True) ∧ ((True) ∧ True) ∧ (.v (.one (.err none)) : Tm) = sig_Check.R r ∧ ([] : List Box) = [])))))))))) ∧ ((decide (a0 > (2147483647 : Int))) = true → ((decide (a0 > (2147483647 : Int))) = true ∧ ((decide (a0 > (2147483647 : Int))) = true ∧ ((decide (a0 > (2147483647 : Int))) = true ∧ (true = true ∧ (True ∧ (True ∧ ((True) ∧ ((True) ∧ True) ∧ (.v (.one (.err (some (22 : Int)))) : Tm) = sig_Check.R r ∧ ([] : List Box) = []))))))))))))) ∧ (((List.getD a2 19 (0 : Int)) != (0 : Int)) = true → (((List.getD a2 19 (0 : Int)) != (0 : Int)) = true ∧ (((List.getD a2 19 (0 : Int)) != (0 : Int)) = true ∧ (((List.getD a2 19 (0 : Int)) != (0 : Int)) = true ∧ (true = true ∧ (true = true ∧ (true = true ∧ (true = true ∧ (true = true ∧ (True ∧ (True ∧ ((True) ∧ ((True) ∧ True) ∧ (.v (.one (.err (some (22 : Int)))) : Tm) = sig_Check.R r ∧ ([] : List Box) = [])))))))))))))))))) ∧ (((List.getD a2 9 (0 : Int)) != (0 : Int)) = true → (((List.getD a2 9 (0 : Int)) != (0 : Int)) = true ∧ (((List.getD a2 9 (0 : Int)) != (0 : Int)) = true ∧ (((List.getD a2 9 (0 : Int)) != (0 : Int)) = true ∧ (((List.getD a2 9 (0 : Int)) != (0 : Int)) = true ∧ (true = true ∧ (true = true ∧ (true = true ∧ (true = true ∧ (true = true ∧ (true = true ∧ (true = true ∧ (true = true ∧ (true = true ∧ (True ∧ (True ∧ ((True) ∧ ((True) ∧ True) ∧ (.v (.one (.err (some (22 : Int)))) : Tm) = sig_Check.R r ∧ ([] : List Box) = []))))))))))))))))))))))) ∧ (((List.getD a2 0 (0 : Int)) != (0 : Int)) = true → (((List.getD a2 0 (0 : Int)) != (0 : Int)) = true ∧ (((List.getD a2 0 (0 : Int)) != (0 : Int)) = true ∧ (((List.getD a2 0 (0 : Int)) != (0 : Int)) = true ∧ (((List.getD a2 0 (0 : Int)) != (0 : Int)) = true ∧ (true = true ∧ (true = true ∧ (true = true ∧ (true = true ∧ (true = true ∧ (true = true ∧ (true = true ∧ (true = true ∧ (true = true ∧ (true = true ∧ (true = true ∧ (true = true ∧ (true = true ∧ (true = true ∧ (True ∧ (True ∧ ((True) ∧ ((True) ∧ True) ∧ (.v (.one (.err (some (22 : Int)))) : Tm) = sig_Check.R r ∧ ([] : List Box) = [])))))))))))))))))))))))))))) ∧ (((bits .and .u32 a1 (262400 : Int)) != (0 : Int)) = true → (((bits .and .u32 a1 (262400 : Int)) != (0 : Int)) = true ∧ (((bits .and .u32 a1 (262400 : Int)) != (0 : Int)) = true ∧ (((bits .and .u32 a1 (262400 : Int)) != (0 : Int)) = true ∧ (((bits .and .u32 a1 (262400 : Int)) != (0 : Int)) = true ∧ (true = true ∧ (true = true ∧ (true = true ∧ (true = true ∧ (true = true ∧ (true = true ∧ (true = true ∧ (true = true ∧ (true = true ∧ (true = true ∧ (true = true ∧ (true = true ∧ (true = true ∧ (true = true ∧ (true = true ∧ (true = true ∧ (true = true ∧ (true = true ∧ (true = true ∧ (True ∧ (True ∧ ((True) ∧ ((True) ∧ True) ∧ (.v (.one (.err (some (22 : Int)))) : Tm) = sig_Check.R r ∧ ([] : List Box) = []))))))))))))))))))))))))))))) (by kernel_rfl) ?_)
  refine ⟨trivial, ?_⟩
  refine ⟨trivial, ?_⟩
  refine ⟨trivial, ?_⟩
  refine ⟨fun b1 => ?_, fun b1 => ?_⟩
  · rw [if_neg (not_not_intro (bne_f b1))] at h
    refine ⟨b1, ?_⟩
    refine ⟨(by decide), ?_⟩
    refine ⟨b1, ?_⟩
    refine ⟨(by decide), ?_⟩
    refine ⟨b1, ?_⟩
    refine ⟨trivial, ?_⟩
    refine ⟨b1, ?_⟩
    refine ⟨fun b2 => ?_, fun b2 => ?_⟩
    · rw [if_neg (not_not_intro (bne_f b2))] at h
      refine ⟨b2, ?_⟩
      refine ⟨(by decide), ?_⟩
      refine ⟨b2, ?_⟩
      refine ⟨(by decide), ?_⟩
      refine ⟨b2, ?_⟩
      refine ⟨trivial, ?_⟩
      refine ⟨b2, ?_⟩
      refine ⟨fun b3 => ?_, fun b3 => ?_⟩
      · rw [if_neg (not_not_intro (bne_f b3))] at h
        refine ⟨b3, ?_⟩
        refine ⟨(by decide), ?_⟩
        refine ⟨b3, ?_⟩
        refine ⟨(by decide), ?_⟩
        refine ⟨b3, ?_⟩
        refine ⟨trivial, ?_⟩
        refine ⟨b3, ?_⟩
        refine ⟨fun b4 => ?_, fun b4 => ?_⟩
        · rw [if_neg (not_not_intro (bne_f b4))] at h
          refine ⟨b4, ?_⟩
          refine ⟨trivial, ?_⟩
          refine ⟨b4, ?_⟩
          refine ⟨trivial, ?_⟩
          refine ⟨b4, ?_⟩
          refine ⟨fun b5 => ?_, fun b5 => ?_⟩
          · rw [if_neg (of_decide_eq_false b5)] at h
            refine ⟨b5, ?_⟩
            refine ⟨trivial, ?_⟩
            refine ⟨b5, ?_⟩
            refine ⟨trivial, ?_⟩
            refine ⟨b5, ?_⟩
            refine ⟨fun b6 => ?_, fun b6 => ?_⟩
            · rw [if_pos (of_decide_eq_true b6)] at h
              refine ⟨trivial, ?_⟩
              refine ⟨trivial, ?_⟩
              obtain rfl := Option.some.inj h
              exact ⟨trivial, ⟨trivial, trivial⟩, rfl, rfl⟩
            · rw [if_neg (of_decide_eq_false b6)] at h
              refine ⟨trivial, ?_⟩
              refine ⟨trivial, ?_⟩
              refine ⟨trivial, ?_⟩
              obtain rfl := Option.some.inj h
              exact ⟨trivial, ⟨trivial, trivial⟩, rfl, rfl⟩
          · rw [if_pos (of_decide_eq_true b5)] at h
            refine ⟨b5, ?_⟩
            refine ⟨b5, ?_⟩
            refine ⟨b5, ?_⟩
            refine ⟨rfl, ?_⟩
            refine ⟨trivial, ?_⟩
            refine ⟨trivial, ?_⟩
            obtain rfl := Option.some.inj h
            exact ⟨trivial, ⟨trivial, trivial⟩, rfl, rfl⟩
        · rw [if_pos (bne_t b4)] at h
          refine ⟨b4, ?_⟩
          refine ⟨b4, ?_⟩
          refine ⟨b4, ?_⟩
          refine ⟨rfl, ?_⟩
          refine ⟨rfl, ?_⟩
          refine ⟨rfl, ?_⟩
          refine ⟨rfl, ?_⟩
          refine ⟨rfl, ?_⟩
          refine ⟨trivial, ?_⟩
          refine ⟨trivial, ?_⟩
          obtain rfl := Option.some.inj h
          exact ⟨trivial, ⟨trivial, trivial⟩, rfl, rfl⟩
      · rw [if_pos (bne_t b3)] at h
        refine ⟨b3, ?_⟩
        refine ⟨b3, ?_⟩
        refine ⟨b3, ?_⟩
        refine ⟨b3, ?_⟩
        refine ⟨rfl, ?_⟩
        refine ⟨rfl, ?_⟩
        refine ⟨rfl, ?_⟩
        refine ⟨rfl, ?_⟩
        refine ⟨rfl, ?_⟩
        refine ⟨rfl, ?_⟩
        refine ⟨rfl, ?_⟩
        refine ⟨rfl, ?_⟩
        refine ⟨rfl, ?_⟩
        refine ⟨trivial, ?_⟩
        refine ⟨trivial, ?_⟩
        obtain rfl := Option.some.inj h
        exact ⟨trivial, ⟨trivial, trivial⟩, rfl, rfl⟩
    · rw [if_pos (bne_t b2)] at h
      refine ⟨b2, ?_⟩
      refine ⟨b2, ?_⟩
      refine ⟨b2, ?_⟩
      refine ⟨b2, ?_⟩
      refine ⟨rfl, ?_⟩
      refine ⟨rfl, ?_⟩
      refine ⟨rfl, ?_⟩
      refine ⟨rfl, ?_⟩
      refine ⟨rfl, ?_⟩
      refine ⟨rfl, ?_⟩
      refine ⟨rfl, ?_⟩
      refine ⟨rfl, ?_⟩
      refine ⟨rfl, ?_⟩
      refine ⟨rfl, ?_⟩
      refine ⟨rfl, ?_⟩
      refine ⟨rfl, ?_⟩
      refine ⟨rfl, ?_⟩
      refine ⟨rfl, ?_⟩
      refine ⟨trivial, ?_⟩
      refine ⟨trivial, ?_⟩
      obtain rfl := Option.some.inj h
      exact ⟨trivial, ⟨trivial, trivial⟩, rfl, rfl⟩
  · rw [if_pos (bne_t b1)] at h
    refine ⟨b1, ?_⟩
    refine ⟨b1, ?_⟩
    refine ⟨b1, ?_⟩
    refine ⟨b1, ?_⟩
    refine ⟨rfl, ?_⟩
    refine ⟨rfl, ?_⟩
    refine ⟨rfl, ?_⟩
    refine ⟨rfl, ?_⟩
    refine ⟨rfl, ?_⟩
    refine ⟨rfl, ?_⟩
    refine ⟨rfl, ?_⟩
    refine ⟨rfl, ?_⟩
    refine ⟨rfl, ?_⟩
    refine ⟨rfl, ?_⟩
    refine ⟨rfl, ?_⟩
    refine ⟨rfl, ?_⟩
    refine ⟨rfl, ?_⟩
    refine ⟨rfl, ?_⟩
    refine ⟨rfl, ?_⟩
    refine ⟨rfl, ?_⟩
    refine ⟨rfl, ?_⟩
    refine ⟨rfl, ?_⟩
    refine ⟨rfl, ?_⟩
    refine ⟨trivial, ?_⟩
    refine ⟨trivial, ?_⟩
    obtain rfl := Option.some.inj h
    exact ⟨trivial, ⟨trivial, trivial⟩, rfl, rfl⟩
/-! halter/sig.signal -/
def sig_signal.f (a0 : Int) : Option Bool :=
  if a0 ≥ (1 : Int) then
    some (decide (a0 ≤ (31 : Int)))
  else
    some false
def sig_signal.R (r : Bool) : Tm := .v (.one (.sc (.bool r)))
theorem sig_signal.fun_ {a0 : Int} {r : Bool} (h : sig_signal.f a0 = some r) : Fun cfg 28 [.one (.sc (.int .i64 a0))] [] (sig_signal.R r) [] := by
  unfold sig_signal.f at h
  refine fun_of_run cfg_ok (f := 28) (fn := Tryd.f28) Tryd.func28 rfl (by kernel_rfl) (rs := [.tmp 2]) rfl (nt := 9) rfl (l := fin) (k := (.br (.one true (.one true (.adj [] (.adj [] .nil)))) (.one false (.one false (.adj [] (.adj [] .nil)))))) (to_goal (q := (True) ∧ (((decide (a0 ≥ (1 : Int))) = true → ((decide (a0 ≥ (1 : Int))) = true ∧ (True) ∧ ((decide (a0 ≥ (1 : Int))) = true ∧ (True ∧ ((True) ∧ (True) ∧ (.v (.one (.sc (.bool (decide (a0 ≤ (31 : Int)))))) : Tm) = sig_signal.R r ∧ ([] : List Box) = []))))) ∧ ((decide (a0 ≥ (1 : Int))) = false → ((decide (a0 ≥ (1 : Int))) = false ∧ ((decide (a0 ≥ (1 : Int))) = false ∧ (True ∧ ((True) ∧ (True) ∧ (.v (.one (.sc (.bool false))) : Tm) = sig_signal.R r ∧ ([] : List Box) = []))))))) (by kernel_rfl) ?_)
  refine ⟨trivial, ?_⟩
  refine ⟨fun b1 => ?_, fun b1 => ?_⟩
  · rw [if_pos (of_decide_eq_true b1)] at h
    refine ⟨b1, ?_⟩
    refine ⟨trivial, ?_⟩
    refine ⟨b1, ?_⟩
    refine ⟨trivial, ?_⟩
    obtain rfl := Option.some.inj h
    exact ⟨trivial, trivial, rfl, rfl⟩
  · rw [if_neg (of_decide_eq_false b1)] at h
    refine ⟨b1, ?_⟩
    refine ⟨b1, ?_⟩
    refine ⟨trivial, ?_⟩
    obtain rfl := Option.some.inj h
    exact ⟨trivial, trivial, rfl, rfl⟩
/-! halter/sig.plain -/
def sig_plain.f (a0 : Int) : Option Int :=
  if a0 = (17 : Int) then
    some (0 : Int)
  else
    if a0 = (18 : Int) then
      some (3 : Int)
    else
      if a0 = (19 : Int) then
        some (2 : Int)
      else
        if a0 = (20 : Int) then
          some (2 : Int)
        else
          some (1 : Int)
def sig_plain.R (r : Int) : Tm := .v (.one (.sc (.int .i64 r)))
theorem sig_plain.fun_ {a0 : Int} {r : Int} (h : sig_plain.f a0 = some r) : Fun cfg 34 [.one (.sc (.int .i64 a0))] [] (sig_plain.R r) [] := by
  unfold sig_plain.f at h
  refine fun_of_run cfg_ok (f := 34) (fn := Tryd.f34) Tryd.func34 rfl (by kernel_rfl) (rs := [.tmp 2]) rfl (nt := 11) rfl (l := fin) (k := (.br (.adj [] (.adj [] (.adj [] .nil))) (.br (.adj [] (.adj [] (.adj [] .nil))) (.br (.one true (.adj [] (.adj [] (.adj [] .nil)))) (.br (.adj [] (.adj [] (.adj [] .nil))) (.adj [] (.adj [] (.adj [] (.adj [] .nil))))))))) (to_goal (q := (True) ∧ (((a0 == (17 : Int)) = true → (True ∧ (True ∧ ((True) ∧ (True) ∧ (.v (.one (.sc (.int .i64 (0 : Int)))) : Tm) = sig_plain.R r ∧ ([] : List Box) = [])))) ∧ ((a0 == (17 : Int)) = false → (True) ∧ (((a0 == (18 : Int)) = true → (True ∧ (True ∧ ((True) ∧ (True) ∧ (.v (.one (.sc (.int .i64 (3 : Int)))) : Tm) = sig_plain.R r ∧ ([] : List Box) = [])))) ∧ ((a0 == (18 : Int)) = false → (True) ∧ (((a0 == (19 : Int)) = true → ((a0 == (19 : Int)) = true ∧ (True ∧ (True ∧ ((True) ∧ (True) ∧ (.v (.one (.sc (.int .i64 (2 : Int)))) : Tm) = sig_plain.R r ∧ ([] : List Box) = []))))) ∧ ((a0 == (19 : Int)) = false → (True) ∧ (((a0 == (20 : Int)) = true → (True ∧ (True ∧ ((True) ∧ (True) ∧ (.v (.one (.sc (.int .i64 (2 : Int)))) : Tm) = sig_plain.R r ∧ ([] : List Box) = [])))) ∧ ((a0 == (20 : Int)) = false → (True ∧ (True ∧ (True ∧ ((True) ∧ (True) ∧ (.v (.one (.sc (.int .i64 (1 : Int)))) : Tm) = sig_plain.R r ∧ ([] : List Box) = []))))))))))))) (by kernel_rfl) ?_)
  refine ⟨trivial, ?_⟩
  refine ⟨fun b1 => ?_, fun b1 => ?_⟩
  · rw [if_pos (beq_t b1)] at h
    refine ⟨trivial, ?_⟩
    refine ⟨trivial, ?_⟩
    obtain rfl := Option.some.inj h
    exact ⟨trivial, trivial, rfl, rfl⟩
  · rw [if_neg (beq_f b1)] at h
    refine ⟨trivial, ?_⟩
    refine ⟨fun b2 => ?_, fun b2 => ?_⟩
    · rw [if_pos (beq_t b2)] at h
      refine ⟨trivial, ?_⟩
      refine ⟨trivial, ?_⟩
      obtain rfl := Option.some.inj h
      exact ⟨trivial, trivial, rfl, rfl⟩
    · rw [if_neg (beq_f b2)] at h
      refine ⟨trivial, ?_⟩
      refine ⟨fun b3 => ?_, fun b3 => ?_⟩
      · rw [if_pos (beq_t b3)] at h
        refine ⟨b3, ?_⟩
        refine ⟨trivial, ?_⟩
        refine ⟨trivial, ?_⟩
        obtain rfl := Option.some.inj h
        exact ⟨trivial, trivial, rfl, rfl⟩
      · rw [if_neg (beq_f b3)] at h
        refine ⟨trivial, ?_⟩
        refine ⟨fun b4 => ?_, fun b4 => ?_⟩
        · rw [if_pos (beq_t b4)] at h
          refine ⟨trivial, ?_⟩
          refine ⟨trivial, ?_⟩
          obtain rfl := Option.some.inj h
          exact ⟨trivial, trivial, rfl, rfl⟩
        · rw [if_neg (beq_f b4)] at h
          refine ⟨trivial, ?_⟩
          refine ⟨trivial, ?_⟩
          refine ⟨trivial, ?_⟩
          obtain rfl := Option.some.inj h
          exact ⟨trivial, trivial, rfl, rfl⟩
/-! halter/sig.What -/
def sig_What.f (a0 : Int) (a1 : Int) (a2 : (List Int)) (a3 : Int) : Option Int :=
  (sig_signal.f a3).bind fun t1 =>
  if ¬ (t1 = true) then
    some (0 : Int)
  else
    if a3 = (9 : Int) then
      (sig_plain.f a3).bind fun t4 =>
      some t4
    else
      if a3 = (19 : Int) then
        (sig_plain.f a3).bind fun t6 =>
        some t6
      else
        if 0 ≤ a3 ∧ a3 < ((32 : Nat) : Int) then
          if (Int.toNat a3) < 32 then
            if (List.getD a2 (Int.toNat a3) (0 : Int)) = (0 : Int) then
              (sig_plain.f a3).bind fun t8 =>
              some t8
            else
              if 0 ≤ a3 ∧ a3 < ((32 : Nat) : Int) then
                if (Int.toNat a3) < 32 then
                  if (List.getD a2 (Int.toNat a3) (0 : Int)) > (1 : Int) then
                    some (4 : Int)
                  else
                    if a3 = (18 : Int) then
                      some (3 : Int)
                    else
                      some (0 : Int)
                else none
              else none
          else none
        else none
def sig_What.R (r : Int) : Tm := .v (.one (.sc (.int .i64 r)))
theorem sig_What.fun_ {a0 : Int} {a1 : Int} {a2 : (List Int)} {a3 : Int} {r : Int} (h : sig_What.f a0 a1 a2 a3 = some r) : Fun cfg 13 [.agg [.c (.sc (.int .u32 a0)), .c (.sc (.int .u32 a1)), .row 32 (.int .u32) a2], .one (.sc (.int .i64 a3))] [] (sig_What.R r) [] := by
  unfold sig_What.f at h
  refine fun_of_run cfg_ok (f := 13) (fn := Tryd.f13) Tryd.func13 rfl (by kernel_rfl) (rs := [.tmp 4]) rfl (nt := 34) rfl (l := fin) (k := (.call true [] (Bool) (fun t1 => sig_signal.R t1) (fun t1 => (.br (.adj [] (.adj [] (.adj [.drop 0] .nil))) (.br (.one true (.one true (.one true (.one true (.one true (.one true (.one true (.one true (.one true (.call true [] (Int) (fun t4 => sig_plain.R t4) (fun t4 => (.adj [] (.adj [.drop 0] .nil))))))))))))) (.one false (.one false (.br (.one true (.one true (.one true (.one true (.one true (.one true (.call true [] (Int) (fun t6 => sig_plain.R t6) (fun t6 => (.adj [] (.adj [.drop 0] .nil)))))))))) (.one false (.one false (.one false (.one false (.one false (.br (.call true [] (Int) (fun t8 => sig_plain.R t8) (fun t8 => (.adj [] (.adj [.drop 0] .nil)))) (.br (.adj [] (.adj [] (.adj [.drop 0] .nil))) (.br (.adj [] (.adj [] (.adj [.drop 0] .nil))) (.adj [] (.adj [] (.adj [] (.adj [.drop 0] .nil)))))))))))))))))))) (to_goal (q := (∃ t1 : Bool, (Fun cfg 28 [.one (.sc (.int .i64 a3))] [] (sig_signal.R t1) [] ∧ True) ∧ (((!t1) = true → (True ∧ (True ∧ ((True) ∧ ((True) ∧ True) ∧ (.v (.one (.sc (.int .i64 (0 : Int)))) : Tm) = sig_What.R r ∧ ([] : List Box) = [])))) ∧ ((!t1) = false → (True) ∧ (((a3 == (9 : Int)) = false → ((a3 == (9 : Int)) = false ∧ (True) ∧ ((a3 == (9 : Int)) = false ∧ (((a3 == (19 : Int)) = false → ((a3 == (19 : Int)) = false ∧ ((a3 == (19 : Int)) = false ∧ (0 ≤ a3 ∧ a3 < ((32 : Nat) : Int)) ∧ ((a3 == (19 : Int)) = false ∧ ((Int.toNat a3) < 32) ∧ ((a3 == (19 : Int)) = false ∧ (True) ∧ ((a3 == (19 : Int)) = false ∧ ((((List.getD a2 (Int.toNat a3) (0 : Int)) == (0 : Int)) = true → (∃ t8 : Int, (Fun cfg 34 [.one (.sc (.int .i64 a3))] [] (sig_plain.R t8) [] ∧ True) ∧ (True ∧ ((True) ∧ ((True) ∧ True) ∧ (.v (.one (.sc (.int .i64 t8))) : Tm) = sig_What.R r ∧ ([] : List Box) = [])))) ∧ (((List.getD a2 (Int.toNat a3) (0 : Int)) == (0 : Int)) = false → (0 ≤ a3 ∧ a3 < ((32 : Nat) : Int)) ∧ ((Int.toNat a3) < 32) ∧ (True) ∧ (((decide ((List.getD a2 (Int.toNat a3) (0 : Int)) > (1 : Int))) = true → (True ∧ (True ∧ ((True) ∧ ((True) ∧ True) ∧ (.v (.one (.sc (.int .i64 (4 : Int)))) : Tm) = sig_What.R r ∧ ([] : List Box) = [])))) ∧ ((decide ((List.getD a2 (Int.toNat a3) (0 : Int)) > (1 : Int))) = false → (True) ∧ (((a3 == (18 : Int)) = true → (True ∧ (True ∧ ((True) ∧ ((True) ∧ True) ∧ (.v (.one (.sc (.int .i64 (3 : Int)))) : Tm) = sig_What.R r ∧ ([] : List Box) = [])))) ∧ ((a3 == (18 : Int)) = false → (True ∧ (True ∧ (True ∧ ((True) ∧ ((True) ∧ True) ∧ (.v (.one (.sc (.int .i64 (0 : Int)))) : Tm) = sig_What.R r ∧ ([] : List Box) = [])))))))))))))))) ∧ ((a3 == (19 : Int)) = true → ((a3 == (19 : Int)) = true ∧ ((a3 == (19 : Int)) = true ∧ ((a3 == (19 : Int)) = true ∧ ((a3 == (19 : Int)) = true ∧ ((a3 == (19 : Int)) = true ∧ (true = true ∧ (∃ t6 : Int, (Fun cfg 34 [.one (.sc (.int .i64 a3))] [] (sig_plain.R t6) [] ∧ True) ∧ (True ∧ ((True) ∧ ((True) ∧ True) ∧ (.v (.one (.sc (.int .i64 t6))) : Tm) = sig_What.R r ∧ ([] : List Box) = [])))))))))))))) ∧ ((a3 == (9 : Int)) = true → ((a3 == (9 : Int)) = true ∧ ((a3 == (9 : Int)) = true ∧ (true = true ∧ (true = true ∧ (true = true ∧ (true = true ∧ (true = true ∧ (true = true ∧ (true = true ∧ (∃ t4 : Int, (Fun cfg 34 [.one (.sc (.int .i64 a3))] [] (sig_plain.R t4) [] ∧ True) ∧ (True ∧ ((True) ∧ ((True) ∧ True) ∧ (.v (.one (.sc (.int .i64 t4))) : Tm) = sig_What.R r ∧ ([] : List Box) = [])))))))))))))))))) (by kernel_rfl) ?_)
  obtain ⟨t1, ht1, h⟩ := of_bind h
  refine ⟨t1, ⟨sig_signal.fun_ ht1, trivial⟩, ?_⟩
  refine ⟨fun b2 => ?_, fun b2 => ?_⟩
  · rw [if_pos (ff (not_t b2))] at h
    refine ⟨trivial, ?_⟩
    refine ⟨trivial, ?_⟩
    obtain rfl := Option.some.inj h
    exact ⟨trivial, ⟨trivial, trivial⟩, rfl, rfl⟩
  · rw [if_neg (not_not_intro (not_f b2))] at h
    refine ⟨trivial, ?_⟩
    refine ⟨fun b3 => ?_, fun b3 => ?_⟩
    · rw [if_neg (beq_f b3)] at h
      refine ⟨b3, ?_⟩
      refine ⟨trivial, ?_⟩
      refine ⟨b3, ?_⟩
      refine ⟨fun b5 => ?_, fun b5 => ?_⟩
      · rw [if_neg (beq_f b5)] at h
        refine ⟨b5, ?_⟩
        refine ⟨b5, ?_⟩
        obtain ⟨g14, h⟩ := of_guard h
        refine ⟨g14, ?_⟩
        refine ⟨b5, ?_⟩
        obtain ⟨g13, h⟩ := of_guard h
        refine ⟨g13, ?_⟩
        refine ⟨b5, ?_⟩
        refine ⟨trivial, ?_⟩
        refine ⟨b5, ?_⟩
        refine ⟨fun b7 => ?_, fun b7 => ?_⟩
        · rw [if_pos (beq_t b7)] at h
          obtain ⟨t8, ht8, h⟩ := of_bind h
          refine ⟨t8, ⟨sig_plain.fun_ ht8, trivial⟩, ?_⟩
          refine ⟨trivial, ?_⟩
          obtain rfl := Option.some.inj h
          exact ⟨trivial, ⟨trivial, trivial⟩, rfl, rfl⟩
        · rw [if_neg (beq_f b7)] at h
          obtain ⟨g12, h⟩ := of_guard h
          refine ⟨g12, ?_⟩
          obtain ⟨g11, h⟩ := of_guard h
          refine ⟨g11, ?_⟩
          refine ⟨trivial, ?_⟩
          refine ⟨fun b9 => ?_, fun b9 => ?_⟩
          · rw [if_pos (of_decide_eq_true b9)] at h
            refine ⟨trivial, ?_⟩
            refine ⟨trivial, ?_⟩
            obtain rfl := Option.some.inj h
            exact ⟨trivial, ⟨trivial, trivial⟩, rfl, rfl⟩
          · rw [if_neg (of_decide_eq_false b9)] at h
            refine ⟨trivial, ?_⟩
            refine ⟨fun b10 => ?_, fun b10 => ?_⟩
            · rw [if_pos (beq_t b10)] at h
              refine ⟨trivial, ?_⟩
              refine ⟨trivial, ?_⟩
              obtain rfl := Option.some.inj h
              exact ⟨trivial, ⟨trivial, trivial⟩, rfl, rfl⟩
            · rw [if_neg (beq_f b10)] at h
              refine ⟨trivial, ?_⟩
              refine ⟨trivial, ?_⟩
              refine ⟨trivial, ?_⟩
              obtain rfl := Option.some.inj h
              exact ⟨trivial, ⟨trivial, trivial⟩, rfl, rfl⟩
      · rw [if_pos (beq_t b5)] at h
        refine ⟨b5, ?_⟩
        refine ⟨b5, ?_⟩
        refine ⟨b5, ?_⟩
        refine ⟨b5, ?_⟩
        refine ⟨b5, ?_⟩
        refine ⟨rfl, ?_⟩
        obtain ⟨t6, ht6, h⟩ := of_bind h
        refine ⟨t6, ⟨sig_plain.fun_ ht6, trivial⟩, ?_⟩
        refine ⟨trivial, ?_⟩
        obtain rfl := Option.some.inj h
        exact ⟨trivial, ⟨trivial, trivial⟩, rfl, rfl⟩
    · rw [if_pos (beq_t b3)] at h
      refine ⟨b3, ?_⟩
      refine ⟨b3, ?_⟩
      refine ⟨rfl, ?_⟩
      refine ⟨rfl, ?_⟩
      refine ⟨rfl, ?_⟩
      refine ⟨rfl, ?_⟩
      refine ⟨rfl, ?_⟩
      refine ⟨rfl, ?_⟩
      refine ⟨rfl, ?_⟩
      obtain ⟨t4, ht4, h⟩ := of_bind h
      refine ⟨t4, ⟨sig_plain.fun_ ht4, trivial⟩, ?_⟩
      refine ⟨trivial, ?_⟩
      obtain rfl := Option.some.inj h
      exact ⟨trivial, ⟨trivial, trivial⟩, rfl, rfl⟩
/-! halter/sigset.One -/
def sigset_One.f (a0 : Int) : Option Int :=
  if a0 < (1 : Int) then
    some (0 : Int)
  else
    if a0 > (31 : Int) then
      some (0 : Int)
    else
      if 0 ≤ (IntKind.wrap .i64 (a0 - (1 : Int))) then
        some (shl .u32 (1 : Int) (IntKind.wrap .i64 (a0 - (1 : Int))))
      else none
def sigset_One.R (r : Int) : Tm := .v (.one (.sc (.int .u32 r)))
theorem sigset_One.fun_ {a0 : Int} {r : Int} (h : sigset_One.f a0 = some r) : Fun cfg 33 [.one (.sc (.int .i64 a0))] [] (sigset_One.R r) [] := by
  unfold sigset_One.f at h
  refine fun_of_run cfg_ok (f := 33) (fn := Tryd.f33) Tryd.func33 rfl (by kernel_rfl) (rs := [.tmp 2]) rfl (nt := 12) rfl (l := fin) (k := (.br (.one true (.one true (.one true (.adj [] (.adj [] (.adj [] .nil)))))) (.one false (.one false (.br (.adj [] (.adj [] (.adj [] .nil))) (.adj [] (.adj [] (.adj [] (.adj [] .nil))))))))) (to_goal (q := (True) ∧ (((decide (a0 < (1 : Int))) = false → ((decide (a0 < (1 : Int))) = false ∧ (True) ∧ ((decide (a0 < (1 : Int))) = false ∧ (((decide (a0 > (31 : Int))) = true → (True ∧ (True ∧ ((True) ∧ (True) ∧ (.v (.one (.sc (.int .u32 (0 : Int)))) : Tm) = sigset_One.R r ∧ ([] : List Box) = [])))) ∧ ((decide (a0 > (31 : Int))) = false → (True ∧ (True ∧ (True) ∧ (0 ≤ (IntKind.wrap .i64 (a0 - (1 : Int)))) ∧ (True ∧ ((True) ∧ (True) ∧ (.v (.one (.sc (.int .u32 (shl .u32 (1 : Int) (IntKind.wrap .i64 (a0 - (1 : Int))))))) : Tm) = sigset_One.R r ∧ ([] : List Box) = []))))))))) ∧ ((decide (a0 < (1 : Int))) = true → ((decide (a0 < (1 : Int))) = true ∧ ((decide (a0 < (1 : Int))) = true ∧ (true = true ∧ (True ∧ (True ∧ ((True) ∧ (True) ∧ (.v (.one (.sc (.int .u32 (0 : Int)))) : Tm) = sigset_One.R r ∧ ([] : List Box) = []))))))))) (by kernel_rfl) ?_)
  refine ⟨trivial, ?_⟩
  refine ⟨fun b1 => ?_, fun b1 => ?_⟩
  · rw [if_neg (of_decide_eq_false b1)] at h
    refine ⟨b1, ?_⟩
    refine ⟨trivial, ?_⟩
    refine ⟨b1, ?_⟩
    refine ⟨fun b2 => ?_, fun b2 => ?_⟩
    · rw [if_pos (of_decide_eq_true b2)] at h
      refine ⟨trivial, ?_⟩
      refine ⟨trivial, ?_⟩
      obtain rfl := Option.some.inj h
      exact ⟨trivial, trivial, rfl, rfl⟩
    · rw [if_neg (of_decide_eq_false b2)] at h
      refine ⟨trivial, ?_⟩
      refine ⟨trivial, ?_⟩
      refine ⟨trivial, ?_⟩
      obtain ⟨g3, h⟩ := of_guard h
      refine ⟨g3, ?_⟩
      refine ⟨trivial, ?_⟩
      obtain rfl := Option.some.inj h
      exact ⟨trivial, trivial, rfl, rfl⟩
  · rw [if_pos (of_decide_eq_true b1)] at h
    refine ⟨b1, ?_⟩
    refine ⟨b1, ?_⟩
    refine ⟨rfl, ?_⟩
    refine ⟨trivial, ?_⟩
    refine ⟨trivial, ?_⟩
    obtain rfl := Option.some.inj h
    exact ⟨trivial, trivial, rfl, rfl⟩
/-! halter/sigset.Del -/
def sigset_Del.f (a0 : Int) (a1 : Int) : Option Int :=
  (sigset_One.f a1).bind fun t1 =>
  some (bits .andNot .u32 (bits .and .u32 a0 (2147483647 : Int)) t1)
def sigset_Del.R (r : Int) : Tm := .v (.one (.sc (.int .u32 r)))
theorem sigset_Del.fun_ {a0 : Int} {a1 : Int} {r : Int} (h : sigset_Del.f a0 a1 = some r) : Fun cfg 32 [.one (.sc (.int .u32 a0)), .one (.sc (.int .i64 a1))] [] (sigset_Del.R r) [] := by
  unfold sigset_Del.f at h
  refine fun_of_run cfg_ok (f := 32) (fn := Tryd.f32) Tryd.func32 rfl (by kernel_rfl) (rs := [.tmp 4]) rfl (nt := 10) rfl (l := fin) (k := (.call true [] (Int) (fun t1 => sigset_One.R t1) (fun t1 => (.adj [] (.adj [] .nil))))) (to_goal (q := (True) ∧ (∃ t1 : Int, (Fun cfg 33 [.one (.sc (.int .i64 a1))] [] (sigset_One.R t1) [] ∧ True) ∧ (True) ∧ (True ∧ ((True) ∧ (True) ∧ (.v (.one (.sc (.int .u32 (bits .andNot .u32 (bits .and .u32 a0 (2147483647 : Int)) t1)))) : Tm) = sigset_Del.R r ∧ ([] : List Box) = [])))) (by kernel_rfl) ?_)
  refine ⟨trivial, ?_⟩
  obtain ⟨t1, ht1, h⟩ := of_bind h
  refine ⟨t1, ⟨sigset_One.fun_ ht1, trivial⟩, ?_⟩
  refine ⟨trivial, ?_⟩
  refine ⟨trivial, ?_⟩
  obtain rfl := Option.some.inj h
  exact ⟨trivial, trivial, rfl, rfl⟩
/-! halter/sig.Take -/
def sig_Take.f (a0 : Int) (a1 : Int) (a2 : (List Int)) (a3 : Int) : Option (Int × Int × (List Int)) :=
  (sigset_Del.f a0 a3).bind fun t1 =>
  some (t1, a1, a2)
def sig_Take.R (r : Int × Int × (List Int)) : Tm := .v (.agg [.c (.sc (.int .u32 r.1)), .c (.sc (.int .u32 r.2.1)), .row 32 (.int .u32) r.2.2])
theorem sig_Take.fun_ {a0 : Int} {a1 : Int} {a2 : (List Int)} {a3 : Int} {r : Int × Int × (List Int)} (h : sig_Take.f a0 a1 a2 a3 = some r) : Fun cfg 10 [.agg [.c (.sc (.int .u32 a0)), .c (.sc (.int .u32 a1)), .row 32 (.int .u32) a2], .one (.sc (.int .i64 a3))] [] (sig_Take.R r) [] := by
  unfold sig_Take.f at h
  refine fun_of_run cfg_ok (f := 10) (fn := Tryd.f10) Tryd.func10 rfl (by kernel_rfl) (rs := [.cell 4 27]) rfl (nt := 11) rfl (l := fin) (k := (.call true [] (Int) (fun t1 => sigset_Del.R t1) (fun t1 => (.adj [] (.adj [] (.adj [.drop 0] .nil)))))) (to_goal (q := (True) ∧ (∃ t1 : Int, (Fun cfg 32 [.one (.sc (.int .u32 a0)), .one (.sc (.int .i64 a3))] [] (sigset_Del.R t1) [] ∧ True) ∧ (True) ∧ (True ∧ (True) ∧ (True) ∧ (True ∧ (((True) ∧ True) ∧ ((True) ∧ True) ∧ (.v (.agg [.c (.sc (.int .u32 t1)), .c (.sc (.int .u32 a1)), .row 32 (.int .u32) a2]) : Tm) = sig_Take.R r ∧ ([] : List Box) = []))))) (by kernel_rfl) ?_)
  refine ⟨trivial, ?_⟩
  obtain ⟨t1, ht1, h⟩ := of_bind h
  refine ⟨t1, ⟨sigset_Del.fun_ ht1, trivial⟩, ?_⟩
  refine ⟨trivial, ?_⟩
  refine ⟨trivial, ?_⟩
  refine ⟨trivial, ?_⟩
  refine ⟨trivial, ?_⟩
  refine ⟨trivial, ?_⟩
  obtain rfl := Option.some.inj h
  exact ⟨⟨trivial, trivial⟩, ⟨trivial, trivial⟩, rfl, rfl⟩
/-! halter/sig.Act -/
def sig_Act.f (a0 : Int) (a1 : Int) (a2 : (List Int)) (a3 : Int) (a4 : Int) : Option (Int × Int × (List Int) × (Option Int)) :=
  (sig_Check.f a0 a1 a2).bind fun t1 =>
  if ¬ (t1 = none) then
    some ((0 : Int), (0 : Int), (List.replicate 32 (0 : Int)), (some (22 : Int)))
  else
    (sig_signal.f a3).bind fun t3 =>
    if ¬ (t3 = true) then
      some ((0 : Int), (0 : Int), (List.replicate 32 (0 : Int)), (some (22 : Int)))
    else
      if a3 = (9 : Int) then
        some ((0 : Int), (0 : Int), (List.replicate 32 (0 : Int)), (some (22 : Int)))
      else
        if a3 = (19 : Int) then
          some ((0 : Int), (0 : Int), (List.replicate 32 (0 : Int)), (some (22 : Int)))
        else
          if 0 ≤ a3 ∧ a3 < ((32 : Nat) : Int) then
            if (Int.toNat a3) < 32 then
              (sig_What.f a0 a1 (List.set a2 (Int.toNat a3) a4) a3).bind fun t7 =>
              if t7 = (0 : Int) then
                (sig_Take.f a0 a1 (List.set a2 (Int.toNat a3) a4) a3).bind fun t9 =>
                some (t9.1, t9.2.1, t9.2.2, none)
              else
                some (a0, a1, (List.set a2 (Int.toNat a3) a4), none)
            else none
          else none
def sig_Act.R (r : Int × Int × (List Int) × (Option Int)) : Tm := .tup [.agg [.c (.sc (.int .u32 r.1)), .c (.sc (.int .u32 r.2.1)), .row 32 (.int .u32) r.2.2.1], .one (.err r.2.2.2)]
theorem sig_Act.fun_ {a0 : Int} {a1 : Int} {a2 : (List Int)} {a3 : Int} {a4 : Int} {r : Int × Int × (List Int) × (Option Int)} (h : sig_Act.f a0 a1 a2 a3 a4 = some r) : Fun cfg 12 [.agg [.c (.sc (.int .u32 a0)), .c (.sc (.int .u32 a1)), .row 32 (.int .u32) a2], .one (.sc (.int .i64 a3)), .one (.sc (.int .u32 a4))] [] (sig_Act.R r) [] := by
  unfold sig_Act.f at h
  refine fun_of_run cfg_ok (f := 12) (fn := Tryd.f12) Tryd.func12 rfl (by kernel_rfl) (rs := [.cell 6 27, .tmp 7]) rfl (nt := 38) rfl (l := fin) (k := (.call true [] ((Option Int)) (fun t1 => sig_Check.R t1) (fun t1 => (.br (.one true (.one true (.one true (.one true (.one true (.one true (.one true (.one true (.one true (.one true (.adj [] (.adj [] (.adj [.drop 0] .nil))))))))))))) (.one false (.call true [] (Bool) (fun t3 => sig_signal.R t3) (fun t3 => (.one false (.one false (.br (.one true (.one true (.one true (.one true (.one true (.one true (.adj [] (.adj [] (.adj [.drop 0] .nil))))))))) (.one false (.one false (.br (.one true (.one true (.one true (.adj [] (.adj [] (.adj [.drop 0] .nil)))))) (.one false (.one false (.br (.adj [] (.adj [] (.adj [.drop 0] .nil))) (.call true [] (Int) (fun t7 => sig_What.R t7) (fun t7 => (.br (.call true [] (Int × Int × (List Int)) (fun t9 => sig_Take.R t9) (fun t9 => (.adj [] (.adj [.drop 0] .nil)))) (.adj [] (.adj [] (.adj [] (.adj [.drop 0] .nil))))))))))))))))))))))) (to_goal (q := (True) ∧ (∃ t1 : (Option Int), (Fun cfg 14 [.agg [.c (.sc (.int .u32 a0)), .c (.sc (.int .u32 a1)), .row 32 (.int .u32) a2]] [] (sig_Check.R t1) [] ∧ True) ∧ (True) ∧ (((!(Option.isNone t1)) = false → ((!(Option.isNone t1)) = false ∧ (∃ t3 : Bool, (Fun cfg 28 [.one (.sc (.int .i64 a3))] [] (sig_signal.R t3) [] ∧ True) ∧ ((!(Option.isNone t1)) = false ∧ ((!(Option.isNone t1)) = false ∧ (((!t3) = false → ((!t3) = false ∧ (True) ∧ ((!t3) = false ∧ (((a3 == (9 : Int)) = false → ((a3 == (9 : Int)) = false ∧ (True) ∧ ((a3 == (9 : Int)) = false ∧ (((a3 == (19 : Int)) = true → (True ∧ (True) ∧ (True ∧ (((True) ∧ True) ∧ ((True) ∧ True) ∧ (.tup [.agg [.c (.sc (.int .u32 (0 : Int))), .c (.sc (.int .u32 (0 : Int))), .row 32 (.int .u32) (List.replicate 32 (0 : Int))], .one (.err (some (22 : Int)))] : Tm) = sig_Act.R r ∧ ([] : List Box) = [])))) ∧ ((a3 == (19 : Int)) = false → (0 ≤ a3 ∧ a3 < ((32 : Nat) : Int)) ∧ ((Int.toNat a3) < 32) ∧ (True) ∧ (∃ t7 : Int, (Fun cfg 13 [.agg [.c (.sc (.int .u32 a0)), .c (.sc (.int .u32 a1)), .row 32 (.int .u32) (List.set a2 (Int.toNat a3) a4)], .one (.sc (.int .i64 a3))] [] (sig_What.R t7) [] ∧ True) ∧ (True) ∧ (((t7 == (0 : Int)) = true → (True) ∧ (∃ t9 : Int × Int × (List Int), (Fun cfg 10 [.agg [.c (.sc (.int .u32 a0)), .c (.sc (.int .u32 a1)), .row 32 (.int .u32) (List.set a2 (Int.toNat a3) a4)], .one (.sc (.int .i64 a3))] [] (sig_Take.R t9) [] ∧ True) ∧ (True) ∧ (True ∧ (((True) ∧ True) ∧ ((True) ∧ True) ∧ (.tup [.agg [.c (.sc (.int .u32 t9.1)), .c (.sc (.int .u32 t9.2.1)), .row 32 (.int .u32) t9.2.2], .one (.err none)] : Tm) = sig_Act.R r ∧ ([] : List Box) = [])))) ∧ ((t7 == (0 : Int)) = false → (True ∧ (True ∧ (True) ∧ (True) ∧ (True ∧ (((True) ∧ True) ∧ ((True) ∧ True) ∧ (.tup [.agg [.c (.sc (.int .u32 a0)), .c (.sc (.int .u32 a1)), .row 32 (.int .u32) (List.set a2 (Int.toNat a3) a4)], .one (.err none)] : Tm) = sig_Act.R r ∧ ([] : List Box) = [])))))))))))) ∧ ((a3 == (9 : Int)) = true → ((a3 == (9 : Int)) = true ∧ ((a3 == (9 : Int)) = true ∧ (true = true ∧ (True ∧ (True) ∧ (True ∧ (((True) ∧ True) ∧ ((True) ∧ True) ∧ (.tup [.agg [.c (.sc (.int .u32 (0 : Int))), .c (.sc (.int .u32 (0 : Int))), .row 32 (.int .u32) (List.replicate 32 (0 : Int))], .one (.err (some (22 : Int)))] : Tm) = sig_Act.R r ∧ ([] : List Box) = []))))))))))) ∧ ((!t3) = true → ((!t3) = true ∧ ((!t3) = true ∧ (true = true ∧ (true = true ∧ (true = true ∧ (true = true ∧ (True ∧ (True) ∧ (True ∧ (((True) ∧ True) ∧ ((True) ∧ True) ∧ (.tup [.agg [.c (.sc (.int .u32 (0 : Int))), .c (.sc (.int .u32 (0 : Int))), .row 32 (.int .u32) (List.replicate 32 (0 : Int))], .one (.err (some (22 : Int)))] : Tm) = sig_Act.R r ∧ ([] : List Box) = [])))))))))))))))) ∧ ((!(Option.isNone t1)) = true → ((!(Option.isNone t1)) = true ∧ ((!(Option.isNone t1)) = true ∧ ((!(Option.isNone t1)) = true ∧ (true = true ∧ (true = true ∧ (true = true ∧ (true = true ∧ (true = true ∧ (true = true ∧ (true = true ∧ (True ∧ (True) ∧ (True ∧ (((True) ∧ True) ∧ ((True) ∧ True) ∧ (.tup [.agg [.c (.sc (.int .u32 (0 : Int))), .c (.sc (.int .u32 (0 : Int))), .row 32 (.int .u32) (List.replicate 32 (0 : Int))], .one (.err (some (22 : Int)))] : Tm) = sig_Act.R r ∧ ([] : List Box) = []))))))))))))))))) (by kernel_rfl) ?_)
  refine ⟨trivial, ?_⟩
  obtain ⟨t1, ht1, h⟩ := of_bind h
  refine ⟨t1, ⟨sig_Check.fun_ ht1, trivial⟩, ?_⟩
  refine ⟨trivial, ?_⟩
  refine ⟨fun b2 => ?_, fun b2 => ?_⟩
  · rw [if_neg (not_not_intro (none_t (not_f b2)))] at h
    refine ⟨b2, ?_⟩
    obtain ⟨t3, ht3, h⟩ := of_bind h
    refine ⟨t3, ⟨sig_signal.fun_ ht3, trivial⟩, ?_⟩
    refine ⟨b2, ?_⟩
    refine ⟨b2, ?_⟩
    refine ⟨fun b4 => ?_, fun b4 => ?_⟩
    · rw [if_neg (not_not_intro (not_f b4))] at h
      refine ⟨b4, ?_⟩
      refine ⟨trivial, ?_⟩
      refine ⟨b4, ?_⟩
      refine ⟨fun b5 => ?_, fun b5 => ?_⟩
      · rw [if_neg (beq_f b5)] at h
        refine ⟨b5, ?_⟩
        refine ⟨trivial, ?_⟩
        refine ⟨b5, ?_⟩
        refine ⟨fun b6 => ?_, fun b6 => ?_⟩
        · rw [if_pos (beq_t b6)] at h
          refine ⟨trivial, ?_⟩
          refine ⟨trivial, ?_⟩
          refine ⟨trivial, ?_⟩
          obtain rfl := Option.some.inj h
          exact ⟨⟨trivial, trivial⟩, ⟨trivial, trivial⟩, rfl, rfl⟩
        · rw [if_neg (beq_f b6)] at h
          obtain ⟨g11, h⟩ := of_guard h
          refine ⟨g11, ?_⟩
          obtain ⟨g10, h⟩ := of_guard h
          refine ⟨g10, ?_⟩
          refine ⟨trivial, ?_⟩
          obtain ⟨t7, ht7, h⟩ := of_bind h
          refine ⟨t7, ⟨sig_What.fun_ ht7, trivial⟩, ?_⟩
          refine ⟨trivial, ?_⟩
          refine ⟨fun b8 => ?_, fun b8 => ?_⟩
          · rw [if_pos (beq_t b8)] at h
            refine ⟨trivial, ?_⟩
            obtain ⟨t9, ht9, h⟩ := of_bind h
            refine ⟨t9, ⟨sig_Take.fun_ ht9, trivial⟩, ?_⟩
            refine ⟨trivial, ?_⟩
            refine ⟨trivial, ?_⟩
            obtain rfl := Option.some.inj h
            exact ⟨⟨trivial, trivial⟩, ⟨trivial, trivial⟩, rfl, rfl⟩
          · rw [if_neg (beq_f b8)] at h
            refine ⟨trivial, ?_⟩
            refine ⟨trivial, ?_⟩
            refine ⟨trivial, ?_⟩
            refine ⟨trivial, ?_⟩
            refine ⟨trivial, ?_⟩
            obtain rfl := Option.some.inj h
            exact ⟨⟨trivial, trivial⟩, ⟨trivial, trivial⟩, rfl, rfl⟩
      · rw [if_pos (beq_t b5)] at h
        refine ⟨b5, ?_⟩
        refine ⟨b5, ?_⟩
        refine ⟨rfl, ?_⟩
        refine ⟨trivial, ?_⟩
        refine ⟨trivial, ?_⟩
        refine ⟨trivial, ?_⟩
        obtain rfl := Option.some.inj h
        exact ⟨⟨trivial, trivial⟩, ⟨trivial, trivial⟩, rfl, rfl⟩
    · rw [if_pos (ff (not_t b4))] at h
      refine ⟨b4, ?_⟩
      refine ⟨b4, ?_⟩
      refine ⟨rfl, ?_⟩
      refine ⟨rfl, ?_⟩
      refine ⟨rfl, ?_⟩
      refine ⟨rfl, ?_⟩
      refine ⟨trivial, ?_⟩
      refine ⟨trivial, ?_⟩
      refine ⟨trivial, ?_⟩
      obtain rfl := Option.some.inj h
      exact ⟨⟨trivial, trivial⟩, ⟨trivial, trivial⟩, rfl, rfl⟩
  · rw [if_pos (none_f (not_t b2))] at h
    refine ⟨b2, ?_⟩
    refine ⟨b2, ?_⟩
    refine ⟨b2, ?_⟩
    refine ⟨rfl, ?_⟩
    refine ⟨rfl, ?_⟩
    refine ⟨rfl, ?_⟩
    refine ⟨rfl, ?_⟩
    refine ⟨rfl, ?_⟩
    refine ⟨rfl, ?_⟩
    refine ⟨rfl, ?_⟩
    refine ⟨trivial, ?_⟩
    refine ⟨trivial, ?_⟩
    refine ⟨trivial, ?_⟩
    obtain rfl := Option.some.inj h
    exact ⟨⟨trivial, trivial⟩, ⟨trivial, trivial⟩, rfl, rfl⟩
/-! halter/sigset.Has -/
def sigset_Has.f (a0 : Int) (a1 : Int) : Option Bool :=
  (sigset_One.f a1).bind fun t1 =>
  some ((bits .and .u32 a0 t1) != (0 : Int))
def sigset_Has.R (r : Bool) : Tm := .v (.one (.sc (.bool r)))
theorem sigset_Has.fun_ {a0 : Int} {a1 : Int} {r : Bool} (h : sigset_Has.f a0 a1 = some r) : Fun cfg 11 [.one (.sc (.int .u32 a0)), .one (.sc (.int .i64 a1))] [] (sigset_Has.R r) [] := by
  unfold sigset_Has.f at h
  refine fun_of_run cfg_ok (f := 11) (fn := Tryd.f11) Tryd.func11 rfl (by kernel_rfl) (rs := [.tmp 4]) rfl (nt := 10) rfl (l := fin) (k := (.call true [] (Int) (fun t1 => sigset_One.R t1) (fun t1 => (.adj [] (.adj [] .nil))))) (to_goal (q := (∃ t1 : Int, (Fun cfg 33 [.one (.sc (.int .i64 a1))] [] (sigset_One.R t1) [] ∧ True) ∧ (True) ∧ (True) ∧ (True ∧ ((True) ∧ (True) ∧ (.v (.one (.sc (.bool ((bits .and .u32 a0 t1) != (0 : Int))))) : Tm) = sigset_Has.R r ∧ ([] : List Box) = [])))) (by kernel_rfl) ?_)
  obtain ⟨t1, ht1, h⟩ := of_bind h
  refine ⟨t1, ⟨sigset_One.fun_ ht1, trivial⟩, ?_⟩
  refine ⟨trivial, ?_⟩
  refine ⟨trivial, ?_⟩
  refine ⟨trivial, ?_⟩
  obtain rfl := Option.some.inj h
  exact ⟨trivial, trivial, rfl, rfl⟩
/-! math/bits.TrailingZeros32 -/
def math_bits_TrailingZeros32.f (a0 : Int) : Option Int :=
  if a0 = (0 : Int) then
    some (32 : Int)
  else
    if 0 ≤ (shr .u32 (IntKind.wrap .u32 ((bits .and .u32 a0 (IntKind.wrap .u32 (0 - a0))) * (125613361 : Int))) (27 : Int)) ∧ (shr .u32 (IntKind.wrap .u32 ((bits .and .u32 a0 (IntKind.wrap .u32 (0 - a0))) * (125613361 : Int))) (27 : Int)) < ((32 : Nat) : Int) then
      some (IntKind.wrap .i64 ((List.getD tab1 (Int.toNat (shr .u32 (IntKind.wrap .u32 ((bits .and .u32 a0 (IntKind.wrap .u32 (0 - a0))) * (125613361 : Int))) (27 : Int))) (0 : Int))))
    else none
def math_bits_TrailingZeros32.R (r : Int) : Tm := .v (.one (.sc (.int .i64 r)))
theorem math_bits_TrailingZeros32.fun_ {a0 : Int} {r : Int} (h : math_bits_TrailingZeros32.f a0 = some r) : Fun cfg 41 [.one (.sc (.int .u32 a0))] [] (math_bits_TrailingZeros32.R r) [] := by
  unfold math_bits_TrailingZeros32.f at h
  refine fun_of_run cfg_ok (f := 41) (fn := Tryd.f41) Tryd.func41 rfl (by kernel_rfl) (rs := [.tmp 2]) rfl (nt := 14) rfl (l := fin) (k := (.br (.adj [] (.adj [] (.adj [] .nil))) (.adj [] (.adj [] (.adj [] (.adj [] .nil)))))) (to_goal (q := (True) ∧ (((a0 == (0 : Int)) = true → (True ∧ (True ∧ ((True) ∧ (True) ∧ (.v (.one (.sc (.int .i64 (32 : Int)))) : Tm) = math_bits_TrailingZeros32.R r ∧ ([] : List Box) = [])))) ∧ ((a0 == (0 : Int)) = false → (True ∧ (True ∧ (True) ∧ (True) ∧ (0 ≤ (27 : Int)) ∧ (0 ≤ (shr .u32 (IntKind.wrap .u32 ((bits .and .u32 a0 (IntKind.wrap .u32 (0 - a0))) * (125613361 : Int))) (27 : Int)) ∧ (shr .u32 (IntKind.wrap .u32 ((bits .and .u32 a0 (IntKind.wrap .u32 (0 - a0))) * (125613361 : Int))) (27 : Int)) < ((32 : Nat) : Int)) ∧ (True) ∧ (True) ∧ (True ∧ ((True) ∧ (True) ∧ (.v (.one (.sc (.int .i64 (IntKind.wrap .i64 ((List.getD tab1 (Int.toNat (shr .u32 (IntKind.wrap .u32 ((bits .and .u32 a0 (IntKind.wrap .u32 (0 - a0))) * (125613361 : Int))) (27 : Int))) (0 : Int))))))) : Tm) = math_bits_TrailingZeros32.R r ∧ ([] : List Box) = []))))))) (by kernel_rfl) ?_)
  refine ⟨trivial, ?_⟩
  refine ⟨fun b1 => ?_, fun b1 => ?_⟩
  · rw [if_pos (beq_t b1)] at h
    refine ⟨trivial, ?_⟩
    refine ⟨trivial, ?_⟩
    obtain rfl := Option.some.inj h
    exact ⟨trivial, trivial, rfl, rfl⟩
  · rw [if_neg (beq_f b1)] at h
    refine ⟨trivial, ?_⟩
    refine ⟨trivial, ?_⟩
    refine ⟨trivial, ?_⟩
    refine ⟨trivial, ?_⟩
    refine ⟨(by decide), ?_⟩
    obtain ⟨g2, h⟩ := of_guard h
    refine ⟨g2, ?_⟩
    refine ⟨trivial, ?_⟩
    refine ⟨trivial, ?_⟩
    refine ⟨trivial, ?_⟩
    obtain rfl := Option.some.inj h
    exact ⟨trivial, trivial, rfl, rfl⟩
/-! halter/sigset.First -/
def sigset_First.f (a0 : Int) : Option Int :=
  if (bits .and .u32 a0 (2147483647 : Int)) = (0 : Int) then
    some (0 : Int)
  else
    (math_bits_TrailingZeros32.f a0).bind fun t2 =>
    some (IntKind.wrap .i64 (t2 + (1 : Int)))
def sigset_First.R (r : Int) : Tm := .v (.one (.sc (.int .i64 r)))
theorem sigset_First.fun_ {a0 : Int} {r : Int} (h : sigset_First.f a0 = some r) : Fun cfg 31 [.one (.sc (.int .u32 a0))] [] (sigset_First.R r) [] := by
  unfold sigset_First.f at h
  refine fun_of_run cfg_ok (f := 31) (fn := Tryd.f31) Tryd.func31 rfl (by kernel_rfl) (rs := [.tmp 2]) rfl (nt := 9) rfl (l := fin) (k := (.br (.adj [] (.adj [] (.adj [] .nil))) (.call true [] (Int) (fun t2 => math_bits_TrailingZeros32.R t2) (fun t2 => (.adj [] (.adj [] .nil)))))) (to_goal (q := (True) ∧ (True) ∧ ((((bits .and .u32 a0 (2147483647 : Int)) == (0 : Int)) = true → (True ∧ (True ∧ ((True) ∧ (True) ∧ (.v (.one (.sc (.int .i64 (0 : Int)))) : Tm) = sigset_First.R r ∧ ([] : List Box) = [])))) ∧ (((bits .and .u32 a0 (2147483647 : Int)) == (0 : Int)) = false → (∃ t2 : Int, (Fun cfg 41 [.one (.sc (.int .u32 a0))] [] (math_bits_TrailingZeros32.R t2) [] ∧ True) ∧ (True) ∧ (True ∧ ((True) ∧ (True) ∧ (.v (.one (.sc (.int .i64 (IntKind.wrap .i64 (t2 + (1 : Int)))))) : Tm) = sigset_First.R r ∧ ([] : List Box) = [])))))) (by kernel_rfl) ?_)
  refine ⟨trivial, ?_⟩
  refine ⟨trivial, ?_⟩
  refine ⟨fun b1 => ?_, fun b1 => ?_⟩
  · rw [if_pos (beq_t b1)] at h
    refine ⟨trivial, ?_⟩
    refine ⟨trivial, ?_⟩
    obtain rfl := Option.some.inj h
    exact ⟨trivial, trivial, rfl, rfl⟩
  · rw [if_neg (beq_f b1)] at h
    obtain ⟨t2, ht2, h⟩ := of_bind h
    refine ⟨t2, ⟨math_bits_TrailingZeros32.fun_ ht2, trivial⟩, ?_⟩
    refine ⟨trivial, ?_⟩
    refine ⟨trivial, ?_⟩
    obtain rfl := Option.some.inj h
    exact ⟨trivial, trivial, rfl, rfl⟩
/-! halter/sig.Next -/
def sig_Next.l0 (a0 : Int) (a1 : Int) (a2 : (List Int)) : Nat → Int → Option ((Unit) ⊕ (Int))
  | 0, _ => none
  | n + 1, x1 =>
    if x1 < (2 : Int) then
      if 0 ≤ x1 ∧ x1 < ((2 : Nat) : Int) then
        (sigset_Has.f a0 (List.getD [(9 : Int), (19 : Int)] (Int.toNat x1) (0 : Int))).bind fun t9 =>
        if t9 = true then
          some (.inr (List.getD [(9 : Int), (19 : Int)] (Int.toNat x1) (0 : Int)))
        else
          sig_Next.l0 a0 a1 a2 n (IntKind.wrap .i64 (x1 + (1 : Int)))
      else none
    else
      some (.inl ())
def sig_Next.l0_S (a0 : Int) (a1 : Int) (a2 : (List Int)) (x1 : Int) : St := ⟨[.any, .v (.one (.ptr 0 ⟨0, 0, 0, 0⟩)), .any, .any, .any, .v (.agg [.row 2 (.int .i64) [(9 : Int), (19 : Int)]]), .v (.one (.sc (.int .i64 x1))), .any, .any, .any, .any, .any, .any, .any, .any, .any, .any, .any, .any, .any, .any], [.ex false [.c (.sc (.int .u32 a0)), .c (.sc (.int .u32 a1)), .row 32 (.int .u32) a2] 27], 0⟩
def sig_Next.l0_Q (a0 : Int) (a1 : Int) (a2 : (List Int)) : (Unit) ⊕ (Int) → Exit → St → Prop
  | .inl t => fun e s => e = (.exit 0) ∧ s = ⟨[.any, .v (.one (.ptr 0 ⟨0, 0, 0, 0⟩)), .any, .any, .any, .any, .any, .any, .any, .any, .any, .any, .any, .any, .any, .any, .any, .any, .any, .any, .any], [.ex false [.c (.sc (.int .u32 a0)), .c (.sc (.int .u32 a1)), .row 32 (.int .u32) a2] 27], 0⟩
  | .inr t => fun e s => e = .ret ∧ s = ⟨[.any, .any, .v (.one (.sc (.int .i64 t))), .any, .any, .any, .any, .any, .any, .any, .any, .any, .any, .any, .any, .any, .any, .any, .any, .any, .any], [.ex false [.c (.sc (.int .u32 a0)), .c (.sc (.int .u32 a1)), .row 32 (.int .u32) a2] 27], 0⟩
theorem sig_Next.l0_ok (a0 : Int) (a1 : Int) (a2 : (List Int)) : ∀ (n : Nat) (x1 : Int) (r : (Unit) ⊕ (Int)), sig_Next.l0 a0 a1 a2 n x1 = some r → TripN cfg (cpath (Tryd.f9.body.getD .skip) [1, 0, 1, 0, 0]) n (sig_Next.l0_S a0 a1 a2 x1) (sig_Next.l0_Q a0 a1 a2 r) := by
  intro n
  induction n with
  | zero => intro x1 r h; cases h
  | succ n ih =>
    intro x1 r h
    rw [sig_Next.l0] at h
    refine TripN.of_run cfg_ok (k := (.br (.call true [] (Bool) (fun t9 => sigset_Has.R t9) (fun t9 => (.br (.adj [] (.adj [.keep [2], .drop 1] .nil)) (.adj [] (.adj [] (.adj [.keep [1, 5, 6], .drop 1] .nil)))))) (.adj [.keep [1], .drop 1] .nil))) (to_goal (q := (True) ∧ (((decide (x1 < (2 : Int))) = true → (0 ≤ x1 ∧ x1 < ((2 : Nat) : Int)) ∧ (True) ∧ (∃ t9 : Bool, (Fun cfg 11 [.one (.sc (.int .u32 a0)), .one (.sc (.int .i64 (List.getD [(9 : Int), (19 : Int)] (Int.toNat x1) (0 : Int))))] [] (sigset_Has.R t9) [] ∧ True) ∧ ((t9 = true → (True ∧ (((True) ∧ (True) ∧ True) ∧ sig_Next.l0_Q a0 a1 a2 r .ret ⟨[.any, .any, .v (.one (.sc (.int .i64 (List.getD [(9 : Int), (19 : Int)] (Int.toNat x1) (0 : Int))))), .any, .any, .any, .any, .any, .any, .any, .any, .any, .any, .any, .any, .any, .any, .any, .any, .any, .any], [.ex false [.c (.sc (.int .u32 a0)), .c (.sc (.int .u32 a1)), .row 32 (.int .u32) a2] 27], 0⟩))) ∧ (t9 = false → (True ∧ (True ∧ (True) ∧ (((True) ∧ (True) ∧ True) ∧ TripN cfg (cpath (Tryd.f9.body.getD .skip) [1, 0, 1, 0, 0]) n (sig_Next.l0_S a0 a1 a2 (IntKind.wrap .i64 (x1 + (1 : Int)))) (sig_Next.l0_Q a0 a1 a2 r)))))))) ∧ ((decide (x1 < (2 : Int))) = false → (((True) ∧ (True) ∧ True) ∧ sig_Next.l0_Q a0 a1 a2 r (.exit 0) ⟨[.any, .v (.one (.ptr 0 ⟨0, 0, 0, 0⟩)), .any, .any, .any, .any, .any, .any, .any, .any, .any, .any, .any, .any, .any, .any, .any, .any, .any, .any, .any], [.ex false [.c (.sc (.int .u32 a0)), .c (.sc (.int .u32 a1)), .row 32 (.int .u32) a2] 27], 0⟩)))) (by kernel_rfl) ?_)
    refine ⟨trivial, ?_⟩
    refine ⟨fun b8 => ?_, fun b8 => ?_⟩
    · rw [if_pos (of_decide_eq_true b8)] at h
      obtain ⟨g11, h⟩ := of_guard h
      refine ⟨g11, ?_⟩
      refine ⟨trivial, ?_⟩
      obtain ⟨t9, ht9, h⟩ := of_bind h
      refine ⟨t9, ⟨sigset_Has.fun_ ht9, trivial⟩, ?_⟩
      refine ⟨fun b10 => ?_, fun b10 => ?_⟩
      · rw [if_pos b10] at h
        refine ⟨trivial, ?_⟩
        obtain rfl := Option.some.inj h
        exact ⟨⟨trivial, trivial, trivial⟩, rfl, rfl⟩
      · rw [if_neg (ff b10)] at h
        refine ⟨trivial, ?_⟩
        refine ⟨trivial, ?_⟩
        refine ⟨trivial, ?_⟩
        exact ⟨⟨trivial, trivial, trivial⟩, ih (IntKind.wrap .i64 (x1 + (1 : Int))) r h⟩
    · rw [if_neg (of_decide_eq_false b8)] at h
      obtain rfl := Option.some.inj h
      exact ⟨⟨trivial, trivial, trivial⟩, rfl, rfl⟩
def sig_Next.f (a0 : Int) (a1 : Int) (a2 : (List Int)) : Option Int :=
  (sig_Next.l0 a0 a1 a2 FUEL (0 : Int)).bind fun t7 =>
  match t7 with
  | .inl t13 =>
    (sigset_First.f (bits .andNot .u32 a0 a1)).bind fun t14 =>
    some t14
  | .inr t15 =>
    some t15
def sig_Next.R (r : Int) : Tm := .v (.one (.sc (.int .i64 r)))
theorem sig_Next.fun_ {a0 : Int} {a1 : Int} {a2 : (List Int)} {r : Int} (h : sig_Next.f a0 a1 a2 = some r) : Fun cfg 9 [.agg [.c (.sc (.int .u32 a0)), .c (.sc (.int .u32 a1)), .row 32 (.int .u32) a2]] [] (sig_Next.R r) [] := by
  unfold sig_Next.f at h
  refine fun_of_run cfg_ok (f := 9) (fn := Tryd.f9) Tryd.func9 rfl (by kernel_rfl) (rs := [.tmp 2]) rfl (nt := 21) rfl (l := fin) (k := (.adj [] (.adj [] (.adj [] (.adj [.keep [1, 5, 6]] (.alt (.sub (Unit) (fun _ => (.exit 0)) (fun t13 => ⟨[.any, .v (.one (.ptr 0 ⟨0, 0, 0, 0⟩)), .any, .any, .any, .any, .any, .any, .any, .any, .any, .any, .any, .any, .any, .any, .any, .any, .any, .any, .any], [.ex false [.c (.sc (.int .u32 a0)), .c (.sc (.int .u32 a1)), .row 32 (.int .u32) a2] 27], 0⟩) (fun t13 => (.call true [] (Int) (fun t14 => sigset_First.R t14) (fun t14 => (.adj [] (.adj [.drop 0] .nil)))))) (.sub (Int) (fun _ => .ret) (fun t15 => ⟨[.any, .any, .v (.one (.sc (.int .i64 t15))), .any, .any, .any, .any, .any, .any, .any, .any, .any, .any, .any, .any, .any, .any, .any, .any, .any, .any], [.ex false [.c (.sc (.int .u32 a0)), .c (.sc (.int .u32 a1)), .row 32 (.int .u32) a2] 27], 0⟩) (fun t15 => (.adj [.drop 0] .nil))))))))) (to_goal (q := (True ∧ (True ∧ (True ∧ (((True) ∧ True) ∧ ((∃ t13 : Unit, Trip cfg (.loop (cpath (Tryd.f9.body.getD .skip) [1, 0, 1, 0, 0])) ⟨[.any, .v (.one (.ptr 0 ⟨0, 0, 0, 0⟩)), .any, .any, .any, .v (.agg [.row 2 (.int .i64) [(9 : Int), (19 : Int)]]), .v (.one (.sc (.int .i64 (0 : Int)))), .any, .any, .any, .any, .any, .any, .any, .any, .any, .any, .any, .any, .any, .any], [.ex false [.c (.sc (.int .u32 a0)), .c (.sc (.int .u32 a1)), .row 32 (.int .u32) a2] 27], 0⟩ (fun e s => e = (.exit 0) ∧ s = ⟨[.any, .v (.one (.ptr 0 ⟨0, 0, 0, 0⟩)), .any, .any, .any, .any, .any, .any, .any, .any, .any, .any, .any, .any, .any, .any, .any, .any, .any, .any, .any], [.ex false [.c (.sc (.int .u32 a0)), .c (.sc (.int .u32 a1)), .row 32 (.int .u32) a2] 27], 0⟩) ∧ (True) ∧ (True) ∧ (True) ∧ (∃ t14 : Int, (Fun cfg 31 [.one (.sc (.int .u32 (bits .andNot .u32 a0 a1)))] [] (sigset_First.R t14) [] ∧ True) ∧ (True ∧ ((True) ∧ ((True) ∧ True) ∧ (.v (.one (.sc (.int .i64 t14))) : Tm) = sig_Next.R r ∧ ([] : List Box) = [])))) ∨ (∃ t15 : Int, Trip cfg (.loop (cpath (Tryd.f9.body.getD .skip) [1, 0, 1, 0, 0])) ⟨[.any, .v (.one (.ptr 0 ⟨0, 0, 0, 0⟩)), .any, .any, .any, .v (.agg [.row 2 (.int .i64) [(9 : Int), (19 : Int)]]), .v (.one (.sc (.int .i64 (0 : Int)))), .any, .any, .any, .any, .any, .any, .any, .any, .any, .any, .any, .any, .any, .any], [.ex false [.c (.sc (.int .u32 a0)), .c (.sc (.int .u32 a1)), .row 32 (.int .u32) a2] 27], 0⟩ (fun e s => e = .ret ∧ s = ⟨[.any, .any, .v (.one (.sc (.int .i64 t15))), .any, .any, .any, .any, .any, .any, .any, .any, .any, .any, .any, .any, .any, .any, .any, .any, .any, .any], [.ex false [.c (.sc (.int .u32 a0)), .c (.sc (.int .u32 a1)), .row 32 (.int .u32) a2] 27], 0⟩) ∧ ((True) ∧ ((True) ∧ True) ∧ (.v (.one (.sc (.int .i64 t15))) : Tm) = sig_Next.R r ∧ ([] : List Box) = [])))))))) (by kernel_rfl) ?_)
  refine ⟨trivial, ?_⟩
  refine ⟨trivial, ?_⟩
  refine ⟨trivial, ?_⟩
  obtain ⟨t7, ht7, h⟩ := of_bind h
  refine ⟨⟨trivial, trivial⟩, ?_⟩
  rcases t7 with t13 | t15
  · dsimp only at h
    left
    refine ⟨t13, Trip.loop FUEL (sig_Next.l0_ok a0 a1 a2 FUEL (0 : Int) (.inl t13) ht7), ?_⟩
    refine ⟨trivial, ?_⟩
    refine ⟨trivial, ?_⟩
    refine ⟨trivial, ?_⟩
    obtain ⟨t14, ht14, h⟩ := of_bind h
    refine ⟨t14, ⟨sigset_First.fun_ ht14, trivial⟩, ?_⟩
    refine ⟨trivial, ?_⟩
    obtain rfl := Option.some.inj h
    exact ⟨trivial, ⟨trivial, trivial⟩, rfl, rfl⟩
  · dsimp only at h
    right
    refine ⟨t15, Trip.loop FUEL (sig_Next.l0_ok a0 a1 a2 FUEL (0 : Int) (.inr t15) ht7), ?_⟩
    obtain rfl := Option.some.inj h
    exact ⟨trivial, ⟨trivial, trivial⟩, rfl, rfl⟩
/-! math/bits.OnesCount32 -/
def math_bits_OnesCount32.f (a0 : Int) : Option Int :=
  if 0 ≤ (shr .u32 a0 (24 : Int)) ∧ (shr .u32 a0 (24 : Int)) < (((ByteArray.size (⟨#[0, 1, 1, 2, 1, 2, 2, 3, 1, 2, 2, 3, 2, 3, 3, 4, 1, 2, 2, 3, 2, 3, 3, 4, 2, 3, 3, 4, 3, 4, 4, 5, 1, 2, 2, 3, 2, 3, 3, 4, 2, 3, 3, 4, 3, 4, 4, 5, 2, 3, 3, 4, 3, 4, 4, 5, 3, 4, 4, 5, 4, 5, 5, 6, 1, 2, 2, 3, 2, 3, 3, 4, 2, 3, 3, 4, 3, 4, 4, 5, 2, 3, 3, 4, 3, 4, 4, 5, 3, 4, 4, 5, 4, 5, 5, 6, 2, 3, 3, 4, 3, 4, 4, 5, 3, 4, 4, 5, 4, 5, 5, 6, 3, 4, 4, 5, 4, 5, 5, 6, 4, 5, 5, 6, 5, 6, 6, 7, 1, 2, 2, 3, 2, 3, 3, 4, 2, 3, 3, 4, 3, 4, 4, 5, 2, 3, 3, 4, 3, 4, 4, 5, 3, 4, 4, 5, 4, 5, 5, 6, 2, 3, 3, 4, 3, 4, 4, 5, 3, 4, 4, 5, 4, 5, 5, 6, 3, 4, 4, 5, 4, 5, 5, 6, 4, 5, 5, 6, 5, 6, 6, 7, 2, 3, 3, 4, 3, 4, 4, 5, 3, 4, 4, 5, 4, 5, 5, 6, 3, 4, 4, 5, 4, 5, 5, 6, 4, 5, 5, 6, 5, 6, 6, 7, 3, 4, 4, 5, 4, 5, 5, 6, 4, 5, 5, 6, 5, 6, 6, 7, 4, 5, 5, 6, 5, 6, 6, 7, 5, 6, 6, 7, 6, 7, 7, 8]⟩ : ByteArray)) : Nat) : Int) then
    if 0 ≤ (bits .and .u32 (shr .u32 a0 (16 : Int)) (255 : Int)) ∧ (bits .and .u32 (shr .u32 a0 (16 : Int)) (255 : Int)) < (((ByteArray.size (⟨#[0, 1, 1, 2, 1, 2, 2, 3, 1, 2, 2, 3, 2, 3, 3, 4, 1, 2, 2, 3, 2, 3, 3, 4, 2, 3, 3, 4, 3, 4, 4, 5, 1, 2, 2, 3, 2, 3, 3, 4, 2, 3, 3, 4, 3, 4, 4, 5, 2, 3, 3, 4, 3, 4, 4, 5, 3, 4, 4, 5, 4, 5, 5, 6, 1, 2, 2, 3, 2, 3, 3, 4, 2, 3, 3, 4, 3, 4, 4, 5, 2, 3, 3, 4, 3, 4, 4, 5, 3, 4, 4, 5, 4, 5, 5, 6, 2, 3, 3, 4, 3, 4, 4, 5, 3, 4, 4, 5, 4, 5, 5, 6, 3, 4, 4, 5, 4, 5, 5, 6, 4, 5, 5, 6, 5, 6, 6, 7, 1, 2, 2, 3, 2, 3, 3, 4, 2, 3, 3, 4, 3, 4, 4, 5, 2, 3, 3, 4, 3, 4, 4, 5, 3, 4, 4, 5, 4, 5, 5, 6, 2, 3, 3, 4, 3, 4, 4, 5, 3, 4, 4, 5, 4, 5, 5, 6, 3, 4, 4, 5, 4, 5, 5, 6, 4, 5, 5, 6, 5, 6, 6, 7, 2, 3, 3, 4, 3, 4, 4, 5, 3, 4, 4, 5, 4, 5, 5, 6, 3, 4, 4, 5, 4, 5, 5, 6, 4, 5, 5, 6, 5, 6, 6, 7, 3, 4, 4, 5, 4, 5, 5, 6, 4, 5, 5, 6, 5, 6, 6, 7, 4, 5, 5, 6, 5, 6, 6, 7, 5, 6, 6, 7, 6, 7, 7, 8]⟩ : ByteArray)) : Nat) : Int) then
      if 0 ≤ (bits .and .u32 (shr .u32 a0 (8 : Int)) (255 : Int)) ∧ (bits .and .u32 (shr .u32 a0 (8 : Int)) (255 : Int)) < (((ByteArray.size (⟨#[0, 1, 1, 2, 1, 2, 2, 3, 1, 2, 2, 3, 2, 3, 3, 4, 1, 2, 2, 3, 2, 3, 3, 4, 2, 3, 3, 4, 3, 4, 4, 5, 1, 2, 2, 3, 2, 3, 3, 4, 2, 3, 3, 4, 3, 4, 4, 5, 2, 3, 3, 4, 3, 4, 4, 5, 3, 4, 4, 5, 4, 5, 5, 6, 1, 2, 2, 3, 2, 3, 3, 4, 2, 3, 3, 4, 3, 4, 4, 5, 2, 3, 3, 4, 3, 4, 4, 5, 3, 4, 4, 5, 4, 5, 5, 6, 2, 3, 3, 4, 3, 4, 4, 5, 3, 4, 4, 5, 4, 5, 5, 6, 3, 4, 4, 5, 4, 5, 5, 6, 4, 5, 5, 6, 5, 6, 6, 7, 1, 2, 2, 3, 2, 3, 3, 4, 2, 3, 3, 4, 3, 4, 4, 5, 2, 3, 3, 4, 3, 4, 4, 5, 3, 4, 4, 5, 4, 5, 5, 6, 2, 3, 3, 4, 3, 4, 4, 5, 3, 4, 4, 5, 4, 5, 5, 6, 3, 4, 4, 5, 4, 5, 5, 6, 4, 5, 5, 6, 5, 6, 6, 7, 2, 3, 3, 4, 3, 4, 4, 5, 3, 4, 4, 5, 4, 5, 5, 6, 3, 4, 4, 5, 4, 5, 5, 6, 4, 5, 5, 6, 5, 6, 6, 7, 3, 4, 4, 5, 4, 5, 5, 6, 4, 5, 5, 6, 5, 6, 6, 7, 4, 5, 5, 6, 5, 6, 6, 7, 5, 6, 6, 7, 6, 7, 7, 8]⟩ : ByteArray)) : Nat) : Int) then
        if 0 ≤ (bits .and .u32 a0 (255 : Int)) ∧ (bits .and .u32 a0 (255 : Int)) < (((ByteArray.size (⟨#[0, 1, 1, 2, 1, 2, 2, 3, 1, 2, 2, 3, 2, 3, 3, 4, 1, 2, 2, 3, 2, 3, 3, 4, 2, 3, 3, 4, 3, 4, 4, 5, 1, 2, 2, 3, 2, 3, 3, 4, 2, 3, 3, 4, 3, 4, 4, 5, 2, 3, 3, 4, 3, 4, 4, 5, 3, 4, 4, 5, 4, 5, 5, 6, 1, 2, 2, 3, 2, 3, 3, 4, 2, 3, 3, 4, 3, 4, 4, 5, 2, 3, 3, 4, 3, 4, 4, 5, 3, 4, 4, 5, 4, 5, 5, 6, 2, 3, 3, 4, 3, 4, 4, 5, 3, 4, 4, 5, 4, 5, 5, 6, 3, 4, 4, 5, 4, 5, 5, 6, 4, 5, 5, 6, 5, 6, 6, 7, 1, 2, 2, 3, 2, 3, 3, 4, 2, 3, 3, 4, 3, 4, 4, 5, 2, 3, 3, 4, 3, 4, 4, 5, 3, 4, 4, 5, 4, 5, 5, 6, 2, 3, 3, 4, 3, 4, 4, 5, 3, 4, 4, 5, 4, 5, 5, 6, 3, 4, 4, 5, 4, 5, 5, 6, 4, 5, 5, 6, 5, 6, 6, 7, 2, 3, 3, 4, 3, 4, 4, 5, 3, 4, 4, 5, 4, 5, 5, 6, 3, 4, 4, 5, 4, 5, 5, 6, 4, 5, 5, 6, 5, 6, 6, 7, 3, 4, 4, 5, 4, 5, 5, 6, 4, 5, 5, 6, 5, 6, 6, 7, 4, 5, 5, 6, 5, 6, 6, 7, 5, 6, 6, 7, 6, 7, 7, 8]⟩ : ByteArray)) : Nat) : Int) then
          some (IntKind.wrap .i64 ((IntKind.wrap .u8 ((IntKind.wrap .u8 ((IntKind.wrap .u8 ((bt (⟨#[0, 1, 1, 2, 1, 2, 2, 3, 1, 2, 2, 3, 2, 3, 3, 4, 1, 2, 2, 3, 2, 3, 3, 4, 2, 3, 3, 4, 3, 4, 4, 5, 1, 2, 2, 3, 2, 3, 3, 4, 2, 3, 3, 4, 3, 4, 4, 5, 2, 3, 3, 4, 3, 4, 4, 5, 3, 4, 4, 5, 4, 5, 5, 6, 1, 2, 2, 3, 2, 3, 3, 4, 2, 3, 3, 4, 3, 4, 4, 5, 2, 3, 3, 4, 3, 4, 4, 5, 3, 4, 4, 5, 4, 5, 5, 6, 2, 3, 3, 4, 3, 4, 4, 5, 3, 4, 4, 5, 4, 5, 5, 6, 3, 4, 4, 5, 4, 5, 5, 6, 4, 5, 5, 6, 5, 6, 6, 7, 1, 2, 2, 3, 2, 3, 3, 4, 2, 3, 3, 4, 3, 4, 4, 5, 2, 3, 3, 4, 3, 4, 4, 5, 3, 4, 4, 5, 4, 5, 5, 6, 2, 3, 3, 4, 3, 4, 4, 5, 3, 4, 4, 5, 4, 5, 5, 6, 3, 4, 4, 5, 4, 5, 5, 6, 4, 5, 5, 6, 5, 6, 6, 7, 2, 3, 3, 4, 3, 4, 4, 5, 3, 4, 4, 5, 4, 5, 5, 6, 3, 4, 4, 5, 4, 5, 5, 6, 4, 5, 5, 6, 5, 6, 6, 7, 3, 4, 4, 5, 4, 5, 5, 6, 4, 5, 5, 6, 5, 6, 6, 7, 4, 5, 5, 6, 5, 6, 6, 7, 5, 6, 6, 7, 6, 7, 7, 8]⟩ : ByteArray) (shr .u32 a0 (24 : Int))) + (bt (⟨#[0, 1, 1, 2, 1, 2, 2, 3, 1, 2, 2, 3, 2, 3, 3, 4, 1, 2, 2, 3, 2, 3, 3, 4, 2, 3, 3, 4, 3, 4, 4, 5, 1, 2, 2, 3, 2, 3, 3, 4, 2, 3, 3, 4, 3, 4, 4, 5, 2, 3, 3, 4, 3, 4, 4, 5, 3, 4, 4, 5, 4, 5, 5, 6, 1, 2, 2, 3, 2, 3, 3, 4, 2, 3, 3, 4, 3, 4, 4, 5, 2, 3, 3, 4, 3, 4, 4, 5, 3, 4, 4, 5, 4, 5, 5, 6, 2, 3, 3, 4, 3, 4, 4, 5, 3, 4, 4, 5, 4, 5, 5, 6, 3, 4, 4, 5, 4, 5, 5, 6, 4, 5, 5, 6, 5, 6, 6, 7, 1, 2, 2, 3, 2, 3, 3, 4, 2, 3, 3, 4, 3, 4, 4, 5, 2, 3, 3, 4, 3, 4, 4, 5, 3, 4, 4, 5, 4, 5, 5, 6, 2, 3, 3, 4, 3, 4, 4, 5, 3, 4, 4, 5, 4, 5, 5, 6, 3, 4, 4, 5, 4, 5, 5, 6, 4, 5, 5, 6, 5, 6, 6, 7, 2, 3, 3, 4, 3, 4, 4, 5, 3, 4, 4, 5, 4, 5, 5, 6, 3, 4, 4, 5, 4, 5, 5, 6, 4, 5, 5, 6, 5, 6, 6, 7, 3, 4, 4, 5, 4, 5, 5, 6, 4, 5, 5, 6, 5, 6, 6, 7, 4, 5, 5, 6, 5, 6, 6, 7, 5, 6, 6, 7, 6, 7, 7, 8]⟩ : ByteArray) (bits .and .u32 (shr .u32 a0 (16 : Int)) (255 : Int))))) + (bt (⟨#[0, 1, 1, 2, 1, 2, 2, 3, 1, 2, 2, 3, 2, 3, 3, 4, 1, 2, 2, 3, 2, 3, 3, 4, 2, 3, 3, 4, 3, 4, 4, 5, 1, 2, 2, 3, 2, 3, 3, 4, 2, 3, 3, 4, 3, 4, 4, 5, 2, 3, 3, 4, 3, 4, 4, 5, 3, 4, 4, 5, 4, 5, 5, 6, 1, 2, 2, 3, 2, 3, 3, 4, 2, 3, 3, 4, 3, 4, 4, 5, 2, 3, 3, 4, 3, 4, 4, 5, 3, 4, 4, 5, 4, 5, 5, 6, 2, 3, 3, 4, 3, 4, 4, 5, 3, 4, 4, 5, 4, 5, 5, 6, 3, 4, 4, 5, 4, 5, 5, 6, 4, 5, 5, 6, 5, 6, 6, 7, 1, 2, 2, 3, 2, 3, 3, 4, 2, 3, 3, 4, 3, 4, 4, 5, 2, 3, 3, 4, 3, 4, 4, 5, 3, 4, 4, 5, 4, 5, 5, 6, 2, 3, 3, 4, 3, 4, 4, 5, 3, 4, 4, 5, 4, 5, 5, 6, 3, 4, 4, 5, 4, 5, 5, 6, 4, 5, 5, 6, 5, 6, 6, 7, 2, 3, 3, 4, 3, 4, 4, 5, 3, 4, 4, 5, 4, 5, 5, 6, 3, 4, 4, 5, 4, 5, 5, 6, 4, 5, 5, 6, 5, 6, 6, 7, 3, 4, 4, 5, 4, 5, 5, 6, 4, 5, 5, 6, 5, 6, 6, 7, 4, 5, 5, 6, 5, 6, 6, 7, 5, 6, 6, 7, 6, 7, 7, 8]⟩ : ByteArray) (bits .and .u32 (shr .u32 a0 (8 : Int)) (255 : Int))))) + (bt (⟨#[0, 1, 1, 2, 1, 2, 2, 3, 1, 2, 2, 3, 2, 3, 3, 4, 1, 2, 2, 3, 2, 3, 3, 4, 2, 3, 3, 4, 3, 4, 4, 5, 1, 2, 2, 3, 2, 3, 3, 4, 2, 3, 3, 4, 3, 4, 4, 5, 2, 3, 3, 4, 3, 4, 4, 5, 3, 4, 4, 5, 4, 5, 5, 6, 1, 2, 2, 3, 2, 3, 3, 4, 2, 3, 3, 4, 3, 4, 4, 5, 2, 3, 3, 4, 3, 4, 4, 5, 3, 4, 4, 5, 4, 5, 5, 6, 2, 3, 3, 4, 3, 4, 4, 5, 3, 4, 4, 5, 4, 5, 5, 6, 3, 4, 4, 5, 4, 5, 5, 6, 4, 5, 5, 6, 5, 6, 6, 7, 1, 2, 2, 3, 2, 3, 3, 4, 2, 3, 3, 4, 3, 4, 4, 5, 2, 3, 3, 4, 3, 4, 4, 5, 3, 4, 4, 5, 4, 5, 5, 6, 2, 3, 3, 4, 3, 4, 4, 5, 3, 4, 4, 5, 4, 5, 5, 6, 3, 4, 4, 5, 4, 5, 5, 6, 4, 5, 5, 6, 5, 6, 6, 7, 2, 3, 3, 4, 3, 4, 4, 5, 3, 4, 4, 5, 4, 5, 5, 6, 3, 4, 4, 5, 4, 5, 5, 6, 4, 5, 5, 6, 5, 6, 6, 7, 3, 4, 4, 5, 4, 5, 5, 6, 4, 5, 5, 6, 5, 6, 6, 7, 4, 5, 5, 6, 5, 6, 6, 7, 5, 6, 6, 7, 6, 7, 7, 8]⟩ : ByteArray) (bits .and .u32 a0 (255 : Int)))))))
        else none
      else none
    else none
  else none
def math_bits_OnesCount32.R (r : Int) : Tm := .v (.one (.sc (.int .i64 r)))
theorem math_bits_OnesCount32.fun_ {a0 : Int} {r : Int} (h : math_bits_OnesCount32.f a0 = some r) : Fun cfg 35 [.one (.sc (.int .u32 a0))] [] (math_bits_OnesCount32.R r) [] := by
  unfold math_bits_OnesCount32.f at h
  refine fun_of_run cfg_ok (f := 35) (fn := Tryd.f35) Tryd.func35 rfl (by kernel_rfl) (rs := [.tmp 2]) rfl (nt := 21) rfl (l := fin) (k := (.dr [(0, ⟨none, .no, false⟩), (1, ⟨none, .no, false⟩), (2, ⟨none, .no, false⟩), (3, ⟨none, .no, false⟩), (4, ⟨none, .no, false⟩), (5, ⟨none, .no, false⟩), (6, ⟨none, .no, false⟩), (7, ⟨none, .no, false⟩), (8, ⟨none, .no, false⟩), (9, ⟨none, .no, false⟩), (10, ⟨none, .no, false⟩), (11, ⟨none, .no, false⟩), (12, ⟨none, .no, false⟩), (13, ⟨none, .no, false⟩), (14, ⟨none, .no, false⟩), (15, ⟨none, .no, false⟩), (16, ⟨none, .no, false⟩), (17, ⟨none, .no, false⟩), (18, ⟨none, .no, false⟩)] (.adj [] (.adj [] .nil)))) (to_goal (q := (0 ≤ (24 : Int)) ∧ (0 ≤ (shr .u32 a0 (24 : Int)) ∧ (shr .u32 a0 (24 : Int)) < (((ByteArray.size (⟨#[0, 1, 1, 2, 1, 2, 2, 3, 1, 2, 2, 3, 2, 3, 3, 4, 1, 2, 2, 3, 2, 3, 3, 4, 2, 3, 3, 4, 3, 4, 4, 5, 1, 2, 2, 3, 2, 3, 3, 4, 2, 3, 3, 4, 3, 4, 4, 5, 2, 3, 3, 4, 3, 4, 4, 5, 3, 4, 4, 5, 4, 5, 5, 6, 1, 2, 2, 3, 2, 3, 3, 4, 2, 3, 3, 4, 3, 4, 4, 5, 2, 3, 3, 4, 3, 4, 4, 5, 3, 4, 4, 5, 4, 5, 5, 6, 2, 3, 3, 4, 3, 4, 4, 5, 3, 4, 4, 5, 4, 5, 5, 6, 3, 4, 4, 5, 4, 5, 5, 6, 4, 5, 5, 6, 5, 6, 6, 7, 1, 2, 2, 3, 2, 3, 3, 4, 2, 3, 3, 4, 3, 4, 4, 5, 2, 3, 3, 4, 3, 4, 4, 5, 3, 4, 4, 5, 4, 5, 5, 6, 2, 3, 3, 4, 3, 4, 4, 5, 3, 4, 4, 5, 4, 5, 5, 6, 3, 4, 4, 5, 4, 5, 5, 6, 4, 5, 5, 6, 5, 6, 6, 7, 2, 3, 3, 4, 3, 4, 4, 5, 3, 4, 4, 5, 4, 5, 5, 6, 3, 4, 4, 5, 4, 5, 5, 6, 4, 5, 5, 6, 5, 6, 6, 7, 3, 4, 4, 5, 4, 5, 5, 6, 4, 5, 5, 6, 5, 6, 6, 7, 4, 5, 5, 6, 5, 6, 6, 7, 5, 6, 6, 7, 6, 7, 7, 8]⟩ : ByteArray)) : Nat) : Int)) ∧ (0 ≤ (16 : Int)) ∧ (True) ∧ (0 ≤ (bits .and .u32 (shr .u32 a0 (16 : Int)) (255 : Int)) ∧ (bits .and .u32 (shr .u32 a0 (16 : Int)) (255 : Int)) < (((ByteArray.size (⟨#[0, 1, 1, 2, 1, 2, 2, 3, 1, 2, 2, 3, 2, 3, 3, 4, 1, 2, 2, 3, 2, 3, 3, 4, 2, 3, 3, 4, 3, 4, 4, 5, 1, 2, 2, 3, 2, 3, 3, 4, 2, 3, 3, 4, 3, 4, 4, 5, 2, 3, 3, 4, 3, 4, 4, 5, 3, 4, 4, 5, 4, 5, 5, 6, 1, 2, 2, 3, 2, 3, 3, 4, 2, 3, 3, 4, 3, 4, 4, 5, 2, 3, 3, 4, 3, 4, 4, 5, 3, 4, 4, 5, 4, 5, 5, 6, 2, 3, 3, 4, 3, 4, 4, 5, 3, 4, 4, 5, 4, 5, 5, 6, 3, 4, 4, 5, 4, 5, 5, 6, 4, 5, 5, 6, 5, 6, 6, 7, 1, 2, 2, 3, 2, 3, 3, 4, 2, 3, 3, 4, 3, 4, 4, 5, 2, 3, 3, 4, 3, 4, 4, 5, 3, 4, 4, 5, 4, 5, 5, 6, 2, 3, 3, 4, 3, 4, 4, 5, 3, 4, 4, 5, 4, 5, 5, 6, 3, 4, 4, 5, 4, 5, 5, 6, 4, 5, 5, 6, 5, 6, 6, 7, 2, 3, 3, 4, 3, 4, 4, 5, 3, 4, 4, 5, 4, 5, 5, 6, 3, 4, 4, 5, 4, 5, 5, 6, 4, 5, 5, 6, 5, 6, 6, 7, 3, 4, 4, 5, 4, 5, 5, 6, 4, 5, 5, 6, 5, 6, 6, 7, 4, 5, 5, 6, 5, 6, 6, 7, 5, 6, 6, 7, 6, 7, 7, 8]⟩ : ByteArray)) : Nat) : Int)) ∧ (True) ∧ (0 ≤ (8 : Int)) ∧ (True) ∧ (0 ≤ (bits .and .u32 (shr .u32 a0 (8 : Int)) (255 : Int)) ∧ (bits .and .u32 (shr .u32 a0 (8 : Int)) (255 : Int)) < (((ByteArray.size (⟨#[0, 1, 1, 2, 1, 2, 2, 3, 1, 2, 2, 3, 2, 3, 3, 4, 1, 2, 2, 3, 2, 3, 3, 4, 2, 3, 3, 4, 3, 4, 4, 5, 1, 2, 2, 3, 2, 3, 3, 4, 2, 3, 3, 4, 3, 4, 4, 5, 2, 3, 3, 4, 3, 4, 4, 5, 3, 4, 4, 5, 4, 5, 5, 6, 1, 2, 2, 3, 2, 3, 3, 4, 2, 3, 3, 4, 3, 4, 4, 5, 2, 3, 3, 4, 3, 4, 4, 5, 3, 4, 4, 5, 4, 5, 5, 6, 2, 3, 3, 4, 3, 4, 4, 5, 3, 4, 4, 5, 4, 5, 5, 6, 3, 4, 4, 5, 4, 5, 5, 6, 4, 5, 5, 6, 5, 6, 6, 7, 1, 2, 2, 3, 2, 3, 3, 4, 2, 3, 3, 4, 3, 4, 4, 5, 2, 3, 3, 4, 3, 4, 4, 5, 3, 4, 4, 5, 4, 5, 5, 6, 2, 3, 3, 4, 3, 4, 4, 5, 3, 4, 4, 5, 4, 5, 5, 6, 3, 4, 4, 5, 4, 5, 5, 6, 4, 5, 5, 6, 5, 6, 6, 7, 2, 3, 3, 4, 3, 4, 4, 5, 3, 4, 4, 5, 4, 5, 5, 6, 3, 4, 4, 5, 4, 5, 5, 6, 4, 5, 5, 6, 5, 6, 6, 7, 3, 4, 4, 5, 4, 5, 5, 6, 4, 5, 5, 6, 5, 6, 6, 7, 4, 5, 5, 6, 5, 6, 6, 7, 5, 6, 6, 7, 6, 7, 7, 8]⟩ : ByteArray)) : Nat) : Int)) ∧ (True) ∧ (True) ∧ (0 ≤ (bits .and .u32 a0 (255 : Int)) ∧ (bits .and .u32 a0 (255 : Int)) < (((ByteArray.size (⟨#[0, 1, 1, 2, 1, 2, 2, 3, 1, 2, 2, 3, 2, 3, 3, 4, 1, 2, 2, 3, 2, 3, 3, 4, 2, 3, 3, 4, 3, 4, 4, 5, 1, 2, 2, 3, 2, 3, 3, 4, 2, 3, 3, 4, 3, 4, 4, 5, 2, 3, 3, 4, 3, 4, 4, 5, 3, 4, 4, 5, 4, 5, 5, 6, 1, 2, 2, 3, 2, 3, 3, 4, 2, 3, 3, 4, 3, 4, 4, 5, 2, 3, 3, 4, 3, 4, 4, 5, 3, 4, 4, 5, 4, 5, 5, 6, 2, 3, 3, 4, 3, 4, 4, 5, 3, 4, 4, 5, 4, 5, 5, 6, 3, 4, 4, 5, 4, 5, 5, 6, 4, 5, 5, 6, 5, 6, 6, 7, 1, 2, 2, 3, 2, 3, 3, 4, 2, 3, 3, 4, 3, 4, 4, 5, 2, 3, 3, 4, 3, 4, 4, 5, 3, 4, 4, 5, 4, 5, 5, 6, 2, 3, 3, 4, 3, 4, 4, 5, 3, 4, 4, 5, 4, 5, 5, 6, 3, 4, 4, 5, 4, 5, 5, 6, 4, 5, 5, 6, 5, 6, 6, 7, 2, 3, 3, 4, 3, 4, 4, 5, 3, 4, 4, 5, 4, 5, 5, 6, 3, 4, 4, 5, 4, 5, 5, 6, 4, 5, 5, 6, 5, 6, 6, 7, 3, 4, 4, 5, 4, 5, 5, 6, 4, 5, 5, 6, 5, 6, 6, 7, 4, 5, 5, 6, 5, 6, 6, 7, 5, 6, 6, 7, 6, 7, 7, 8]⟩ : ByteArray)) : Nat) : Int)) ∧ (True) ∧ (True) ∧ (True ∧ ((True) ∧ (True) ∧ (.v (.one (.sc (.int .i64 (IntKind.wrap .i64 ((IntKind.wrap .u8 ((IntKind.wrap .u8 ((IntKind.wrap .u8 ((bt (⟨#[0, 1, 1, 2, 1, 2, 2, 3, 1, 2, 2, 3, 2, 3, 3, 4, 1, 2, 2, 3, 2, 3, 3, 4, 2, 3, 3, 4, 3, 4, 4, 5, 1, 2, 2, 3, 2, 3, 3, 4, 2, 3, 3, 4, 3, 4, 4, 5, 2, 3, 3, 4, 3, 4, 4, 5, 3, 4, 4, 5, 4, 5, 5, 6, 1, 2, 2, 3, 2, 3, 3, 4, 2, 3, 3, 4, 3, 4, 4, 5, 2, 3, 3, 4, 3, 4, 4, 5, 3, 4, 4, 5, 4, 5, 5, 6, 2, 3, 3, 4, 3, 4, 4, 5, 3, 4, 4, 5, 4, 5, 5, 6, 3, 4, 4, 5, 4, 5, 5, 6, 4, 5, 5, 6, 5, 6, 6, 7, 1, 2, 2, 3, 2, 3, 3, 4, 2, 3, 3, 4, 3, 4, 4, 5, 2, 3, 3, 4, 3, 4, 4, 5, 3, 4, 4, 5, 4, 5, 5, 6, 2, 3, 3, 4, 3, 4, 4, 5, 3, 4, 4, 5, 4, 5, 5, 6, 3, 4, 4, 5, 4, 5, 5, 6, 4, 5, 5, 6, 5, 6, 6, 7, 2, 3, 3, 4, 3, 4, 4, 5, 3, 4, 4, 5, 4, 5, 5, 6, 3, 4, 4, 5, 4, 5, 5, 6, 4, 5, 5, 6, 5, 6, 6, 7, 3, 4, 4, 5, 4, 5, 5, 6, 4, 5, 5, 6, 5, 6, 6, 7, 4, 5, 5, 6, 5, 6, 6, 7, 5, 6, 6, 7, 6, 7, 7, 8]⟩ : ByteArray) (shr .u32 a0 (24 : Int))) + (bt (⟨#[0, 1, 1, 2, 1, 2, 2, 3, 1, 2, 2, 3, 2, 3, 3, 4, 1, 2, 2, 3, 2, 3, 3, 4, 2, 3, 3, 4, 3, 4, 4, 5, 1, 2, 2, 3, 2, 3, 3, 4, 2, 3, 3, 4, 3, 4, 4, 5, 2, 3, 3, 4, 3, 4, 4, 5, 3, 4, 4, 5, 4, 5, 5, 6, 1, 2, 2, 3, 2, 3, 3, 4, 2, 3, 3, 4, 3, 4, 4, 5, 2, 3, 3, 4, 3, 4, 4, 5, 3, 4, 4, 5, 4, 5, 5, 6, 2, 3, 3, 4, 3, 4, 4, 5, 3, 4, 4, 5, 4, 5, 5, 6, 3, 4, 4, 5, 4, 5, 5, 6, 4, 5, 5, 6, 5, 6, 6, 7, 1, 2, 2, 3, 2, 3, 3, 4, 2, 3, 3, 4, 3, 4, 4, 5, 2, 3, 3, 4, 3, 4, 4, 5, 3, 4, 4, 5, 4, 5, 5, 6, 2, 3, 3, 4, 3, 4, 4, 5, 3, 4, 4, 5, 4, 5, 5, 6, 3, 4, 4, 5, 4, 5, 5, 6, 4, 5, 5, 6, 5, 6, 6, 7, 2, 3, 3, 4, 3, 4, 4, 5, 3, 4, 4, 5, 4, 5, 5, 6, 3, 4, 4, 5, 4, 5, 5, 6, 4, 5, 5, 6, 5, 6, 6, 7, 3, 4, 4, 5, 4, 5, 5, 6, 4, 5, 5, 6, 5, 6, 6, 7, 4, 5, 5, 6, 5, 6, 6, 7, 5, 6, 6, 7, 6, 7, 7, 8]⟩ : ByteArray) (bits .and .u32 (shr .u32 a0 (16 : Int)) (255 : Int))))) + (bt (⟨#[0, 1, 1, 2, 1, 2, 2, 3, 1, 2, 2, 3, 2, 3, 3, 4, 1, 2, 2, 3, 2, 3, 3, 4, 2, 3, 3, 4, 3, 4, 4, 5, 1, 2, 2, 3, 2, 3, 3, 4, 2, 3, 3, 4, 3, 4, 4, 5, 2, 3, 3, 4, 3, 4, 4, 5, 3, 4, 4, 5, 4, 5, 5, 6, 1, 2, 2, 3, 2, 3, 3, 4, 2, 3, 3, 4, 3, 4, 4, 5, 2, 3, 3, 4, 3, 4, 4, 5, 3, 4, 4, 5, 4, 5, 5, 6, 2, 3, 3, 4, 3, 4, 4, 5, 3, 4, 4, 5, 4, 5, 5, 6, 3, 4, 4, 5, 4, 5, 5, 6, 4, 5, 5, 6, 5, 6, 6, 7, 1, 2, 2, 3, 2, 3, 3, 4, 2, 3, 3, 4, 3, 4, 4, 5, 2, 3, 3, 4, 3, 4, 4, 5, 3, 4, 4, 5, 4, 5, 5, 6, 2, 3, 3, 4, 3, 4, 4, 5, 3, 4, 4, 5, 4, 5, 5, 6, 3, 4, 4, 5, 4, 5, 5, 6, 4, 5, 5, 6, 5, 6, 6, 7, 2, 3, 3, 4, 3, 4, 4, 5, 3, 4, 4, 5, 4, 5, 5, 6, 3, 4, 4, 5, 4, 5, 5, 6, 4, 5, 5, 6, 5, 6, 6, 7, 3, 4, 4, 5, 4, 5, 5, 6, 4, 5, 5, 6, 5, 6, 6, 7, 4, 5, 5, 6, 5, 6, 6, 7, 5, 6, 6, 7, 6, 7, 7, 8]⟩ : ByteArray) (bits .and .u32 (shr .u32 a0 (8 : Int)) (255 : Int))))) + (bt (⟨#[0, 1, 1, 2, 1, 2, 2, 3, 1, 2, 2, 3, 2, 3, 3, 4, 1, 2, 2, 3, 2, 3, 3, 4, 2, 3, 3, 4, 3, 4, 4, 5, 1, 2, 2, 3, 2, 3, 3, 4, 2, 3, 3, 4, 3, 4, 4, 5, 2, 3, 3, 4, 3, 4, 4, 5, 3, 4, 4, 5, 4, 5, 5, 6, 1, 2, 2, 3, 2, 3, 3, 4, 2, 3, 3, 4, 3, 4, 4, 5, 2, 3, 3, 4, 3, 4, 4, 5, 3, 4, 4, 5, 4, 5, 5, 6, 2, 3, 3, 4, 3, 4, 4, 5, 3, 4, 4, 5, 4, 5, 5, 6, 3, 4, 4, 5, 4, 5, 5, 6, 4, 5, 5, 6, 5, 6, 6, 7, 1, 2, 2, 3, 2, 3, 3, 4, 2, 3, 3, 4, 3, 4, 4, 5, 2, 3, 3, 4, 3, 4, 4, 5, 3, 4, 4, 5, 4, 5, 5, 6, 2, 3, 3, 4, 3, 4, 4, 5, 3, 4, 4, 5, 4, 5, 5, 6, 3, 4, 4, 5, 4, 5, 5, 6, 4, 5, 5, 6, 5, 6, 6, 7, 2, 3, 3, 4, 3, 4, 4, 5, 3, 4, 4, 5, 4, 5, 5, 6, 3, 4, 4, 5, 4, 5, 5, 6, 4, 5, 5, 6, 5, 6, 6, 7, 3, 4, 4, 5, 4, 5, 5, 6, 4, 5, 5, 6, 5, 6, 6, 7, 4, 5, 5, 6, 5, 6, 6, 7, 5, 6, 6, 7, 6, 7, 7, 8]⟩ : ByteArray) (bits .and .u32 a0 (255 : Int)))))))))) : Tm) = math_bits_OnesCount32.R r ∧ ([] : List Box) = []))) (by kernel_rfl) ?_)
  obtain ⟨g1, h⟩ := of_guard h
  obtain ⟨g2, h⟩ := of_guard h
  obtain ⟨g3, h⟩ := of_guard h
  obtain ⟨g4, h⟩ := of_guard h
  refine ⟨(by decide), g1, (by decide), trivial, g2, trivial, (by decide), trivial, g3, trivial, trivial, g4, trivial, trivial, ?_⟩
  refine ⟨trivial, ?_⟩
  obtain rfl := Option.some.inj h
  exact ⟨trivial, trivial, rfl, rfl⟩
/-! halter/sigset.Count -/
def sigset_Count.f (a0 : Int) : Option Int :=
  (math_bits_OnesCount32.f (bits .and .u32 a0 (2147483647 : Int))).bind fun t1 =>
  some t1
def sigset_Count.R (r : Int) : Tm := .v (.one (.sc (.int .i64 r)))
theorem sigset_Count.fun_ {a0 : Int} {r : Int} (h : sigset_Count.f a0 = some r) : Fun cfg 15 [.one (.sc (.int .u32 a0))] [] (sigset_Count.R r) [] := by
  unfold sigset_Count.f at h
  refine fun_of_run cfg_ok (f := 15) (fn := Tryd.f15) Tryd.func15 rfl (by kernel_rfl) (rs := [.tmp 2]) rfl (nt := 6) rfl (l := fin) (k := (.call true [] (Int) (fun t1 => math_bits_OnesCount32.R t1) (fun t1 => (.adj [] (.adj [] .nil))))) (to_goal (q := (True) ∧ (∃ t1 : Int, (Fun cfg 35 [.one (.sc (.int .u32 (bits .and .u32 a0 (2147483647 : Int))))] [] (math_bits_OnesCount32.R t1) [] ∧ True) ∧ (True ∧ ((True) ∧ (True) ∧ (.v (.one (.sc (.int .i64 t1))) : Tm) = sigset_Count.R r ∧ ([] : List Box) = [])))) (by kernel_rfl) ?_)
  refine ⟨trivial, ?_⟩
  obtain ⟨t1, ht1, h⟩ := of_bind h
  refine ⟨t1, ⟨math_bits_OnesCount32.fun_ ht1, trivial⟩, ?_⟩
  refine ⟨trivial, ?_⟩
  obtain rfl := Option.some.inj h
  exact ⟨trivial, trivial, rfl, rfl⟩
/-! halter/sig.Mask -/
def sig_Mask.f (a0 : Int) (a1 : Int) (a2 : (List Int)) (a3 : Int) (a4 : Int) : Option (Int × Int × (List Int) × (Option Int)) :=
  (sig_Check.f a0 a1 a2).bind fun t1 =>
  if ¬ (t1 = none) then
    some ((0 : Int), (0 : Int), (List.replicate 32 (0 : Int)), (some (22 : Int)))
  else
    if a3 = (0 : Int) then
      some (a0, (bits .andNot .u32 (bits .or .u32 a1 (bits .and .u32 a4 (2147483647 : Int))) (262400 : Int)), a2, none)
    else
      if a3 = (1 : Int) then
        some (a0, (bits .andNot .u32 (bits .andNot .u32 a1 (bits .and .u32 a4 (2147483647 : Int))) (262400 : Int)), a2, none)
      else
        if a3 = (2 : Int) then
          some (a0, (bits .andNot .u32 (bits .and .u32 a4 (2147483647 : Int)) (262400 : Int)), a2, none)
        else
          some ((0 : Int), (0 : Int), (List.replicate 32 (0 : Int)), (some (22 : Int)))
def sig_Mask.R (r : Int × Int × (List Int) × (Option Int)) : Tm := .tup [.agg [.c (.sc (.int .u32 r.1)), .c (.sc (.int .u32 r.2.1)), .row 32 (.int .u32) r.2.2.1], .one (.err r.2.2.2)]
theorem sig_Mask.fun_ {a0 : Int} {a1 : Int} {a2 : (List Int)} {a3 : Int} {a4 : Int} {r : Int × Int × (List Int) × (Option Int)} (h : sig_Mask.f a0 a1 a2 a3 a4 = some r) : Fun cfg 6 [.agg [.c (.sc (.int .u32 a0)), .c (.sc (.int .u32 a1)), .row 32 (.int .u32) a2], .one (.sc (.int .i64 a3)), .one (.sc (.int .u32 a4))] [] (sig_Mask.R r) [] := by
  unfold sig_Mask.f at h
  refine fun_of_run cfg_ok (f := 6) (fn := Tryd.f6) Tryd.func6 rfl (by kernel_rfl) (rs := [.cell 6 27, .tmp 7]) rfl (nt := 41) rfl (l := fin) (k := (.call true [] ((Option Int)) (fun t1 => sig_Check.R t1) (fun t1 => (.br (.adj [] (.adj [] (.adj [.drop 0] .nil))) (.br (.adj [] (.adj [] (.adj [] (.adj [] (.adj [.drop 0] .nil))))) (.br (.adj [] (.adj [] (.adj [] (.adj [] (.adj [.drop 0] .nil))))) (.br (.adj [] (.adj [] (.adj [] (.adj [] (.adj [.drop 0] .nil))))) (.adj [] (.adj [] (.adj [.drop 0] .nil)))))))))) (to_goal (q := (True) ∧ (∃ t1 : (Option Int), (Fun cfg 14 [.agg [.c (.sc (.int .u32 a0)), .c (.sc (.int .u32 a1)), .row 32 (.int .u32) a2]] [] (sig_Check.R t1) [] ∧ True) ∧ (True) ∧ (((!(Option.isNone t1)) = true → (True ∧ (True) ∧ (True ∧ (((True) ∧ True) ∧ ((True) ∧ True) ∧ (.tup [.agg [.c (.sc (.int .u32 (0 : Int))), .c (.sc (.int .u32 (0 : Int))), .row 32 (.int .u32) (List.replicate 32 (0 : Int))], .one (.err (some (22 : Int)))] : Tm) = sig_Mask.R r ∧ ([] : List Box) = [])))) ∧ ((!(Option.isNone t1)) = false → (True) ∧ (True) ∧ (((a3 == (0 : Int)) = true → (True ∧ (True) ∧ (True) ∧ (True) ∧ (True ∧ (True) ∧ (True) ∧ (True) ∧ (True ∧ (True) ∧ (True) ∧ (True ∧ (((True) ∧ True) ∧ ((True) ∧ True) ∧ (.tup [.agg [.c (.sc (.int .u32 a0)), .c (.sc (.int .u32 (bits .andNot .u32 (bits .or .u32 a1 (bits .and .u32 a4 (2147483647 : Int))) (262400 : Int)))), .row 32 (.int .u32) a2], .one (.err none)] : Tm) = sig_Mask.R r ∧ ([] : List Box) = [])))))) ∧ ((a3 == (0 : Int)) = false → (True) ∧ (((a3 == (1 : Int)) = true → (True ∧ (True) ∧ (True) ∧ (True) ∧ (True ∧ (True) ∧ (True) ∧ (True) ∧ (True ∧ (True) ∧ (True) ∧ (True ∧ (((True) ∧ True) ∧ ((True) ∧ True) ∧ (.tup [.agg [.c (.sc (.int .u32 a0)), .c (.sc (.int .u32 (bits .andNot .u32 (bits .andNot .u32 a1 (bits .and .u32 a4 (2147483647 : Int))) (262400 : Int)))), .row 32 (.int .u32) a2], .one (.err none)] : Tm) = sig_Mask.R r ∧ ([] : List Box) = [])))))) ∧ ((a3 == (1 : Int)) = false → (True) ∧ (((a3 == (2 : Int)) = true → (True ∧ (True) ∧ (True ∧ (True) ∧ (True) ∧ (True) ∧ (True ∧ (True) ∧ (True) ∧ (True ∧ (((True) ∧ True) ∧ ((True) ∧ True) ∧ (.tup [.agg [.c (.sc (.int .u32 a0)), .c (.sc (.int .u32 (bits .andNot .u32 (bits .and .u32 a4 (2147483647 : Int)) (262400 : Int)))), .row 32 (.int .u32) a2], .one (.err none)] : Tm) = sig_Mask.R r ∧ ([] : List Box) = [])))))) ∧ ((a3 == (2 : Int)) = false → (True ∧ (True) ∧ (True ∧ (((True) ∧ True) ∧ ((True) ∧ True) ∧ (.tup [.agg [.c (.sc (.int .u32 (0 : Int))), .c (.sc (.int .u32 (0 : Int))), .row 32 (.int .u32) (List.replicate 32 (0 : Int))], .one (.err (some (22 : Int)))] : Tm) = sig_Mask.R r ∧ ([] : List Box) = []))))))))))))) (by kernel_rfl) ?_)
  refine ⟨trivial, ?_⟩
  obtain ⟨t1, ht1, h⟩ := of_bind h
  refine ⟨t1, ⟨sig_Check.fun_ ht1, trivial⟩, ?_⟩
  refine ⟨trivial, ?_⟩
  refine ⟨fun b2 => ?_, fun b2 => ?_⟩
  · rw [if_pos (none_f (not_t b2))] at h
    refine ⟨trivial, ?_⟩
    refine ⟨trivial, ?_⟩
    refine ⟨trivial, ?_⟩
    obtain rfl := Option.some.inj h
    exact ⟨⟨trivial, trivial⟩, ⟨trivial, trivial⟩, rfl, rfl⟩
  · rw [if_neg (not_not_intro (none_t (not_f b2)))] at h
    refine ⟨trivial, ?_⟩
    refine ⟨trivial, ?_⟩
    refine ⟨fun b3 => ?_, fun b3 => ?_⟩
    · rw [if_pos (beq_t b3)] at h
      refine ⟨trivial, ?_⟩
      refine ⟨trivial, ?_⟩
      refine ⟨trivial, ?_⟩
      refine ⟨trivial, ?_⟩
      refine ⟨trivial, ?_⟩
      refine ⟨trivial, ?_⟩
      refine ⟨trivial, ?_⟩
      refine ⟨trivial, ?_⟩
      refine ⟨trivial, ?_⟩
      refine ⟨trivial, ?_⟩
      refine ⟨trivial, ?_⟩
      refine ⟨trivial, ?_⟩
      obtain rfl := Option.some.inj h
      exact ⟨⟨trivial, trivial⟩, ⟨trivial, trivial⟩, rfl, rfl⟩
    · rw [if_neg (beq_f b3)] at h
      refine ⟨trivial, ?_⟩
      refine ⟨fun b4 => ?_, fun b4 => ?_⟩
      · rw [if_pos (beq_t b4)] at h
        refine ⟨trivial, ?_⟩
        refine ⟨trivial, ?_⟩
        refine ⟨trivial, ?_⟩
        refine ⟨trivial, ?_⟩
        refine ⟨trivial, ?_⟩
        refine ⟨trivial, ?_⟩
        refine ⟨trivial, ?_⟩
        refine ⟨trivial, ?_⟩
        refine ⟨trivial, ?_⟩
        refine ⟨trivial, ?_⟩
        refine ⟨trivial, ?_⟩
        refine ⟨trivial, ?_⟩
        obtain rfl := Option.some.inj h
        exact ⟨⟨trivial, trivial⟩, ⟨trivial, trivial⟩, rfl, rfl⟩
      · rw [if_neg (beq_f b4)] at h
        refine ⟨trivial, ?_⟩
        refine ⟨fun b5 => ?_, fun b5 => ?_⟩
        · rw [if_pos (beq_t b5)] at h
          refine ⟨trivial, ?_⟩
          refine ⟨trivial, ?_⟩
          refine ⟨trivial, ?_⟩
          refine ⟨trivial, ?_⟩
          refine ⟨trivial, ?_⟩
          refine ⟨trivial, ?_⟩
          refine ⟨trivial, ?_⟩
          refine ⟨trivial, ?_⟩
          refine ⟨trivial, ?_⟩
          refine ⟨trivial, ?_⟩
          obtain rfl := Option.some.inj h
          exact ⟨⟨trivial, trivial⟩, ⟨trivial, trivial⟩, rfl, rfl⟩
        · rw [if_neg (beq_f b5)] at h
          refine ⟨trivial, ?_⟩
          refine ⟨trivial, ?_⟩
          refine ⟨trivial, ?_⟩
          obtain rfl := Option.some.inj h
          exact ⟨⟨trivial, trivial⟩, ⟨trivial, trivial⟩, rfl, rfl⟩
/-! halter/sigset.Add -/
def sigset_Add.f (a0 : Int) (a1 : Int) : Option Int :=
  (sigset_One.f a1).bind fun t1 =>
  some (bits .or .u32 (bits .and .u32 a0 (2147483647 : Int)) t1)
def sigset_Add.R (r : Int) : Tm := .v (.one (.sc (.int .u32 r)))
theorem sigset_Add.fun_ {a0 : Int} {a1 : Int} {r : Int} (h : sigset_Add.f a0 a1 = some r) : Fun cfg 30 [.one (.sc (.int .u32 a0)), .one (.sc (.int .i64 a1))] [] (sigset_Add.R r) [] := by
  unfold sigset_Add.f at h
  refine fun_of_run cfg_ok (f := 30) (fn := Tryd.f30) Tryd.func30 rfl (by kernel_rfl) (rs := [.tmp 4]) rfl (nt := 10) rfl (l := fin) (k := (.call true [] (Int) (fun t1 => sigset_One.R t1) (fun t1 => (.adj [] (.adj [] .nil))))) (to_goal (q := (True) ∧ (∃ t1 : Int, (Fun cfg 33 [.one (.sc (.int .i64 a1))] [] (sigset_One.R t1) [] ∧ True) ∧ (True) ∧ (True ∧ ((True) ∧ (True) ∧ (.v (.one (.sc (.int .u32 (bits .or .u32 (bits .and .u32 a0 (2147483647 : Int)) t1)))) : Tm) = sigset_Add.R r ∧ ([] : List Box) = [])))) (by kernel_rfl) ?_)
  refine ⟨trivial, ?_⟩
  obtain ⟨t1, ht1, h⟩ := of_bind h
  refine ⟨t1, ⟨sigset_One.fun_ ht1, trivial⟩, ?_⟩
  refine ⟨trivial, ?_⟩
  refine ⟨trivial, ?_⟩
  obtain rfl := Option.some.inj h
  exact ⟨trivial, trivial, rfl, rfl⟩
/-! halter/sig.against -/
def sig_against.f (a0 : Int) : Option Int :=
  if a0 = (18 : Int) then
    (sigset_One.f (19 : Int)).bind fun t2 =>
    (sigset_Add.f t2 (20 : Int)).bind fun t3 =>
    some t3
  else
    if a0 = (19 : Int) then
      (sigset_One.f (18 : Int)).bind fun t5 =>
      some t5
    else
      if a0 = (20 : Int) then
        (sigset_One.f (18 : Int)).bind fun t7 =>
        some t7
      else
        some (0 : Int)
def sig_against.R (r : Int) : Tm := .v (.one (.sc (.int .u32 r)))
theorem sig_against.fun_ {a0 : Int} {r : Int} (h : sig_against.f a0 = some r) : Fun cfg 29 [.one (.sc (.int .i64 a0))] [] (sig_against.R r) [] := by
  unfold sig_against.f at h
  refine fun_of_run cfg_ok (f := 29) (fn := Tryd.f29) Tryd.func29 rfl (by kernel_rfl) (rs := [.tmp 2]) rfl (nt := 12) rfl (l := fin) (k := (.br (.call true [] (Int) (fun t2 => sigset_One.R t2) (fun t2 => (.call true [] (Int) (fun t3 => sigset_Add.R t3) (fun t3 => (.adj [] (.adj [] .nil)))))) (.br (.one true (.call true [] (Int) (fun t5 => sigset_One.R t5) (fun t5 => (.adj [] (.adj [] .nil))))) (.br (.call true [] (Int) (fun t7 => sigset_One.R t7) (fun t7 => (.adj [] (.adj [] .nil)))) (.adj [] (.adj [] (.adj [] (.adj [] .nil)))))))) (to_goal (q := (True) ∧ (((a0 == (18 : Int)) = true → (∃ t2 : Int, (Fun cfg 33 [.one (.sc (.int .i64 (19 : Int)))] [] (sigset_One.R t2) [] ∧ True) ∧ (∃ t3 : Int, (Fun cfg 30 [.one (.sc (.int .u32 t2)), .one (.sc (.int .i64 (20 : Int)))] [] (sigset_Add.R t3) [] ∧ True) ∧ (True ∧ ((True) ∧ (True) ∧ (.v (.one (.sc (.int .u32 t3))) : Tm) = sig_against.R r ∧ ([] : List Box) = []))))) ∧ ((a0 == (18 : Int)) = false → (True) ∧ (((a0 == (19 : Int)) = true → ((a0 == (19 : Int)) = true ∧ (∃ t5 : Int, (Fun cfg 33 [.one (.sc (.int .i64 (18 : Int)))] [] (sigset_One.R t5) [] ∧ True) ∧ (True ∧ ((True) ∧ (True) ∧ (.v (.one (.sc (.int .u32 t5))) : Tm) = sig_against.R r ∧ ([] : List Box) = []))))) ∧ ((a0 == (19 : Int)) = false → (True) ∧ (((a0 == (20 : Int)) = true → (∃ t7 : Int, (Fun cfg 33 [.one (.sc (.int .i64 (18 : Int)))] [] (sigset_One.R t7) [] ∧ True) ∧ (True ∧ ((True) ∧ (True) ∧ (.v (.one (.sc (.int .u32 t7))) : Tm) = sig_against.R r ∧ ([] : List Box) = [])))) ∧ ((a0 == (20 : Int)) = false → (True ∧ (True ∧ (True ∧ ((True) ∧ (True) ∧ (.v (.one (.sc (.int .u32 (0 : Int)))) : Tm) = sig_against.R r ∧ ([] : List Box) = []))))))))))) (by kernel_rfl) ?_)
  refine ⟨trivial, ?_⟩
  refine ⟨fun b1 => ?_, fun b1 => ?_⟩
  · rw [if_pos (beq_t b1)] at h
    obtain ⟨t2, ht2, h⟩ := of_bind h
    refine ⟨t2, ⟨sigset_One.fun_ ht2, trivial⟩, ?_⟩
    obtain ⟨t3, ht3, h⟩ := of_bind h
    refine ⟨t3, ⟨sigset_Add.fun_ ht3, trivial⟩, ?_⟩
    refine ⟨trivial, ?_⟩
    obtain rfl := Option.some.inj h
    exact ⟨trivial, trivial, rfl, rfl⟩
  · rw [if_neg (beq_f b1)] at h
    refine ⟨trivial, ?_⟩
    refine ⟨fun b4 => ?_, fun b4 => ?_⟩
    · rw [if_pos (beq_t b4)] at h
      refine ⟨b4, ?_⟩
      obtain ⟨t5, ht5, h⟩ := of_bind h
      refine ⟨t5, ⟨sigset_One.fun_ ht5, trivial⟩, ?_⟩
      refine ⟨trivial, ?_⟩
      obtain rfl := Option.some.inj h
      exact ⟨trivial, trivial, rfl, rfl⟩
    · rw [if_neg (beq_f b4)] at h
      refine ⟨trivial, ?_⟩
      refine ⟨fun b6 => ?_, fun b6 => ?_⟩
      · rw [if_pos (beq_t b6)] at h
        obtain ⟨t7, ht7, h⟩ := of_bind h
        refine ⟨t7, ⟨sigset_One.fun_ ht7, trivial⟩, ?_⟩
        refine ⟨trivial, ?_⟩
        obtain rfl := Option.some.inj h
        exact ⟨trivial, trivial, rfl, rfl⟩
      · rw [if_neg (beq_f b6)] at h
        refine ⟨trivial, ?_⟩
        refine ⟨trivial, ?_⟩
        refine ⟨trivial, ?_⟩
        obtain rfl := Option.some.inj h
        exact ⟨trivial, trivial, rfl, rfl⟩
/-! halter/sig.Post -/
def sig_Post.f (a0 : Int) (a1 : Int) (a2 : (List Int)) (a3 : Int) : Option (Int × Int × (List Int) × (Option Int)) :=
  (sig_Check.f a0 a1 a2).bind fun t1 =>
  if ¬ (t1 = none) then
    some ((0 : Int), (0 : Int), (List.replicate 32 (0 : Int)), (some (22 : Int)))
  else
    (sig_signal.f a3).bind fun t3 =>
    if ¬ (t3 = true) then
      some ((0 : Int), (0 : Int), (List.replicate 32 (0 : Int)), (some (22 : Int)))
    else
      (sig_against.f a3).bind fun t5 =>
      (sigset_Has.f a1 a3).bind fun t6 =>
      if t6 = true then
        (sigset_Add.f (bits .andNot .u32 a0 t5) a3).bind fun t8 =>
        some (t8, a1, a2, none)
      else
        (sig_What.f (bits .andNot .u32 a0 t5) a1 a2 a3).bind fun t9 =>
        if ¬ t9 = (0 : Int) then
          (sigset_Add.f (bits .andNot .u32 a0 t5) a3).bind fun t11 =>
          some (t11, a1, a2, none)
        else
          some ((bits .andNot .u32 a0 t5), a1, a2, none)
def sig_Post.R (r : Int × Int × (List Int) × (Option Int)) : Tm := .tup [.agg [.c (.sc (.int .u32 r.1)), .c (.sc (.int .u32 r.2.1)), .row 32 (.int .u32) r.2.2.1], .one (.err r.2.2.2)]
theorem sig_Post.fun_ {a0 : Int} {a1 : Int} {a2 : (List Int)} {a3 : Int} {r : Int × Int × (List Int) × (Option Int)} (h : sig_Post.f a0 a1 a2 a3 = some r) : Fun cfg 8 [.agg [.c (.sc (.int .u32 a0)), .c (.sc (.int .u32 a1)), .row 32 (.int .u32) a2], .one (.sc (.int .i64 a3))] [] (sig_Post.R r) [] := by
  unfold sig_Post.f at h
  refine fun_of_run cfg_ok (f := 8) (fn := Tryd.f8) Tryd.func8 rfl (by kernel_rfl) (rs := [.cell 4 27, .tmp 5]) rfl (nt := 38) rfl (l := fin) (k := (.call true [] ((Option Int)) (fun t1 => sig_Check.R t1) (fun t1 => (.br (.one true (.one true (.one true (.one true (.adj [] (.adj [] (.adj [.drop 0] .nil))))))) (.one false (.call true [] (Bool) (fun t3 => sig_signal.R t3) (fun t3 => (.one false (.one false (.br (.adj [] (.adj [] (.adj [.drop 0] .nil))) (.ex (Int) (fun t5 => (.dr [(0, ⟨none, .no, false⟩), (2, ⟨none, .no, false⟩), (3, ⟨none, .callP true [] (sig_against.R t5), false⟩), (1, ⟨none, .no, false⟩), (4, ⟨none, .no, false⟩), (5, ⟨none, .no, false⟩), (6, ⟨none, .no, false⟩)] (.call true [] (Bool) (fun t6 => sigset_Has.R t6) (fun t6 => (.br (.one true (.one true (.one true (.one true (.one true (.call true [] (Int) (fun t8 => sigset_Add.R t8) (fun t8 => (.adj [] (.adj [] (.adj [.drop 0] .nil)))))))))) (.one false (.one false (.call true [] (Int) (fun t9 => sig_What.R t9) (fun t9 => (.one false (.one false (.br (.call true [] (Int) (fun t11 => sigset_Add.R t11) (fun t11 => (.adj [] (.adj [] (.adj [.drop 0] .nil))))) (.adj [] (.adj [] (.adj [] (.adj [.drop 0] .nil))))))))))))))))))))))))))) (to_goal (q := (True) ∧ (∃ t1 : (Option Int), (Fun cfg 14 [.agg [.c (.sc (.int .u32 a0)), .c (.sc (.int .u32 a1)), .row 32 (.int .u32) a2]] [] (sig_Check.R t1) [] ∧ True) ∧ (True) ∧ (((!(Option.isNone t1)) = false → ((!(Option.isNone t1)) = false ∧ (∃ t3 : Bool, (Fun cfg 28 [.one (.sc (.int .i64 a3))] [] (sig_signal.R t3) [] ∧ True) ∧ ((!(Option.isNone t1)) = false ∧ ((!(Option.isNone t1)) = false ∧ (((!t3) = true → (True ∧ (True) ∧ (True ∧ (((True) ∧ True) ∧ ((True) ∧ True) ∧ (.tup [.agg [.c (.sc (.int .u32 (0 : Int))), .c (.sc (.int .u32 (0 : Int))), .row 32 (.int .u32) (List.replicate 32 (0 : Int))], .one (.err (some (22 : Int)))] : Tm) = sig_Post.R r ∧ ([] : List Box) = [])))) ∧ ((!t3) = false → (∃ t5 : Int, (Fun cfg 29 [.one (.sc (.int .i64 a3))] [] (sig_against.R t5) [] ∧ True) ∧ (True) ∧ (True) ∧ (True) ∧ (True) ∧ (∃ t6 : Bool, (Fun cfg 11 [.one (.sc (.int .u32 a1)), .one (.sc (.int .i64 a3))] [] (sigset_Has.R t6) [] ∧ True) ∧ ((t6 = false → (True) ∧ (t6 = false ∧ (t6 = false ∧ (∃ t9 : Int, (Fun cfg 13 [.agg [.c (.sc (.int .u32 (bits .andNot .u32 a0 t5))), .c (.sc (.int .u32 a1)), .row 32 (.int .u32) a2], .one (.sc (.int .i64 a3))] [] (sig_What.R t9) [] ∧ True) ∧ (t6 = false ∧ (True) ∧ (t6 = false ∧ (((t9 != (0 : Int)) = true → (True) ∧ (∃ t11 : Int, (Fun cfg 30 [.one (.sc (.int .u32 (bits .andNot .u32 a0 t5))), .one (.sc (.int .i64 a3))] [] (sigset_Add.R t11) [] ∧ True) ∧ (True) ∧ (True ∧ (True) ∧ (True) ∧ (True ∧ (((True) ∧ True) ∧ ((True) ∧ True) ∧ (.tup [.agg [.c (.sc (.int .u32 t11)), .c (.sc (.int .u32 a1)), .row 32 (.int .u32) a2], .one (.err none)] : Tm) = sig_Post.R r ∧ ([] : List Box) = []))))) ∧ ((t9 != (0 : Int)) = false → (True ∧ (True ∧ (True) ∧ (True) ∧ (True ∧ (((True) ∧ True) ∧ ((True) ∧ True) ∧ (.tup [.agg [.c (.sc (.int .u32 (bits .andNot .u32 a0 t5))), .c (.sc (.int .u32 a1)), .row 32 (.int .u32) a2], .one (.err none)] : Tm) = sig_Post.R r ∧ ([] : List Box) = [])))))))))))) ∧ (t6 = true → (t6 = true ∧ (t6 = true ∧ (t6 = true ∧ (t6 = true ∧ (true = true ∧ (True) ∧ (∃ t8 : Int, (Fun cfg 30 [.one (.sc (.int .u32 (bits .andNot .u32 a0 t5))), .one (.sc (.int .i64 a3))] [] (sigset_Add.R t8) [] ∧ True) ∧ (True) ∧ (True ∧ (True) ∧ (True) ∧ (True ∧ (((True) ∧ True) ∧ ((True) ∧ True) ∧ (.tup [.agg [.c (.sc (.int .u32 t8)), .c (.sc (.int .u32 a1)), .row 32 (.int .u32) a2], .one (.err none)] : Tm) = sig_Post.R r ∧ ([] : List Box) = [])))))))))))))))))))) ∧ ((!(Option.isNone t1)) = true → ((!(Option.isNone t1)) = true ∧ ((!(Option.isNone t1)) = true ∧ ((!(Option.isNone t1)) = true ∧ (true = true ∧ (True ∧ (True) ∧ (True ∧ (((True) ∧ True) ∧ ((True) ∧ True) ∧ (.tup [.agg [.c (.sc (.int .u32 (0 : Int))), .c (.sc (.int .u32 (0 : Int))), .row 32 (.int .u32) (List.replicate 32 (0 : Int))], .one (.err (some (22 : Int)))] : Tm) = sig_Post.R r ∧ ([] : List Box) = []))))))))))) (by kernel_rfl) ?_)
  refine ⟨trivial, ?_⟩
  obtain ⟨t1, ht1, h⟩ := of_bind h
  refine ⟨t1, ⟨sig_Check.fun_ ht1, trivial⟩, ?_⟩
  refine ⟨trivial, ?_⟩
  refine ⟨fun b2 => ?_, fun b2 => ?_⟩
  · rw [if_neg (not_not_intro (none_t (not_f b2)))] at h
    refine ⟨b2, ?_⟩
    obtain ⟨t3, ht3, h⟩ := of_bind h
    refine ⟨t3, ⟨sig_signal.fun_ ht3, trivial⟩, ?_⟩
    refine ⟨b2, ?_⟩
    refine ⟨b2, ?_⟩
    refine ⟨fun b4 => ?_, fun b4 => ?_⟩
    · rw [if_pos (ff (not_t b4))] at h
      refine ⟨trivial, ?_⟩
      refine ⟨trivial, ?_⟩
      refine ⟨trivial, ?_⟩
      obtain rfl := Option.some.inj h
      exact ⟨⟨trivial, trivial⟩, ⟨trivial, trivial⟩, rfl, rfl⟩
    · rw [if_neg (not_not_intro (not_f b4))] at h
      obtain ⟨t5, ht5, h⟩ := of_bind h
      refine ⟨t5, ?_⟩
      refine ⟨⟨sig_against.fun_ ht5, trivial⟩, trivial, trivial, trivial, ?_⟩
      refine ⟨trivial, ?_⟩
      obtain ⟨t6, ht6, h⟩ := of_bind h
      refine ⟨t6, ⟨sigset_Has.fun_ ht6, trivial⟩, ?_⟩
      refine ⟨fun b7 => ?_, fun b7 => ?_⟩
      · rw [if_neg (ff b7)] at h
        refine ⟨trivial, ?_⟩
        refine ⟨b7, ?_⟩
        refine ⟨b7, ?_⟩
        obtain ⟨t9, ht9, h⟩ := of_bind h
        refine ⟨t9, ⟨sig_What.fun_ ht9, trivial⟩, ?_⟩
        refine ⟨b7, ?_⟩
        refine ⟨trivial, ?_⟩
        refine ⟨b7, ?_⟩
        refine ⟨fun b10 => ?_, fun b10 => ?_⟩
        · rw [if_pos (bne_t b10)] at h
          refine ⟨trivial, ?_⟩
          obtain ⟨t11, ht11, h⟩ := of_bind h
          refine ⟨t11, ⟨sigset_Add.fun_ ht11, trivial⟩, ?_⟩
          refine ⟨trivial, ?_⟩
          refine ⟨trivial, ?_⟩
          refine ⟨trivial, ?_⟩
          refine ⟨trivial, ?_⟩
          refine ⟨trivial, ?_⟩
          obtain rfl := Option.some.inj h
          exact ⟨⟨trivial, trivial⟩, ⟨trivial, trivial⟩, rfl, rfl⟩
        · rw [if_neg (not_not_intro (bne_f b10))] at h
          refine ⟨trivial, ?_⟩
          refine ⟨trivial, ?_⟩
          refine ⟨trivial, ?_⟩
          refine ⟨trivial, ?_⟩
          refine ⟨trivial, ?_⟩
          obtain rfl := Option.some.inj h
          exact ⟨⟨trivial, trivial⟩, ⟨trivial, trivial⟩, rfl, rfl⟩
      · rw [if_pos b7] at h
        refine ⟨b7, ?_⟩
        refine ⟨b7, ?_⟩
        refine ⟨b7, ?_⟩
        refine ⟨b7, ?_⟩
        refine ⟨rfl, ?_⟩
        refine ⟨trivial, ?_⟩
        obtain ⟨t8, ht8, h⟩ := of_bind h
        refine ⟨t8, ⟨sigset_Add.fun_ ht8, trivial⟩, ?_⟩
        refine ⟨trivial, ?_⟩
        refine ⟨trivial, ?_⟩
        refine ⟨trivial, ?_⟩
        refine ⟨trivial, ?_⟩
        refine ⟨trivial, ?_⟩
        obtain rfl := Option.some.inj h
        exact ⟨⟨trivial, trivial⟩, ⟨trivial, trivial⟩, rfl, rfl⟩
  · rw [if_pos (none_f (not_t b2))] at h
    refine ⟨b2, ?_⟩
    refine ⟨b2, ?_⟩
    refine ⟨b2, ?_⟩
    refine ⟨rfl, ?_⟩
    refine ⟨trivial, ?_⟩
    refine ⟨trivial, ?_⟩
    refine ⟨trivial, ?_⟩
    obtain rfl := Option.some.inj h
    exact ⟨⟨trivial, trivial⟩, ⟨trivial, trivial⟩, rfl, rfl⟩
/-! halter/halterlaw25.sure -/
def halterlaw25_sure.f : Option Bool :=
  (sig_Post.f (0 : Int) (0 : Int) (List.replicate 32 (0 : Int)) (2 : Int)).bind fun t1 =>
  (sig_Post.f t1.1 t1.2.1 t1.2.2.1 (9 : Int)).bind fun t2 =>
  (sig_Act.f (0 : Int) (0 : Int) (List.replicate 32 (0 : Int)) (2 : Int) (512 : Int)).bind fun t3 =>
  (sig_Act.f (0 : Int) (0 : Int) (List.replicate 32 (0 : Int)) (9 : Int) (1 : Int)).bind fun t4 =>
  if t1.2.2.2 = none then
    if t2.2.2.2 = none then
      if t3.2.2.2 = none then
        (sig_Next.f t1.1 t1.2.1 t1.2.2.1).bind fun t8 =>
        if t8 = (2 : Int) then
          (sig_Next.f t2.1 t2.2.1 t2.2.2.1).bind fun t10 =>
          if t10 = (9 : Int) then
            (sig_Take.f t2.1 t2.2.1 t2.2.2.1 (9 : Int)).bind fun t12 =>
            (sig_Next.f t12.1 t12.2.1 t12.2.2).bind fun t13 =>
            if t13 = (2 : Int) then
              (sig_What.f t3.1 t3.2.1 t3.2.2.1 (2 : Int)).bind fun t15 =>
              if t15 = (4 : Int) then
                (num.f t4.2.2.2).bind fun t17 =>
                if t17 = (22 : Int) then
                  (sig_What.f t1.1 t1.2.1 t1.2.2.1 (17 : Int)).bind fun t19 =>
                  some (t19 == (0 : Int))
                else
                  some false
              else
                some false
            else
              some false
          else
            some false
        else
          some false
      else
        some false
    else
      some false
  else
    some false
def halterlaw25_sure.R (r : Bool) : Tm := .v (.one (.sc (.bool r)))
theorem halterlaw25_sure.fun_ {r : Bool} (h : halterlaw25_sure.f = some r) : Fun cfg 7 [] [] (halterlaw25_sure.R r) [] := by
  unfold halterlaw25_sure.f at h
  refine fun_of_run cfg_ok (f := 7) (fn := Tryd.f7) Tryd.func7 rfl (by kernel_rfl) (rs := [.tmp 0]) rfl (nt := 70) rfl (l := fin) (k := (.call true [] (Int × Int × (List Int) × (Option Int)) (fun t1 => sig_Post.R t1) (fun t1 => (.call true [] (Int × Int × (List Int) × (Option Int)) (fun t2 => sig_Post.R t2) (fun t2 => (.call true [] (Int × Int × (List Int) × (Option Int)) (fun t3 => sig_Act.R t3) (fun t3 => (.call true [] (Int × Int × (List Int) × (Option Int)) (fun t4 => sig_Act.R t4) (fun t4 => (.br (.one true (.one true (.br (.one true (.one true (.br (.one true (.call true [] (Int) (fun t8 => sig_Next.R t8) (fun t8 => (.one true (.one true (.br (.one true (.call true [] (Int) (fun t10 => sig_Next.R t10) (fun t10 => (.one true (.one true (.br (.one true (.call true [] (Int × Int × (List Int)) (fun t12 => sig_Take.R t12) (fun t12 => (.one true (.call true [] (Int) (fun t13 => sig_Next.R t13) (fun t13 => (.one true (.one true (.br (.one true (.call true [] (Int) (fun t15 => sig_What.R t15) (fun t15 => (.one true (.one true (.br (.one true (.call true [] (Int) (fun t17 => num.R t17) (fun t17 => (.one true (.one true (.br (.one true (.call true [] (Int) (fun t19 => sig_What.R t19) (fun t19 => (.one true (.one true (.adj [] (.adj [.drop 0] .nil))))))) (.one false (.one false (.one false (.adj [] (.adj [.drop 0] .nil))))))))))) (.one false (.one false (.one false (.one false (.one false (.one false (.one false (.adj [] (.adj [.drop 0] .nil))))))))))))))) (.one false (.one false (.one false (.one false (.one false (.one false (.one false (.one false (.one false (.one false (.one false (.adj [] (.adj [.drop 0] .nil)))))))))))))))))))))) (.one false (.one false (.one false (.one false (.one false (.one false (.one false (.one false (.one false (.one false (.one false (.one false (.one false (.one false (.one false (.one false (.adj [] (.adj [.drop 0] .nil)))))))))))))))))))))))) (.one false (.one false (.one false (.one false (.one false (.one false (.one false (.one false (.one false (.one false (.one false (.one false (.one false (.one false (.one false (.one false (.one false (.one false (.one false (.one false (.adj [] (.adj [.drop 0] .nil)))))))))))))))))))))))))))) (.one false (.one false (.one false (.one false (.one false (.one false (.one false (.one false (.one false (.one false (.one false (.one false (.one false (.one false (.one false (.one false (.one false (.one false (.one false (.one false (.one false (.one false (.one false (.one false (.adj [] (.adj [.drop 0] .nil))))))))))))))))))))))))))))) (.one false (.one false (.one false (.one false (.one false (.one false (.one false (.one false (.one false (.one false (.one false (.one false (.one false (.one false (.one false (.one false (.one false (.one false (.one false (.one false (.one false (.one false (.one false (.one false (.one false (.one false (.one false (.adj [] (.adj [.drop 0] .nil)))))))))))))))))))))))))))))))) (.one false (.one false (.one false (.one false (.one false (.one false (.one false (.one false (.one false (.one false (.one false (.one false (.one false (.one false (.one false (.one false (.one false (.one false (.one false (.one false (.one false (.one false (.one false (.one false (.one false (.one false (.one false (.one false (.one false (.one false (.adj [] (.adj [.drop 0] .nil)))))))))))))))))))))))))))))))))))))))))) (to_goal (q := (∃ t1 : Int × Int × (List Int) × (Option Int), (Fun cfg 8 [.agg [.c (.sc (.int .u32 (0 : Int))), .c (.sc (.int .u32 (0 : Int))), .row 32 (.int .u32) (List.replicate 32 (0 : Int))], .one (.sc (.int .i64 (2 : Int)))] [] (sig_Post.R t1) [] ∧ True) ∧ (True) ∧ (True) ∧ (∃ t2 : Int × Int × (List Int) × (Option Int), (Fun cfg 8 [.agg [.c (.sc (.int .u32 t1.1)), .c (.sc (.int .u32 t1.2.1)), .row 32 (.int .u32) t1.2.2.1], .one (.sc (.int .i64 (9 : Int)))] [] (sig_Post.R t2) [] ∧ True) ∧ (True) ∧ (∃ t3 : Int × Int × (List Int) × (Option Int), (Fun cfg 12 [.agg [.c (.sc (.int .u32 (0 : Int))), .c (.sc (.int .u32 (0 : Int))), .row 32 (.int .u32) (List.replicate 32 (0 : Int))], .one (.sc (.int .i64 (2 : Int))), .one (.sc (.int .u32 (512 : Int)))] [] (sig_Act.R t3) [] ∧ True) ∧ (True) ∧ (∃ t4 : Int × Int × (List Int) × (Option Int), (Fun cfg 12 [.agg [.c (.sc (.int .u32 (0 : Int))), .c (.sc (.int .u32 (0 : Int))), .row 32 (.int .u32) (List.replicate 32 (0 : Int))], .one (.sc (.int .i64 (9 : Int))), .one (.sc (.int .u32 (1 : Int)))] [] (sig_Act.R t4) [] ∧ True) ∧ (True) ∧ (True) ∧ (((Option.isNone t1.2.2.2) = true → ((Option.isNone t1.2.2.2) = true ∧ (True) ∧ ((Option.isNone t1.2.2.2) = true ∧ (((Option.isNone t2.2.2.2) = true → ((Option.isNone t2.2.2.2) = true ∧ (True) ∧ ((Option.isNone t2.2.2.2) = true ∧ (((Option.isNone t3.2.2.2) = true → (True) ∧ ((Option.isNone t3.2.2.2) = true ∧ (∃ t8 : Int, (Fun cfg 9 [.agg [.c (.sc (.int .u32 t1.1)), .c (.sc (.int .u32 t1.2.1)), .row 32 (.int .u32) t1.2.2.1]] [] (sig_Next.R t8) [] ∧ True) ∧ ((Option.isNone t3.2.2.2) = true ∧ (True) ∧ ((Option.isNone t3.2.2.2) = true ∧ (((t8 == (2 : Int)) = true → (True) ∧ ((t8 == (2 : Int)) = true ∧ (∃ t10 : Int, (Fun cfg 9 [.agg [.c (.sc (.int .u32 t2.1)), .c (.sc (.int .u32 t2.2.1)), .row 32 (.int .u32) t2.2.2.1]] [] (sig_Next.R t10) [] ∧ True) ∧ ((t8 == (2 : Int)) = true ∧ (True) ∧ ((t8 == (2 : Int)) = true ∧ (((t10 == (9 : Int)) = true → (True) ∧ ((t10 == (9 : Int)) = true ∧ (∃ t12 : Int × Int × (List Int), (Fun cfg 10 [.agg [.c (.sc (.int .u32 t2.1)), .c (.sc (.int .u32 t2.2.1)), .row 32 (.int .u32) t2.2.2.1], .one (.sc (.int .i64 (9 : Int)))] [] (sig_Take.R t12) [] ∧ True) ∧ ((t10 == (9 : Int)) = true ∧ (∃ t13 : Int, (Fun cfg 9 [.agg [.c (.sc (.int .u32 t12.1)), .c (.sc (.int .u32 t12.2.1)), .row 32 (.int .u32) t12.2.2]] [] (sig_Next.R t13) [] ∧ True) ∧ ((t10 == (9 : Int)) = true ∧ (True) ∧ ((t10 == (9 : Int)) = true ∧ (((t13 == (2 : Int)) = true → (True) ∧ ((t13 == (2 : Int)) = true ∧ (∃ t15 : Int, (Fun cfg 13 [.agg [.c (.sc (.int .u32 t3.1)), .c (.sc (.int .u32 t3.2.1)), .row 32 (.int .u32) t3.2.2.1], .one (.sc (.int .i64 (2 : Int)))] [] (sig_What.R t15) [] ∧ True) ∧ ((t13 == (2 : Int)) = true ∧ (True) ∧ ((t13 == (2 : Int)) = true ∧ (((t15 == (4 : Int)) = true → ((t15 == (4 : Int)) = true ∧ (∃ t17 : Int, (Fun cfg 22 [.one (.err t4.2.2.2)] [] (num.R t17) [] ∧ True) ∧ ((t15 == (4 : Int)) = true ∧ (True) ∧ ((t15 == (4 : Int)) = true ∧ (((t17 == (22 : Int)) = true → (True) ∧ ((t17 == (22 : Int)) = true ∧ (∃ t19 : Int, (Fun cfg 13 [.agg [.c (.sc (.int .u32 t1.1)), .c (.sc (.int .u32 t1.2.1)), .row 32 (.int .u32) t1.2.2.1], .one (.sc (.int .i64 (17 : Int)))] [] (sig_What.R t19) [] ∧ True) ∧ ((t17 == (22 : Int)) = true ∧ (True) ∧ ((t17 == (22 : Int)) = true ∧ (True ∧ ((True) ∧ ((True) ∧ True) ∧ (.v (.one (.sc (.bool (t19 == (0 : Int))))) : Tm) = halterlaw25_sure.R r ∧ ([] : List Box) = []))))))) ∧ ((t17 == (22 : Int)) = false → ((t17 == (22 : Int)) = false ∧ ((t17 == (22 : Int)) = false ∧ ((t17 == (22 : Int)) = false ∧ (True ∧ ((True) ∧ ((True) ∧ True) ∧ (.v (.one (.sc (.bool false))) : Tm) = halterlaw25_sure.R r ∧ ([] : List Box) = [])))))))))))) ∧ ((t15 == (4 : Int)) = false → ((t15 == (4 : Int)) = false ∧ ((t15 == (4 : Int)) = false ∧ ((t15 == (4 : Int)) = false ∧ (false = false ∧ (false = false ∧ (false = false ∧ (false = false ∧ (True ∧ ((True) ∧ ((True) ∧ True) ∧ (.v (.one (.sc (.bool false))) : Tm) = halterlaw25_sure.R r ∧ ([] : List Box) = [])))))))))))))))) ∧ ((t13 == (2 : Int)) = false → ((t13 == (2 : Int)) = false ∧ ((t13 == (2 : Int)) = false ∧ ((t13 == (2 : Int)) = false ∧ (false = false ∧ (false = false ∧ (false = false ∧ (false = false ∧ (false = false ∧ (false = false ∧ (false = false ∧ (false = false ∧ (True ∧ ((True) ∧ ((True) ∧ True) ∧ (.v (.one (.sc (.bool false))) : Tm) = halterlaw25_sure.R r ∧ ([] : List Box) = [])))))))))))))))))))))) ∧ ((t10 == (9 : Int)) = false → ((t10 == (9 : Int)) = false ∧ ((t10 == (9 : Int)) = false ∧ ((t10 == (9 : Int)) = false ∧ ((t10 == (9 : Int)) = false ∧ (false = false ∧ (false = false ∧ (false = false ∧ (false = false ∧ (false = false ∧ (false = false ∧ (false = false ∧ (false = false ∧ (false = false ∧ (false = false ∧ (false = false ∧ (false = false ∧ (True ∧ ((True) ∧ ((True) ∧ True) ∧ (.v (.one (.sc (.bool false))) : Tm) = halterlaw25_sure.R r ∧ ([] : List Box) = []))))))))))))))))))))))))) ∧ ((t8 == (2 : Int)) = false → ((t8 == (2 : Int)) = false ∧ ((t8 == (2 : Int)) = false ∧ ((t8 == (2 : Int)) = false ∧ (false = false ∧ (false = false ∧ (false = false ∧ (false = false ∧ (false = false ∧ (false = false ∧ (false = false ∧ (false = false ∧ (false = false ∧ (false = false ∧ (false = false ∧ (false = false ∧ (false = false ∧ (false = false ∧ (false = false ∧ (false = false ∧ (false = false ∧ (True ∧ ((True) ∧ ((True) ∧ True) ∧ (.v (.one (.sc (.bool false))) : Tm) = halterlaw25_sure.R r ∧ ([] : List Box) = []))))))))))))))))))))))))))))) ∧ ((Option.isNone t3.2.2.2) = false → ((Option.isNone t3.2.2.2) = false ∧ ((Option.isNone t3.2.2.2) = false ∧ ((Option.isNone t3.2.2.2) = false ∧ (false = false ∧ (false = false ∧ (false = false ∧ (false = false ∧ (false = false ∧ (false = false ∧ (false = false ∧ (false = false ∧ (false = false ∧ (false = false ∧ (false = false ∧ (false = false ∧ (false = false ∧ (false = false ∧ (false = false ∧ (false = false ∧ (false = false ∧ (false = false ∧ (false = false ∧ (false = false ∧ (false = false ∧ (True ∧ ((True) ∧ ((True) ∧ True) ∧ (.v (.one (.sc (.bool false))) : Tm) = halterlaw25_sure.R r ∧ ([] : List Box) = []))))))))))))))))))))))))))))))) ∧ ((Option.isNone t2.2.2.2) = false → ((Option.isNone t2.2.2.2) = false ∧ ((Option.isNone t2.2.2.2) = false ∧ (false = false ∧ (false = false ∧ (false = false ∧ (false = false ∧ (false = false ∧ (false = false ∧ (false = false ∧ (false = false ∧ (false = false ∧ (false = false ∧ (false = false ∧ (false = false ∧ (false = false ∧ (false = false ∧ (false = false ∧ (false = false ∧ (false = false ∧ (false = false ∧ (false = false ∧ (false = false ∧ (false = false ∧ (false = false ∧ (false = false ∧ (false = false ∧ (false = false ∧ (True ∧ ((True) ∧ ((True) ∧ True) ∧ (.v (.one (.sc (.bool false))) : Tm) = halterlaw25_sure.R r ∧ ([] : List Box) = [])))))))))))))))))))))))))))))))))) ∧ ((Option.isNone t1.2.2.2) = false → ((Option.isNone t1.2.2.2) = false ∧ ((Option.isNone t1.2.2.2) = false ∧ (false = false ∧ (false = false ∧ (false = false ∧ (false = false ∧ (false = false ∧ (false = false ∧ (false = false ∧ (false = false ∧ (false = false ∧ (false = false ∧ (false = false ∧ (false = false ∧ (false = false ∧ (false = false ∧ (false = false ∧ (false = false ∧ (false = false ∧ (false = false ∧ (false = false ∧ (false = false ∧ (false = false ∧ (false = false ∧ (false = false ∧ (false = false ∧ (false = false ∧ (false = false ∧ (false = false ∧ (false = false ∧ (True ∧ ((True) ∧ ((True) ∧ True) ∧ (.v (.one (.sc (.bool false))) : Tm) = halterlaw25_sure.R r ∧ ([] : List Box) = []))))))))))))))))))))))))))))))))))))))) (by kernel_rfl) ?_)
  obtain ⟨t1, ht1, h⟩ := of_bind h
  refine ⟨t1, ⟨sig_Post.fun_ ht1, trivial⟩, ?_⟩
  refine ⟨trivial, ?_⟩
  refine ⟨trivial, ?_⟩
  obtain ⟨t2, ht2, h⟩ := of_bind h
  refine ⟨t2, ⟨sig_Post.fun_ ht2, trivial⟩, ?_⟩
  refine ⟨trivial, ?_⟩
  obtain ⟨t3, ht3, h⟩ := of_bind h
  refine ⟨t3, ⟨sig_Act.fun_ ht3, trivial⟩, ?_⟩
  refine ⟨trivial, ?_⟩
  obtain ⟨t4, ht4, h⟩ := of_bind h
  refine ⟨t4, ⟨sig_Act.fun_ ht4, trivial⟩, ?_⟩
  refine ⟨trivial, ?_⟩
  refine ⟨trivial, ?_⟩
  refine ⟨fun b5 => ?_, fun b5 => ?_⟩
  · rw [if_pos (none_t b5)] at h
    refine ⟨b5, ?_⟩
    refine ⟨trivial, ?_⟩
    refine ⟨b5, ?_⟩
    refine ⟨fun b6 => ?_, fun b6 => ?_⟩
    · rw [if_pos (none_t b6)] at h
      refine ⟨b6, ?_⟩
      refine ⟨trivial, ?_⟩
      refine ⟨b6, ?_⟩
      refine ⟨fun b7 => ?_, fun b7 => ?_⟩
      · rw [if_pos (none_t b7)] at h
        refine ⟨trivial, ?_⟩
        refine ⟨b7, ?_⟩
        obtain ⟨t8, ht8, h⟩ := of_bind h
        refine ⟨t8, ⟨sig_Next.fun_ ht8, trivial⟩, ?_⟩
        refine ⟨b7, ?_⟩
        refine ⟨trivial, ?_⟩
        refine ⟨b7, ?_⟩
        refine ⟨fun b9 => ?_, fun b9 => ?_⟩
        · rw [if_pos (beq_t b9)] at h
          refine ⟨trivial, ?_⟩
          refine ⟨b9, ?_⟩
          obtain ⟨t10, ht10, h⟩ := of_bind h
          refine ⟨t10, ⟨sig_Next.fun_ ht10, trivial⟩, ?_⟩
          refine ⟨b9, ?_⟩
          refine ⟨trivial, ?_⟩
          refine ⟨b9, ?_⟩
          refine ⟨fun b11 => ?_, fun b11 => ?_⟩
          · rw [if_pos (beq_t b11)] at h
            refine ⟨trivial, ?_⟩
            refine ⟨b11, ?_⟩
            obtain ⟨t12, ht12, h⟩ := of_bind h
            refine ⟨t12, ⟨sig_Take.fun_ ht12, trivial⟩, ?_⟩
            refine ⟨b11, ?_⟩
            obtain ⟨t13, ht13, h⟩ := of_bind h
            refine ⟨t13, ⟨sig_Next.fun_ ht13, trivial⟩, ?_⟩
            refine ⟨b11, ?_⟩
            refine ⟨trivial, ?_⟩
            refine ⟨b11, ?_⟩
            refine ⟨fun b14 => ?_, fun b14 => ?_⟩
            · rw [if_pos (beq_t b14)] at h
              refine ⟨trivial, ?_⟩
              refine ⟨b14, ?_⟩
              obtain ⟨t15, ht15, h⟩ := of_bind h
              refine ⟨t15, ⟨sig_What.fun_ ht15, trivial⟩, ?_⟩
              refine ⟨b14, ?_⟩
              refine ⟨trivial, ?_⟩
              refine ⟨b14, ?_⟩
              refine ⟨fun b16 => ?_, fun b16 => ?_⟩
              · rw [if_pos (beq_t b16)] at h
                refine ⟨b16, ?_⟩
                obtain ⟨t17, ht17, h⟩ := of_bind h
                refine ⟨t17, ⟨num.fun_ ht17, trivial⟩, ?_⟩
                refine ⟨b16, ?_⟩
                refine ⟨trivial, ?_⟩
                refine ⟨b16, ?_⟩
                refine ⟨fun b18 => ?_, fun b18 => ?_⟩
                · rw [if_pos (beq_t b18)] at h
                  refine ⟨trivial, ?_⟩
                  refine ⟨b18, ?_⟩
                  obtain ⟨t19, ht19, h⟩ := of_bind h
                  refine ⟨t19, ⟨sig_What.fun_ ht19, trivial⟩, ?_⟩
                  refine ⟨b18, ?_⟩
                  refine ⟨trivial, ?_⟩
                  refine ⟨b18, ?_⟩
                  refine ⟨trivial, ?_⟩
                  obtain rfl := Option.some.inj h
                  exact ⟨trivial, ⟨trivial, trivial⟩, rfl, rfl⟩
                · rw [if_neg (beq_f b18)] at h
                  refine ⟨b18, ?_⟩
                  refine ⟨b18, ?_⟩
                  refine ⟨b18, ?_⟩
                  refine ⟨trivial, ?_⟩
                  obtain rfl := Option.some.inj h
                  exact ⟨trivial, ⟨trivial, trivial⟩, rfl, rfl⟩
              · rw [if_neg (beq_f b16)] at h
                refine ⟨b16, ?_⟩
                refine ⟨b16, ?_⟩
                refine ⟨b16, ?_⟩
                refine ⟨rfl, ?_⟩
                refine ⟨rfl, ?_⟩
                refine ⟨rfl, ?_⟩
                refine ⟨rfl, ?_⟩
                refine ⟨trivial, ?_⟩
                obtain rfl := Option.some.inj h
                exact ⟨trivial, ⟨trivial, trivial⟩, rfl, rfl⟩
            · rw [if_neg (beq_f b14)] at h
              refine ⟨b14, ?_⟩
              refine ⟨b14, ?_⟩
              refine ⟨b14, ?_⟩
              refine ⟨rfl, ?_⟩
              refine ⟨rfl, ?_⟩
              refine ⟨rfl, ?_⟩
              refine ⟨rfl, ?_⟩
              refine ⟨rfl, ?_⟩
              refine ⟨rfl, ?_⟩
              refine ⟨rfl, ?_⟩
              refine ⟨rfl, ?_⟩
              refine ⟨trivial, ?_⟩
              obtain rfl := Option.some.inj h
              exact ⟨trivial, ⟨trivial, trivial⟩, rfl, rfl⟩
          · rw [if_neg (beq_f b11)] at h
            refine ⟨b11, ?_⟩
            refine ⟨b11, ?_⟩
            refine ⟨b11, ?_⟩
            refine ⟨b11, ?_⟩
            refine ⟨rfl, ?_⟩
            refine ⟨rfl, ?_⟩
            refine ⟨rfl, ?_⟩
            refine ⟨rfl, ?_⟩
            refine ⟨rfl, ?_⟩
            refine ⟨rfl, ?_⟩
            refine ⟨rfl, ?_⟩
            refine ⟨rfl, ?_⟩
            refine ⟨rfl, ?_⟩
            refine ⟨rfl, ?_⟩
            refine ⟨rfl, ?_⟩
            refine ⟨rfl, ?_⟩
            refine ⟨trivial, ?_⟩
            obtain rfl := Option.some.inj h
            exact ⟨trivial, ⟨trivial, trivial⟩, rfl, rfl⟩
        · rw [if_neg (beq_f b9)] at h
          refine ⟨b9, ?_⟩
          refine ⟨b9, ?_⟩
          refine ⟨b9, ?_⟩
          refine ⟨rfl, ?_⟩
          refine ⟨rfl, ?_⟩
          refine ⟨rfl, ?_⟩
          refine ⟨rfl, ?_⟩
          refine ⟨rfl, ?_⟩
          refine ⟨rfl, ?_⟩
          refine ⟨rfl, ?_⟩
          refine ⟨rfl, ?_⟩
          refine ⟨rfl, ?_⟩
          refine ⟨rfl, ?_⟩
          refine ⟨rfl, ?_⟩
          refine ⟨rfl, ?_⟩
          refine ⟨rfl, ?_⟩
          refine ⟨rfl, ?_⟩
          refine ⟨rfl, ?_⟩
          refine ⟨rfl, ?_⟩
          refine ⟨rfl, ?_⟩
          refine ⟨trivial, ?_⟩
          obtain rfl := Option.some.inj h
          exact ⟨trivial, ⟨trivial, trivial⟩, rfl, rfl⟩
      · rw [if_neg (none_f b7)] at h
        refine ⟨b7, ?_⟩
        refine ⟨b7, ?_⟩
        refine ⟨b7, ?_⟩
        refine ⟨rfl, ?_⟩
        refine ⟨rfl, ?_⟩
        refine ⟨rfl, ?_⟩
        refine ⟨rfl, ?_⟩
        refine ⟨rfl, ?_⟩
        refine ⟨rfl, ?_⟩
        refine ⟨rfl, ?_⟩
        refine ⟨rfl, ?_⟩
        refine ⟨rfl, ?_⟩
        refine ⟨rfl, ?_⟩
        refine ⟨rfl, ?_⟩
        refine ⟨rfl, ?_⟩
        refine ⟨rfl, ?_⟩
        refine ⟨rfl, ?_⟩
        refine ⟨rfl, ?_⟩
        refine ⟨rfl, ?_⟩
        refine ⟨rfl, ?_⟩
        refine ⟨rfl, ?_⟩
        refine ⟨rfl, ?_⟩
        refine ⟨rfl, ?_⟩
        refine ⟨rfl, ?_⟩
        refine ⟨trivial, ?_⟩
        obtain rfl := Option.some.inj h
        exact ⟨trivial, ⟨trivial, trivial⟩, rfl, rfl⟩
    · rw [if_neg (none_f b6)] at h
      refine ⟨b6, ?_⟩
      refine ⟨b6, ?_⟩
      refine ⟨rfl, ?_⟩
      refine ⟨rfl, ?_⟩
      refine ⟨rfl, ?_⟩
      refine ⟨rfl, ?_⟩
      refine ⟨rfl, ?_⟩
      refine ⟨rfl, ?_⟩
      refine ⟨rfl, ?_⟩
      refine ⟨rfl, ?_⟩
      refine ⟨rfl, ?_⟩
      refine ⟨rfl, ?_⟩
      refine ⟨rfl, ?_⟩
      refine ⟨rfl, ?_⟩
      refine ⟨rfl, ?_⟩
      refine ⟨rfl, ?_⟩
      refine ⟨rfl, ?_⟩
      refine ⟨rfl, ?_⟩
      refine ⟨rfl, ?_⟩
      refine ⟨rfl, ?_⟩
      refine ⟨rfl, ?_⟩
      refine ⟨rfl, ?_⟩
      refine ⟨rfl, ?_⟩
      refine ⟨rfl, ?_⟩
      refine ⟨rfl, ?_⟩
      refine ⟨rfl, ?_⟩
      refine ⟨rfl, ?_⟩
      refine ⟨trivial, ?_⟩
      obtain rfl := Option.some.inj h
      exact ⟨trivial, ⟨trivial, trivial⟩, rfl, rfl⟩
  · rw [if_neg (none_f b5)] at h
    refine ⟨b5, ?_⟩
    refine ⟨b5, ?_⟩
    refine ⟨rfl, ?_⟩
    refine ⟨rfl, ?_⟩
    refine ⟨rfl, ?_⟩
    refine ⟨rfl, ?_⟩
    refine ⟨rfl, ?_⟩
    refine ⟨rfl, ?_⟩
    refine ⟨rfl, ?_⟩
    refine ⟨rfl, ?_⟩
    refine ⟨rfl, ?_⟩
    refine ⟨rfl, ?_⟩
    refine ⟨rfl, ?_⟩
    refine ⟨rfl, ?_⟩
    refine ⟨rfl, ?_⟩
    refine ⟨rfl, ?_⟩
    refine ⟨rfl, ?_⟩
    refine ⟨rfl, ?_⟩
    refine ⟨rfl, ?_⟩
    refine ⟨rfl, ?_⟩
    refine ⟨rfl, ?_⟩
    refine ⟨rfl, ?_⟩
    refine ⟨rfl, ?_⟩
    refine ⟨rfl, ?_⟩
    refine ⟨rfl, ?_⟩
    refine ⟨rfl, ?_⟩
    refine ⟨rfl, ?_⟩
    refine ⟨rfl, ?_⟩
    refine ⟨rfl, ?_⟩
    refine ⟨rfl, ?_⟩
    refine ⟨trivial, ?_⟩
    obtain rfl := Option.some.inj h
    exact ⟨trivial, ⟨trivial, trivial⟩, rfl, rfl⟩
/-! halter/halterlaw25.SigLaws -/
def halterlaw25_SigLaws.j2 (x155 : Int) (x156 : Int) (x157 : List Int) (x158 : Int) (a0 : (List (Int × (Int × Int)))) : Option ((Int × Int × (List Int) × (Option Int)) ⊕ (Unit)) :=
  if (IntKind.wrap .i64 ((Int.tmod (IntKind.wrap .u64 ((List.getD a0 (Int.toNat x158) ((0 : Int), ((0 : Int), (0 : Int)))).1)) (5 : Int)))) = (2 : Int) then
    if 0 ≤ x158 ∧ x158 < (((List.length a0) : Nat) : Int) then
      (sig_Act.f x155 x156 x157 (IntKind.wrap .i64 ((1 : Int) + (IntKind.wrap .i64 ((Int.tmod (IntKind.wrap .u64 ((List.getD a0 (Int.toNat x158) ((0 : Int), ((0 : Int), (0 : Int)))).2.1)) (31 : Int)))))) (List.getD a0 (Int.toNat x158) ((0 : Int), ((0 : Int), (0 : Int)))).2.2).bind fun t501 =>
      some (.inl (t501.1, t501.2.1, t501.2.2.1, t501.2.2.2))
    else none
  else
    if (IntKind.wrap .i64 ((Int.tmod (IntKind.wrap .u64 ((List.getD a0 (Int.toNat x158) ((0 : Int), ((0 : Int), (0 : Int)))).1)) (5 : Int)))) = (3 : Int) then
      if 0 ≤ x158 ∧ x158 < (((List.length a0) : Nat) : Int) then
        if 0 ≤ x158 ∧ x158 < (((List.length a0) : Nat) : Int) then
          (sig_Mask.f x155 x156 x157 (IntKind.wrap .i64 ((Int.tmod (IntKind.wrap .u64 ((List.getD a0 (Int.toNat x158) ((0 : Int), ((0 : Int), (0 : Int)))).2.1)) (3 : Int)))) (List.getD a0 (Int.toNat x158) ((0 : Int), ((0 : Int), (0 : Int)))).2.2).bind fun t505 =>
          some (.inl (t505.1, t505.2.1, t505.2.2.1, t505.2.2.2))
        else none
      else none
    else
      if (IntKind.wrap .i64 ((Int.tmod (IntKind.wrap .u64 ((List.getD a0 (Int.toNat x158) ((0 : Int), ((0 : Int), (0 : Int)))).1)) (5 : Int)))) = (4 : Int) then
        (sig_Next.f x155 x156 x157).bind fun t507 =>
        (sig_Take.f x155 x156 x157 t507).bind fun t508 =>
        some (.inl (t508.1, t508.2.1, t508.2.2, none))
      else
        (sig_Post.f x155 x156 x157 (IntKind.wrap .i64 ((1 : Int) + (IntKind.wrap .i64 ((Int.tmod (IntKind.wrap .u64 ((List.getD a0 (Int.toNat x158) ((0 : Int), ((0 : Int), (0 : Int)))).2.1)) (31 : Int))))))).bind fun t509 =>
        if ¬ (t509.2.2.2 = none) then
          some (.inr ())
        else
          (sigset_Has.f x156 (IntKind.wrap .i64 ((1 : Int) + (IntKind.wrap .i64 ((Int.tmod (IntKind.wrap .u64 ((List.getD a0 (Int.toNat x158) ((0 : Int), ((0 : Int), (0 : Int)))).2.1)) (31 : Int))))))).bind fun t511 =>
          if t511 = true then
            (sigset_Has.f t509.1 (IntKind.wrap .i64 ((1 : Int) + (IntKind.wrap .i64 ((Int.tmod (IntKind.wrap .u64 ((List.getD a0 (Int.toNat x158) ((0 : Int), ((0 : Int), (0 : Int)))).2.1)) (31 : Int))))))).bind fun t513 =>
            if ¬ (t513 = true) then
              some (.inr ())
            else
              (sigset_Has.f x156 (IntKind.wrap .i64 ((1 : Int) + (IntKind.wrap .i64 ((Int.tmod (IntKind.wrap .u64 ((List.getD a0 (Int.toNat x158) ((0 : Int), ((0 : Int), (0 : Int)))).2.1)) (31 : Int))))))).bind fun t515 =>
              if ¬ (t515 = true) then
                (sigset_Has.f x155 (IntKind.wrap .i64 ((1 : Int) + (IntKind.wrap .i64 ((Int.tmod (IntKind.wrap .u64 ((List.getD a0 (Int.toNat x158) ((0 : Int), ((0 : Int), (0 : Int)))).2.1)) (31 : Int))))))).bind fun t517 =>
                if ¬ (t517 = true) then
                  (sigset_Has.f t509.1 (IntKind.wrap .i64 ((1 : Int) + (IntKind.wrap .i64 ((Int.tmod (IntKind.wrap .u64 ((List.getD a0 (Int.toNat x158) ((0 : Int), ((0 : Int), (0 : Int)))).2.1)) (31 : Int))))))).bind fun t519 =>
                  (sig_What.f x155 x156 x157 (IntKind.wrap .i64 ((1 : Int) + (IntKind.wrap .i64 ((Int.tmod (IntKind.wrap .u64 ((List.getD a0 (Int.toNat x158) ((0 : Int), ((0 : Int), (0 : Int)))).2.1)) (31 : Int))))))).bind fun t520 =>
                  if ¬ (t519 = (t520 != (0 : Int))) then
                    some (.inr ())
                  else
                    some (.inl (t509.1, t509.2.1, t509.2.2.1, t509.2.2.2))
                else
                  some (.inl (t509.1, t509.2.1, t509.2.2.1, t509.2.2.2))
              else
                some (.inl (t509.1, t509.2.1, t509.2.2.1, t509.2.2.2))
          else
            (sigset_Has.f x156 (IntKind.wrap .i64 ((1 : Int) + (IntKind.wrap .i64 ((Int.tmod (IntKind.wrap .u64 ((List.getD a0 (Int.toNat x158) ((0 : Int), ((0 : Int), (0 : Int)))).2.1)) (31 : Int))))))).bind fun t522 =>
            if ¬ (t522 = true) then
              (sigset_Has.f x155 (IntKind.wrap .i64 ((1 : Int) + (IntKind.wrap .i64 ((Int.tmod (IntKind.wrap .u64 ((List.getD a0 (Int.toNat x158) ((0 : Int), ((0 : Int), (0 : Int)))).2.1)) (31 : Int))))))).bind fun t524 =>
              if ¬ (t524 = true) then
                (sigset_Has.f t509.1 (IntKind.wrap .i64 ((1 : Int) + (IntKind.wrap .i64 ((Int.tmod (IntKind.wrap .u64 ((List.getD a0 (Int.toNat x158) ((0 : Int), ((0 : Int), (0 : Int)))).2.1)) (31 : Int))))))).bind fun t526 =>
                (sig_What.f x155 x156 x157 (IntKind.wrap .i64 ((1 : Int) + (IntKind.wrap .i64 ((Int.tmod (IntKind.wrap .u64 ((List.getD a0 (Int.toNat x158) ((0 : Int), ((0 : Int), (0 : Int)))).2.1)) (31 : Int))))))).bind fun t527 =>
                if ¬ (t526 = (t527 != (0 : Int))) then
                  some (.inr ())
                else
                  some (.inl (t509.1, t509.2.1, t509.2.2.1, t509.2.2.2))
              else
                some (.inl (t509.1, t509.2.1, t509.2.2.1, t509.2.2.2))
            else
              some (.inl (t509.1, t509.2.1, t509.2.2.1, t509.2.2.2))
def halterlaw25_SigLaws.j2_S (x155 : Int) (x156 : Int) (x157 : List Int) (x158 : Int) (a0 : (List (Int × (Int × Int)))) : St := ⟨[.v (.one (.fs (.pair (.int .i64) (.pair (.int .i64) (.int .u32))) a0 false)), .any, .any, .v (.one (.ptr 0 ⟨0, 0, 0, 0⟩)), .v (.one (.sc (.int .i64 x158))), .v (.one (.sc (.int .i64 (IntKind.wrap .i64 ((1 : Int) + (IntKind.wrap .i64 ((Int.tmod (IntKind.wrap .u64 ((List.getD a0 (Int.toNat x158) ((0 : Int), ((0 : Int), (0 : Int)))).2.1)) (31 : Int))))))))), .v (.one (.ptr 1 ⟨0, 0, 0, 0⟩)), .v (.one (.err none)), .any, .any, .any, .any, .any, .any, .any, .any, .any, .any, .any, .any, .any, .any, .any, .any, .any, .any, .any, .any, .any, .any, .any, .any, .any, .any, .any, .any, .v (.one (.sc (.int .i64 (IntKind.wrap .i64 ((Int.tmod (IntKind.wrap .u64 ((List.getD a0 (Int.toNat x158) ((0 : Int), ((0 : Int), (0 : Int)))).1)) (5 : Int))))))), .any, .any, .any, .any, .any, .any, .any, .any, .any, .any, .any, .any, .any, .any, .any, .any, .any, .any, .any, .any, .any, .any, .any, .any, .any, .any, .any, .any, .any, .any, .any, .any, .any, .any, .any, .any, .any, .any, .any, .any, .any, .any, .any, .any, .any, .any, .any, .any, .any, .any, .any, .any, .any, .any, .any, .any, .any, .any, .any, .any, .any, .any, .any, .any, .any, .any, .any, .any, .any, .any, .any, .any, .any, .any, .any, .any, .any, .any, .any, .any, .any, .any, .any, .any, .any, .any, .any, .any, .any, .any, .any, .any, .any, .any, .any, .any, .any, .any, .any, .any, .any, .any, .any, .any, .any, .any, .any, .any, .any, .any, .any, .any, .any, .any, .any, .any, .any, .any, .any, .any, .any, .any, .any, .any, .any, .any, .any, .any, .any, .any, .any, .any, .any, .any, .any, .any, .any, .any, .any, .any, .any, .any, .any, .any], [.ex false [.c (.sc (.int .u32 x155)), .c (.sc (.int .u32 x156)), .row 32 (.int .u32) x157] 27, .ex false [.c (.sc (.int .u32 (0 : Int))), .c (.sc (.int .u32 (0 : Int))), .row 32 (.int .u32) (List.replicate 32 (0 : Int))] 27], 0⟩
def halterlaw25_SigLaws.j2_Q (x155 : Int) (x156 : Int) (x157 : List Int) (x158 : Int) (a0 : (List (Int × (Int × Int)))) : (Int × Int × (List Int) × (Option Int)) ⊕ (Unit) → Exit → St → Prop
  | .inl t => fun e s => e = .normal ∧ s = ⟨[.v (.one (.fs (.pair (.int .i64) (.pair (.int .i64) (.int .u32))) a0 false)), .any, .any, .v (.one (.ptr 0 ⟨0, 0, 0, 0⟩)), .v (.one (.sc (.int .i64 x158))), .v (.one (.sc (.int .i64 (IntKind.wrap .i64 ((1 : Int) + (IntKind.wrap .i64 ((Int.tmod (IntKind.wrap .u64 ((List.getD a0 (Int.toNat x158) ((0 : Int), ((0 : Int), (0 : Int)))).2.1)) (31 : Int))))))))), .v (.one (.ptr 1 ⟨0, 0, 0, 0⟩)), .v (.one (.err t.2.2.2)), .any, .any, .any, .any, .any, .any, .any, .any, .any, .any, .any, .any, .any, .any, .any, .any, .any, .any, .any, .any, .any, .any, .any, .any, .any, .any, .any, .any, .any, .any, .any, .any, .any, .any, .any, .any, .any, .any, .any, .any, .any, .any, .any, .any, .any, .any, .any, .any, .any, .any, .any, .any, .any, .any, .any, .any, .any, .any, .any, .any, .any, .any, .any, .any, .any, .any, .any, .any, .any, .any, .any, .any, .any, .any, .any, .any, .any, .any, .any, .any, .any, .any, .any, .any, .any, .any, .any, .any, .any, .any, .any, .any, .any, .any, .any, .any, .any, .any, .any, .any, .any, .any, .any, .any, .any, .any, .any, .any, .any, .any, .any, .any, .any, .any, .any, .any, .any, .any, .any, .any, .any, .any, .any, .any, .any, .any, .any, .any, .any, .any, .any, .any, .any, .any, .any, .any, .any, .any, .any, .any, .any, .any, .any, .any, .any, .any, .any, .any, .any, .any, .any, .any, .any, .any, .any, .any, .any, .any, .any, .any, .any, .any, .any, .any, .any, .any, .any, .any, .any, .any, .any, .any, .any], [.ex false [.c (.sc (.int .u32 x155)), .c (.sc (.int .u32 x156)), .row 32 (.int .u32) x157] 27, .ex false [.c (.sc (.int .u32 t.1)), .c (.sc (.int .u32 t.2.1)), .row 32 (.int .u32) t.2.2.1] 27], 0⟩
  | .inr t => fun e s => e = .ret ∧ s = ⟨[.any, .any, .v (.one (.sc (.bool false))), .any, .any, .any, .any, .any, .any, .any, .any, .any, .any, .any, .any, .any, .any, .any, .any, .any, .any, .any, .any, .any, .any, .any, .any, .any, .any, .any, .any, .any, .any, .any, .any, .any, .any, .any, .any, .any, .any, .any, .any, .any, .any, .any, .any, .any, .any, .any, .any, .any, .any, .any, .any, .any, .any, .any, .any, .any, .any, .any, .any, .any, .any, .any, .any, .any, .any, .any, .any, .any, .any, .any, .any, .any, .any, .any, .any, .any, .any, .any, .any, .any, .any, .any, .any, .any, .any, .any, .any, .any, .any, .any, .any, .any, .any, .any, .any, .any, .any, .any, .any, .any, .any, .any, .any, .any, .any, .any, .any, .any, .any, .any, .any, .any, .any, .any, .any, .any, .any, .any, .any, .any, .any, .any, .any, .any, .any, .any, .any, .any, .any, .any, .any, .any, .any, .any, .any, .any, .any, .any, .any, .any, .any, .any, .any, .any, .any, .any, .any, .any, .any, .any, .any, .any, .any, .any, .any, .any, .any, .any, .any, .any, .any, .any, .any, .any, .any, .any, .any, .any, .any, .any, .any, .any, .any, .any, .any, .any, .any], [.ex false [.c (.sc (.int .u32 x155)), .c (.sc (.int .u32 x156)), .row 32 (.int .u32) x157] 27], 0⟩
theorem halterlaw25_SigLaws.j2_ok (x155 : Int) (x156 : Int) (x157 : List Int) (x158 : Int) (a0 : (List (Int × (Int × Int)))) (r : (Int × Int × (List Int) × (Option Int)) ⊕ (Unit)) (h : halterlaw25_SigLaws.j2 x155 x156 x157 x158 a0 = some r) : Trip cfg (cpath (Tryd.f4.body.getD .skip) [1, 1, 0, 1, 0, 0, 1, 0, 0, 1, 1, 1, 0, 1]) (halterlaw25_SigLaws.j2_S x155 x156 x157 x158 a0) (halterlaw25_SigLaws.j2_Q x155 x156 x157 x158 a0 r) := by
  unfold halterlaw25_SigLaws.j2 at h
  refine Trip.of_run cfg_ok (k := (.br (.ex (Int × Int × (List Int) × (Option Int)) (fun t501 => (.dr [(1, ⟨none, .no, false⟩), (2, ⟨none, .no, false⟩), (3, ⟨none, .no, false⟩), (4, ⟨none, .no, false⟩), (5, ⟨none, .no, false⟩), (0, ⟨none, .no, false⟩), (6, ⟨none, .no, false⟩), (7, ⟨none, .callP true [] (sig_Act.R t501), false⟩), (8, ⟨none, .no, false⟩), (9, ⟨none, .no, false⟩), (10, ⟨none, .no, false⟩), (11, ⟨none, .no, false⟩), (12, ⟨none, .no, false⟩)] (.adj [.keep [0, 3, 4, 5, 6, 7], .drop 2] .nil)))) (.br (.ex (Int × Int × (List Int) × (Option Int)) (fun t505 => (.dr [(1, ⟨none, .no, false⟩), (2, ⟨none, .no, false⟩), (3, ⟨none, .no, false⟩), (4, ⟨none, .no, false⟩), (9, ⟨none, .no, false⟩), (10, ⟨none, .no, false⟩), (11, ⟨none, .no, false⟩), (12, ⟨none, .no, false⟩), (0, ⟨none, .no, false⟩), (5, ⟨none, .no, false⟩), (6, ⟨none, .no, false⟩), (7, ⟨none, .no, false⟩), (8, ⟨none, .no, false⟩), (13, ⟨none, .no, false⟩), (14, ⟨none, .callP true [] (sig_Mask.R t505), false⟩), (15, ⟨none, .no, false⟩), (16, ⟨none, .no, false⟩), (17, ⟨none, .no, false⟩), (18, ⟨none, .no, false⟩), (19, ⟨none, .no, false⟩)] (.adj [.keep [0, 3, 4, 5, 6, 7], .drop 2] .nil)))) (.br (.ex (Int) (fun t507 => (.ex (Int × Int × (List Int)) (fun t508 => (.dr [(0, ⟨none, .no, false⟩), (1, ⟨none, .no, false⟩), (2, ⟨none, .callP true [] (sig_Next.R t507), false⟩), (3, ⟨none, .callP true [] (sig_Take.R t508), false⟩), (4, ⟨none, .no, false⟩)] (.adj [.keep [0, 3, 4, 5, 6, 7], .drop 2] .nil)))))) (.call true [] (Int × Int × (List Int) × (Option Int)) (fun t509 => sig_Post.R t509) (fun t509 => (.emb (!(Option.isNone t509.2.2.2)) (.dr [(0, ⟨none, .no, false⟩), (1, ⟨none, .no, false⟩), (2, ⟨none, .no, false⟩), (3, ⟨(some true), .no, false⟩), (5, ⟨(some true), .no, false⟩), (4, ⟨(some true), .no, false⟩), (6, ⟨(some true), .callP true [] .any, false⟩), (7, ⟨(some true), .no, false⟩), (8, ⟨(some true), .no, false⟩), (10, ⟨(some true), .no, false⟩), (9, ⟨(some true), .no, false⟩), (11, ⟨(some true), .callP true [] .any, false⟩), (12, ⟨(some true), .no, false⟩), (13, ⟨(some true), .no, false⟩), (14, ⟨none, .b true, false⟩), (15, ⟨none, .no, false⟩), (16, ⟨(some true), .no, false⟩), (18, ⟨(some true), .no, false⟩), (17, ⟨(some true), .no, false⟩), (19, ⟨(some true), .callP true [] .any, false⟩), (20, ⟨(some true), .no, false⟩), (21, ⟨(some true), .no, false⟩), (22, ⟨(some true), .no, false⟩), (24, ⟨(some true), .no, false⟩), (23, ⟨(some true), .no, false⟩), (25, ⟨(some true), .callP true [] .any, false⟩), (26, ⟨(some true), .no, false⟩), (27, ⟨(some true), .no, false⟩), (28, ⟨(some true), .no, false⟩), (29, ⟨(some true), .no, false⟩), (31, ⟨(some true), .no, false⟩), (34, ⟨(some true), .no, false⟩), (30, ⟨(some true), .no, false⟩), (32, ⟨(some true), .callP true [] .any, false⟩), (33, ⟨(some true), .no, false⟩), (35, ⟨(some true), .callP true [] .any, false⟩), (36, ⟨(some true), .no, false⟩), (37, ⟨(some true), .no, false⟩), (38, ⟨(some true), .no, false⟩), (39, ⟨none, .b true, false⟩)] (.one true (.adj [] (.adj [.keep [2], .drop 1] .nil)))) (.ex (Bool) (fun t511 => (.emb t511 (.ex (Bool) (fun t513 => (.emb (!t513) (.dr [(0, ⟨none, .no, false⟩), (1, ⟨none, .no, false⟩), (2, ⟨none, .no, false⟩), (3, ⟨(some false), .no, false⟩), (5, ⟨(some false), .no, false⟩), (4, ⟨(some false), .no, false⟩), (6, ⟨(some false), .callP true [] (sigset_Has.R t511), false⟩), (7, ⟨(some false), .no, false⟩), (8, ⟨(some true), .no, false⟩), (10, ⟨(some true), .no, false⟩), (9, ⟨(some true), .no, false⟩), (11, ⟨(some true), .callP true [] (sigset_Has.R t513), false⟩), (12, ⟨(some true), .no, false⟩), (13, ⟨(some false), .b true, false⟩), (14, ⟨none, .b false, false⟩), (15, ⟨none, .no, false⟩), (16, ⟨(some true), .no, false⟩), (18, ⟨(some true), .no, false⟩), (17, ⟨(some true), .no, false⟩), (19, ⟨(some true), .callP true [] .any, false⟩), (20, ⟨(some true), .no, false⟩), (21, ⟨(some true), .no, false⟩), (22, ⟨(some true), .no, false⟩), (24, ⟨(some true), .no, false⟩), (23, ⟨(some true), .no, false⟩), (25, ⟨(some true), .callP true [] .any, false⟩), (26, ⟨(some true), .no, false⟩), (27, ⟨(some true), .no, false⟩), (28, ⟨(some true), .no, false⟩), (29, ⟨(some true), .no, false⟩), (31, ⟨(some true), .no, false⟩), (34, ⟨(some true), .no, false⟩), (30, ⟨(some true), .no, false⟩), (32, ⟨(some true), .callP true [] .any, false⟩), (33, ⟨(some true), .no, false⟩), (35, ⟨(some true), .callP true [] .any, false⟩), (36, ⟨(some true), .no, false⟩), (37, ⟨(some true), .no, false⟩), (38, ⟨(some true), .no, false⟩), (39, ⟨none, .b true, false⟩)] (.one true (.adj [] (.adj [.keep [2], .drop 1] .nil)))) (.ex (Bool) (fun t515 => (.emb (!t515) (.ex (Bool) (fun t517 => (.emb (!t517) (.ex (Bool) (fun t519 => (.ex (Int) (fun t520 => (.dr [(0, ⟨none, .no, false⟩), (1, ⟨none, .no, false⟩), (2, ⟨none, .no, false⟩), (3, ⟨(some false), .no, false⟩), (5, ⟨(some false), .no, false⟩), (4, ⟨(some false), .no, false⟩), (6, ⟨(some false), .callP true [] (sigset_Has.R t511), false⟩), (7, ⟨(some false), .no, false⟩), (8, ⟨(some true), .no, false⟩), (10, ⟨(some true), .no, false⟩), (9, ⟨(some true), .no, false⟩), (11, ⟨(some true), .callP true [] (sigset_Has.R t513), false⟩), (12, ⟨(some true), .no, false⟩), (13, ⟨(some false), .b true, false⟩), (14, ⟨none, .b false, false⟩), (15, ⟨none, .no, false⟩), (16, ⟨(some false), .no, false⟩), (18, ⟨(some false), .no, false⟩), (17, ⟨(some false), .no, false⟩), (19, ⟨(some false), .callP true [] (sigset_Has.R t515), false⟩), (20, ⟨(some false), .no, false⟩), (21, ⟨(some false), .no, false⟩), (22, ⟨(some true), .no, false⟩), (24, ⟨(some true), .no, false⟩), (23, ⟨(some true), .no, false⟩), (25, ⟨(some true), .callP true [] (sigset_Has.R t517), false⟩), (26, ⟨(some true), .no, false⟩), (27, ⟨(some false), .b true, false⟩), (28, ⟨(some false), .no, false⟩), (29, ⟨(some true), .no, false⟩), (31, ⟨(some true), .no, false⟩), (34, ⟨(some true), .no, false⟩), (30, ⟨(some true), .no, false⟩), (32, ⟨(some true), .callP true [] (sigset_Has.R t519), false⟩), (33, ⟨(some true), .no, false⟩), (35, ⟨(some true), .callP true [] (sig_What.R t520), false⟩), (36, ⟨(some true), .no, false⟩), (37, ⟨(some true), .no, false⟩), (38, ⟨(some false), .b true, false⟩), (39, ⟨none, .b false, false⟩)] (.br (.adj [] (.adj [.keep [2], .drop 1] .nil)) (.adj [] (.adj [.keep [0, 3, 4, 5, 6, 7], .drop 2] .nil)))))))) (.dr [(0, ⟨none, .no, false⟩), (1, ⟨none, .no, false⟩), (2, ⟨none, .no, false⟩), (3, ⟨(some false), .no, false⟩), (5, ⟨(some false), .no, false⟩), (4, ⟨(some false), .no, false⟩), (6, ⟨(some false), .callP true [] (sigset_Has.R t511), false⟩), (7, ⟨(some false), .no, false⟩), (8, ⟨(some true), .no, false⟩), (10, ⟨(some true), .no, false⟩), (9, ⟨(some true), .no, false⟩), (11, ⟨(some true), .callP true [] (sigset_Has.R t513), false⟩), (12, ⟨(some true), .no, false⟩), (13, ⟨(some false), .b true, false⟩), (14, ⟨none, .b false, false⟩), (15, ⟨none, .no, false⟩), (16, ⟨(some false), .no, false⟩), (18, ⟨(some false), .no, false⟩), (17, ⟨(some false), .no, false⟩), (19, ⟨(some false), .callP true [] (sigset_Has.R t515), false⟩), (20, ⟨(some false), .no, false⟩), (21, ⟨(some false), .no, false⟩), (22, ⟨(some true), .no, false⟩), (24, ⟨(some true), .no, false⟩), (23, ⟨(some true), .no, false⟩), (25, ⟨(some true), .callP true [] (sigset_Has.R t517), false⟩), (26, ⟨(some true), .no, false⟩), (27, ⟨(some false), .b true, false⟩), (28, ⟨(some false), .no, false⟩), (29, ⟨(some false), .no, false⟩), (31, ⟨(some false), .no, false⟩), (34, ⟨(some false), .no, false⟩), (30, ⟨(some false), .no, false⟩), (32, ⟨(some false), .callP true [] .any, false⟩), (33, ⟨(some false), .no, false⟩), (35, ⟨(some false), .callP true [] .any, false⟩), (36, ⟨(some false), .no, false⟩), (37, ⟨(some false), .no, false⟩), (38, ⟨(some false), .b false, false⟩), (39, ⟨none, .b false, false⟩)] (.one false (.adj [] (.adj [.keep [0, 3, 4, 5, 6, 7], .drop 2] .nil))))))) (.dr [(0, ⟨none, .no, false⟩), (1, ⟨none, .no, false⟩), (2, ⟨none, .no, false⟩), (3, ⟨(some false), .no, false⟩), (5, ⟨(some false), .no, false⟩), (4, ⟨(some false), .no, false⟩), (6, ⟨(some false), .callP true [] (sigset_Has.R t511), false⟩), (7, ⟨(some false), .no, false⟩), (8, ⟨(some true), .no, false⟩), (10, ⟨(some true), .no, false⟩), (9, ⟨(some true), .no, false⟩), (11, ⟨(some true), .callP true [] (sigset_Has.R t513), false⟩), (12, ⟨(some true), .no, false⟩), (13, ⟨(some false), .b true, false⟩), (14, ⟨none, .b false, false⟩), (15, ⟨none, .no, false⟩), (16, ⟨(some false), .no, false⟩), (18, ⟨(some false), .no, false⟩), (17, ⟨(some false), .no, false⟩), (19, ⟨(some false), .callP true [] (sigset_Has.R t515), false⟩), (20, ⟨(some false), .no, false⟩), (21, ⟨(some false), .no, false⟩), (22, ⟨(some false), .no, false⟩), (24, ⟨(some false), .no, false⟩), (23, ⟨(some false), .no, false⟩), (25, ⟨(some false), .callP true [] .any, false⟩), (26, ⟨(some false), .no, false⟩), (27, ⟨(some false), .b false, false⟩), (28, ⟨(some false), .no, false⟩), (29, ⟨(some false), .no, false⟩), (31, ⟨(some false), .no, false⟩), (34, ⟨(some false), .no, false⟩), (30, ⟨(some false), .no, false⟩), (32, ⟨(some false), .callP true [] .any, false⟩), (33, ⟨(some false), .no, false⟩), (35, ⟨(some false), .callP true [] .any, false⟩), (36, ⟨(some false), .no, false⟩), (37, ⟨(some false), .no, false⟩), (38, ⟨(some false), .b false, false⟩), (39, ⟨none, .b false, false⟩)] (.one false (.adj [] (.adj [.keep [0, 3, 4, 5, 6, 7], .drop 2] .nil)))))))))) (.ex (Bool) (fun t522 => (.emb (!t522) (.ex (Bool) (fun t524 => (.emb (!t524) (.ex (Bool) (fun t526 => (.ex (Int) (fun t527 => (.dr [(0, ⟨none, .no, false⟩), (1, ⟨none, .no, false⟩), (2, ⟨none, .no, false⟩), (3, ⟨(some false), .no, false⟩), (5, ⟨(some false), .no, false⟩), (4, ⟨(some false), .no, false⟩), (6, ⟨(some false), .callP true [] (sigset_Has.R t511), false⟩), (7, ⟨(some false), .no, false⟩), (8, ⟨(some false), .no, false⟩), (10, ⟨(some false), .no, false⟩), (9, ⟨(some false), .no, false⟩), (11, ⟨(some false), .callP true [] .any, false⟩), (12, ⟨(some false), .no, false⟩), (13, ⟨(some false), .b false, false⟩), (14, ⟨none, .b false, false⟩), (15, ⟨none, .no, false⟩), (16, ⟨(some false), .no, false⟩), (18, ⟨(some false), .no, false⟩), (17, ⟨(some false), .no, false⟩), (19, ⟨(some false), .callP true [] (sigset_Has.R t522), false⟩), (20, ⟨(some false), .no, false⟩), (21, ⟨(some false), .no, false⟩), (22, ⟨(some true), .no, false⟩), (24, ⟨(some true), .no, false⟩), (23, ⟨(some true), .no, false⟩), (25, ⟨(some true), .callP true [] (sigset_Has.R t524), false⟩), (26, ⟨(some true), .no, false⟩), (27, ⟨(some false), .b true, false⟩), (28, ⟨(some false), .no, false⟩), (29, ⟨(some true), .no, false⟩), (31, ⟨(some true), .no, false⟩), (34, ⟨(some true), .no, false⟩), (30, ⟨(some true), .no, false⟩), (32, ⟨(some true), .callP true [] (sigset_Has.R t526), false⟩), (33, ⟨(some true), .no, false⟩), (35, ⟨(some true), .callP true [] (sig_What.R t527), false⟩), (36, ⟨(some true), .no, false⟩), (37, ⟨(some true), .no, false⟩), (38, ⟨(some false), .b true, false⟩), (39, ⟨none, .b false, false⟩)] (.br (.adj [] (.adj [.keep [2], .drop 1] .nil)) (.adj [] (.adj [.keep [0, 3, 4, 5, 6, 7], .drop 2] .nil)))))))) (.dr [(0, ⟨none, .no, false⟩), (1, ⟨none, .no, false⟩), (2, ⟨none, .no, false⟩), (3, ⟨(some false), .no, false⟩), (5, ⟨(some false), .no, false⟩), (4, ⟨(some false), .no, false⟩), (6, ⟨(some false), .callP true [] (sigset_Has.R t511), false⟩), (7, ⟨(some false), .no, false⟩), (8, ⟨(some false), .no, false⟩), (10, ⟨(some false), .no, false⟩), (9, ⟨(some false), .no, false⟩), (11, ⟨(some false), .callP true [] .any, false⟩), (12, ⟨(some false), .no, false⟩), (13, ⟨(some false), .b false, false⟩), (14, ⟨none, .b false, false⟩), (15, ⟨none, .no, false⟩), (16, ⟨(some false), .no, false⟩), (18, ⟨(some false), .no, false⟩), (17, ⟨(some false), .no, false⟩), (19, ⟨(some false), .callP true [] (sigset_Has.R t522), false⟩), (20, ⟨(some false), .no, false⟩), (21, ⟨(some false), .no, false⟩), (22, ⟨(some true), .no, false⟩), (24, ⟨(some true), .no, false⟩), (23, ⟨(some true), .no, false⟩), (25, ⟨(some true), .callP true [] (sigset_Has.R t524), false⟩), (26, ⟨(some true), .no, false⟩), (27, ⟨(some false), .b true, false⟩), (28, ⟨(some false), .no, false⟩), (29, ⟨(some false), .no, false⟩), (31, ⟨(some false), .no, false⟩), (34, ⟨(some false), .no, false⟩), (30, ⟨(some false), .no, false⟩), (32, ⟨(some false), .callP true [] .any, false⟩), (33, ⟨(some false), .no, false⟩), (35, ⟨(some false), .callP true [] .any, false⟩), (36, ⟨(some false), .no, false⟩), (37, ⟨(some false), .no, false⟩), (38, ⟨(some false), .b false, false⟩), (39, ⟨none, .b false, false⟩)] (.one false (.adj [] (.adj [.keep [0, 3, 4, 5, 6, 7], .drop 2] .nil))))))) (.dr [(0, ⟨none, .no, false⟩), (1, ⟨none, .no, false⟩), (2, ⟨none, .no, false⟩), (3, ⟨(some false), .no, false⟩), (5, ⟨(some false), .no, false⟩), (4, ⟨(some false), .no, false⟩), (6, ⟨(some false), .callP true [] (sigset_Has.R t511), false⟩), (7, ⟨(some false), .no, false⟩), (8, ⟨(some false), .no, false⟩), (10, ⟨(some false), .no, false⟩), (9, ⟨(some false), .no, false⟩), (11, ⟨(some false), .callP true [] .any, false⟩), (12, ⟨(some false), .no, false⟩), (13, ⟨(some false), .b false, false⟩), (14, ⟨none, .b false, false⟩), (15, ⟨none, .no, false⟩), (16, ⟨(some false), .no, false⟩), (18, ⟨(some false), .no, false⟩), (17, ⟨(some false), .no, false⟩), (19, ⟨(some false), .callP true [] (sigset_Has.R t522), false⟩), (20, ⟨(some false), .no, false⟩), (21, ⟨(some false), .no, false⟩), (22, ⟨(some false), .no, false⟩), (24, ⟨(some false), .no, false⟩), (23, ⟨(some false), .no, false⟩), (25, ⟨(some false), .callP true [] .any, false⟩), (26, ⟨(some false), .no, false⟩), (27, ⟨(some false), .b false, false⟩), (28, ⟨(some false), .no, false⟩), (29, ⟨(some false), .no, false⟩), (31, ⟨(some false), .no, false⟩), (34, ⟨(some false), .no, false⟩), (30, ⟨(some false), .no, false⟩), (32, ⟨(some false), .callP true [] .any, false⟩), (33, ⟨(some false), .no, false⟩), (35, ⟨(some false), .callP true [] .any, false⟩), (36, ⟨(some false), .no, false⟩), (37, ⟨(some false), .no, false⟩), (38, ⟨(some false), .b false, false⟩), (39, ⟨none, .b false, false⟩)] (.one false (.adj [] (.adj [.keep [0, 3, 4, 5, 6, 7], .drop 2] .nil))))))))))))))))) (to_goal (q := (True) ∧ ((((IntKind.wrap .i64 ((Int.tmod (IntKind.wrap .u64 ((List.getD a0 (Int.toNat x158) ((0 : Int), ((0 : Int), (0 : Int)))).1)) (5 : Int)))) == (2 : Int)) = true → (∃ t501 : Int × Int × (List Int) × (Option Int), (0 ≤ x158 ∧ x158 < (((List.length a0) : Nat) : Int)) ∧ (True) ∧ (True) ∧ (Fun cfg 12 [.agg [.c (.sc (.int .u32 x155)), .c (.sc (.int .u32 x156)), .row 32 (.int .u32) x157], .one (.sc (.int .i64 (IntKind.wrap .i64 ((1 : Int) + (IntKind.wrap .i64 ((Int.tmod (IntKind.wrap .u64 ((List.getD a0 (Int.toNat x158) ((0 : Int), ((0 : Int), (0 : Int)))).2.1)) (31 : Int)))))))), .one (.sc (.int .u32 (List.getD a0 (Int.toNat x158) ((0 : Int), ((0 : Int), (0 : Int)))).2.2))] [] (sig_Act.R t501) [] ∧ True) ∧ (True) ∧ (((True) ∧ (True) ∧ True) ∧ halterlaw25_SigLaws.j2_Q x155 x156 x157 x158 a0 r .normal ⟨[.v (.one (.fs (.pair (.int .i64) (.pair (.int .i64) (.int .u32))) a0 false)), .any, .any, .v (.one (.ptr 0 ⟨0, 0, 0, 0⟩)), .v (.one (.sc (.int .i64 x158))), .v (.one (.sc (.int .i64 (IntKind.wrap .i64 ((1 : Int) + (IntKind.wrap .i64 ((Int.tmod (IntKind.wrap .u64 ((List.getD a0 (Int.toNat x158) ((0 : Int), ((0 : Int), (0 : Int)))).2.1)) (31 : Int))))))))), .v (.one (.ptr 1 ⟨0, 0, 0, 0⟩)), .v (.one (.err t501.2.2.2)), .any, .any, .any, .any, .any, .any, .any, .any, .any, .any, .any, .any, .any, .any, .any, .any, .any, .any, .any, .any, .any, .any, .any, .any, .any, .any, .any, .any, .any, .any, .any, .any, .any, .any, .any, .any, .any, .any, .any, .any, .any, .any, .any, .any, .any, .any, .any, .any, .any, .any, .any, .any, .any, .any, .any, .any, .any, .any, .any, .any, .any, .any, .any, .any, .any, .any, .any, .any, .any, .any, .any, .any, .any, .any, .any, .any, .any, .any, .any, .any, .any, .any, .any, .any, .any, .any, .any, .any, .any, .any, .any, .any, .any, .any, .any, .any, .any, .any, .any, .any, .any, .any, .any, .any, .any, .any, .any, .any, .any, .any, .any, .any, .any, .any, .any, .any, .any, .any, .any, .any, .any, .any, .any, .any, .any, .any, .any, .any, .any, .any, .any, .any, .any, .any, .any, .any, .any, .any, .any, .any, .any, .any, .any, .any, .any, .any, .any, .any, .any, .any, .any, .any, .any, .any, .any, .any, .any, .any, .any, .any, .any, .any, .any, .any, .any, .any, .any, .any, .any, .any, .any, .any, .any], [.ex false [.c (.sc (.int .u32 x155)), .c (.sc (.int .u32 x156)), .row 32 (.int .u32) x157] 27, .ex false [.c (.sc (.int .u32 t501.1)), .c (.sc (.int .u32 t501.2.1)), .row 32 (.int .u32) t501.2.2.1] 27], 0⟩))) ∧ (((IntKind.wrap .i64 ((Int.tmod (IntKind.wrap .u64 ((List.getD a0 (Int.toNat x158) ((0 : Int), ((0 : Int), (0 : Int)))).1)) (5 : Int)))) == (2 : Int)) = false → (True) ∧ ((((IntKind.wrap .i64 ((Int.tmod (IntKind.wrap .u64 ((List.getD a0 (Int.toNat x158) ((0 : Int), ((0 : Int), (0 : Int)))).1)) (5 : Int)))) == (3 : Int)) = true → (∃ t505 : Int × Int × (List Int) × (Option Int), (0 ≤ x158 ∧ x158 < (((List.length a0) : Nat) : Int)) ∧ (0 ≤ x158 ∧ x158 < (((List.length a0) : Nat) : Int)) ∧ (True) ∧ (True) ∧ (True) ∧ ((3 : Int) ≠ 0) ∧ (True) ∧ (True) ∧ (Fun cfg 6 [.agg [.c (.sc (.int .u32 x155)), .c (.sc (.int .u32 x156)), .row 32 (.int .u32) x157], .one (.sc (.int .i64 (IntKind.wrap .i64 ((Int.tmod (IntKind.wrap .u64 ((List.getD a0 (Int.toNat x158) ((0 : Int), ((0 : Int), (0 : Int)))).2.1)) (3 : Int)))))), .one (.sc (.int .u32 (List.getD a0 (Int.toNat x158) ((0 : Int), ((0 : Int), (0 : Int)))).2.2))] [] (sig_Mask.R t505) [] ∧ True) ∧ (True) ∧ (((True) ∧ (True) ∧ True) ∧ halterlaw25_SigLaws.j2_Q x155 x156 x157 x158 a0 r .normal ⟨[.v (.one (.fs (.pair (.int .i64) (.pair (.int .i64) (.int .u32))) a0 false)), .any, .any, .v (.one (.ptr 0 ⟨0, 0, 0, 0⟩)), .v (.one (.sc (.int .i64 x158))), .v (.one (.sc (.int .i64 (IntKind.wrap .i64 ((1 : Int) + (IntKind.wrap .i64 ((Int.tmod (IntKind.wrap .u64 ((List.getD a0 (Int.toNat x158) ((0 : Int), ((0 : Int), (0 : Int)))).2.1)) (31 : Int))))))))), .v (.one (.ptr 1 ⟨0, 0, 0, 0⟩)), .v (.one (.err t505.2.2.2)), .any, .any, .any, .any, .any, .any, .any, .any, .any, .any, .any, .any, .any, .any, .any, .any, .any, .any, .any, .any, .any, .any, .any, .any, .any, .any, .any, .any, .any, .any, .any, .any, .any, .any, .any, .any, .any, .any, .any, .any, .any, .any, .any, .any, .any, .any, .any, .any, .any, .any, .any, .any, .any, .any, .any, .any, .any, .any, .any, .any, .any, .any, .any, .any, .any, .any, .any, .any, .any, .any, .any, .any, .any, .any, .any, .any, .any, .any, .any, .any, .any, .any, .any, .any, .any, .any, .any, .any, .any, .any, .any, .any, .any, .any, .any, .any, .any, .any, .any, .any, .any, .any, .any, .any, .any, .any, .any, .any, .any, .any, .any, .any, .any, .any, .any, .any, .any, .any, .any, .any, .any, .any, .any, .any, .any, .any, .any, .any, .any, .any, .any, .any, .any, .any, .any, .any, .any, .any, .any, .any, .any, .any, .any, .any, .any, .any, .any, .any, .any, .any, .any, .any, .any, .any, .any, .any, .any, .any, .any, .any, .any, .any, .any, .any, .any, .any, .any, .any, .any, .any, .any, .any, .any], [.ex false [.c (.sc (.int .u32 x155)), .c (.sc (.int .u32 x156)), .row 32 (.int .u32) x157] 27, .ex false [.c (.sc (.int .u32 t505.1)), .c (.sc (.int .u32 t505.2.1)), .row 32 (.int .u32) t505.2.2.1] 27], 0⟩))) ∧ (((IntKind.wrap .i64 ((Int.tmod (IntKind.wrap .u64 ((List.getD a0 (Int.toNat x158) ((0 : Int), ((0 : Int), (0 : Int)))).1)) (5 : Int)))) == (3 : Int)) = false → (True) ∧ ((((IntKind.wrap .i64 ((Int.tmod (IntKind.wrap .u64 ((List.getD a0 (Int.toNat x158) ((0 : Int), ((0 : Int), (0 : Int)))).1)) (5 : Int)))) == (4 : Int)) = true → (∃ t507 : Int, (∃ t508 : Int × Int × (List Int), (True) ∧ (True) ∧ (Fun cfg 9 [.agg [.c (.sc (.int .u32 x155)), .c (.sc (.int .u32 x156)), .row 32 (.int .u32) x157]] [] (sig_Next.R t507) [] ∧ True) ∧ (Fun cfg 10 [.agg [.c (.sc (.int .u32 x155)), .c (.sc (.int .u32 x156)), .row 32 (.int .u32) x157], .one (.sc (.int .i64 t507))] [] (sig_Take.R t508) [] ∧ True) ∧ (True) ∧ (((True) ∧ (True) ∧ True) ∧ halterlaw25_SigLaws.j2_Q x155 x156 x157 x158 a0 r .normal ⟨[.v (.one (.fs (.pair (.int .i64) (.pair (.int .i64) (.int .u32))) a0 false)), .any, .any, .v (.one (.ptr 0 ⟨0, 0, 0, 0⟩)), .v (.one (.sc (.int .i64 x158))), .v (.one (.sc (.int .i64 (IntKind.wrap .i64 ((1 : Int) + (IntKind.wrap .i64 ((Int.tmod (IntKind.wrap .u64 ((List.getD a0 (Int.toNat x158) ((0 : Int), ((0 : Int), (0 : Int)))).2.1)) (31 : Int))))))))), .v (.one (.ptr 1 ⟨0, 0, 0, 0⟩)), .v (.one (.err none)), .any, .any, .any, .any, .any, .any, .any, .any, .any, .any, .any, .any, .any, .any, .any, .any, .any, .any, .any, .any, .any, .any, .any, .any, .any, .any, .any, .any, .any, .any, .any, .any, .any, .any, .any, .any, .any, .any, .any, .any, .any, .any, .any, .any, .any, .any, .any, .any, .any, .any, .any, .any, .any, .any, .any, .any, .any, .any, .any, .any, .any, .any, .any, .any, .any, .any, .any, .any, .any, .any, .any, .any, .any, .any, .any, .any, .any, .any, .any, .any, .any, .any, .any, .any, .any, .any, .any, .any, .any, .any, .any, .any, .any, .any, .any, .any, .any, .any, .any, .any, .any, .any, .any, .any, .any, .any, .any, .any, .any, .any, .any, .any, .any, .any, .any, .any, .any, .any, .any, .any, .any, .any, .any, .any, .any, .any, .any, .any, .any, .any, .any, .any, .any, .any, .any, .any, .any, .any, .any, .any, .any, .any, .any, .any, .any, .any, .any, .any, .any, .any, .any, .any, .any, .any, .any, .any, .any, .any, .any, .any, .any, .any, .any, .any, .any, .any, .any, .any, .any, .any, .any, .any, .any], [.ex false [.c (.sc (.int .u32 x155)), .c (.sc (.int .u32 x156)), .row 32 (.int .u32) x157] 27, .ex false [.c (.sc (.int .u32 t508.1)), .c (.sc (.int .u32 t508.2.1)), .row 32 (.int .u32) t508.2.2] 27], 0⟩)))) ∧ (((IntKind.wrap .i64 ((Int.tmod (IntKind.wrap .u64 ((List.getD a0 (Int.toNat x158) ((0 : Int), ((0 : Int), (0 : Int)))).1)) (5 : Int)))) == (4 : Int)) = false → (True) ∧ (∃ t509 : Int × Int × (List Int) × (Option Int), (Fun cfg 8 [.agg [.c (.sc (.int .u32 x155)), .c (.sc (.int .u32 x156)), .row 32 (.int .u32) x157], .one (.sc (.int .i64 (IntKind.wrap .i64 ((1 : Int) + (IntKind.wrap .i64 ((Int.tmod (IntKind.wrap .u64 ((List.getD a0 (Int.toNat x158) ((0 : Int), ((0 : Int), (0 : Int)))).2.1)) (31 : Int))))))))] [] (sig_Post.R t509) [] ∧ True) ∧ (True) ∧ (((!(Option.isNone t509.2.2.2)) = true → (True) ∧ ((!(Option.isNone t509.2.2.2)) = true) ∧ ((!(Option.isNone t509.2.2.2)) = true) ∧ ((!(Option.isNone t509.2.2.2)) = true) ∧ ((!(Option.isNone t509.2.2.2)) = true) ∧ ((!(Option.isNone t509.2.2.2)) = true) ∧ (True) ∧ (True) ∧ (True) ∧ (True) ∧ (True) ∧ ((!(Option.isNone t509.2.2.2)) = true) ∧ ((!(Option.isNone t509.2.2.2)) = true) ∧ (true = true) ∧ (true = true) ∧ (true = true) ∧ (true = true) ∧ (true = true) ∧ (true = true) ∧ (True) ∧ (True) ∧ (True) ∧ (True) ∧ (True) ∧ (true = true) ∧ (true = true) ∧ (True) ∧ (True) ∧ (True) ∧ (True) ∧ (True) ∧ (True) ∧ (True) ∧ (True) ∧ (True) ∧ (true = true) ∧ (true = true) ∧ (true = true ∧ (True ∧ (((True) ∧ (True) ∧ True) ∧ halterlaw25_SigLaws.j2_Q x155 x156 x157 x158 a0 r .ret ⟨[.any, .any, .v (.one (.sc (.bool false))), .any, .any, .any, .any, .any, .any, .any, .any, .any, .any, .any, .any, .any, .any, .any, .any, .any, .any, .any, .any, .any, .any, .any, .any, .any, .any, .any, .any, .any, .any, .any, .any, .any, .any, .any, .any, .any, .any, .any, .any, .any, .any, .any, .any, .any, .any, .any, .any, .any, .any, .any, .any, .any, .any, .any, .any, .any, .any, .any, .any, .any, .any, .any, .any, .any, .any, .any, .any, .any, .any, .any, .any, .any, .any, .any, .any, .any, .any, .any, .any, .any, .any, .any, .any, .any, .any, .any, .any, .any, .any, .any, .any, .any, .any, .any, .any, .any, .any, .any, .any, .any, .any, .any, .any, .any, .any, .any, .any, .any, .any, .any, .any, .any, .any, .any, .any, .any, .any, .any, .any, .any, .any, .any, .any, .any, .any, .any, .any, .any, .any, .any, .any, .any, .any, .any, .any, .any, .any, .any, .any, .any, .any, .any, .any, .any, .any, .any, .any, .any, .any, .any, .any, .any, .any, .any, .any, .any, .any, .any, .any, .any, .any, .any, .any, .any, .any, .any, .any, .any, .any, .any, .any, .any, .any, .any, .any, .any, .any], [.ex false [.c (.sc (.int .u32 x155)), .c (.sc (.int .u32 x156)), .row 32 (.int .u32) x157] 27], 0⟩)))) ∧ ((!(Option.isNone t509.2.2.2)) = false → (∃ t511 : Bool, ((t511 = true → (∃ t513 : Bool, (((!t513) = true → (True) ∧ ((!(Option.isNone t509.2.2.2)) = false ∧ True) ∧ ((!(Option.isNone t509.2.2.2)) = false ∧ True) ∧ ((!(Option.isNone t509.2.2.2)) = false ∧ True) ∧ ((!(Option.isNone t509.2.2.2)) = false ∧ Fun cfg 11 [.one (.sc (.int .u32 x156)), .one (.sc (.int .i64 (IntKind.wrap .i64 ((1 : Int) + (IntKind.wrap .i64 ((Int.tmod (IntKind.wrap .u64 ((List.getD a0 (Int.toNat x158) ((0 : Int), ((0 : Int), (0 : Int)))).2.1)) (31 : Int))))))))] [] (sigset_Has.R t511) [] ∧ True) ∧ ((!(Option.isNone t509.2.2.2)) = false ∧ True) ∧ (t511 = true ∧ True) ∧ (t511 = true ∧ True) ∧ (t511 = true ∧ True) ∧ (t511 = true ∧ Fun cfg 11 [.one (.sc (.int .u32 t509.1)), .one (.sc (.int .i64 (IntKind.wrap .i64 ((1 : Int) + (IntKind.wrap .i64 ((Int.tmod (IntKind.wrap .u64 ((List.getD a0 (Int.toNat x158) ((0 : Int), ((0 : Int), (0 : Int)))).2.1)) (31 : Int))))))))] [] (sigset_Has.R t513) [] ∧ True) ∧ (t511 = true ∧ True) ∧ ((!(Option.isNone t509.2.2.2)) = false ∧ t511 = true) ∧ ((!(Option.isNone t509.2.2.2)) = false) ∧ ((!t513) = true) ∧ ((!t513) = true) ∧ ((!t513) = true) ∧ ((!t513) = true) ∧ ((!t513) = true) ∧ ((!t513) = true) ∧ (True) ∧ (True) ∧ (True) ∧ (True) ∧ (True) ∧ ((!t513) = true) ∧ ((!t513) = true) ∧ (True) ∧ (True) ∧ (True) ∧ (True) ∧ (True) ∧ (True) ∧ (True) ∧ (True) ∧ (True) ∧ ((!t513) = true) ∧ ((!t513) = true) ∧ (true = true ∧ (True ∧ (((True) ∧ (True) ∧ True) ∧ halterlaw25_SigLaws.j2_Q x155 x156 x157 x158 a0 r .ret ⟨[.any, .any, .v (.one (.sc (.bool false))), .any, .any, .any, .any, .any, .any, .any, .any, .any, .any, .any, .any, .any, .any, .any, .any, .any, .any, .any, .any, .any, .any, .any, .any, .any, .any, .any, .any, .any, .any, .any, .any, .any, .any, .any, .any, .any, .any, .any, .any, .any, .any, .any, .any, .any, .any, .any, .any, .any, .any, .any, .any, .any, .any, .any, .any, .any, .any, .any, .any, .any, .any, .any, .any, .any, .any, .any, .any, .any, .any, .any, .any, .any, .any, .any, .any, .any, .any, .any, .any, .any, .any, .any, .any, .any, .any, .any, .any, .any, .any, .any, .any, .any, .any, .any, .any, .any, .any, .any, .any, .any, .any, .any, .any, .any, .any, .any, .any, .any, .any, .any, .any, .any, .any, .any, .any, .any, .any, .any, .any, .any, .any, .any, .any, .any, .any, .any, .any, .any, .any, .any, .any, .any, .any, .any, .any, .any, .any, .any, .any, .any, .any, .any, .any, .any, .any, .any, .any, .any, .any, .any, .any, .any, .any, .any, .any, .any, .any, .any, .any, .any, .any, .any, .any, .any, .any, .any, .any, .any, .any, .any, .any, .any, .any, .any, .any, .any, .any], [.ex false [.c (.sc (.int .u32 x155)), .c (.sc (.int .u32 x156)), .row 32 (.int .u32) x157] 27], 0⟩)))) ∧ ((!t513) = false → (∃ t515 : Bool, (((!t515) = true → (∃ t517 : Bool, (((!t517) = true → (∃ t519 : Bool, (∃ t520 : Int, (True) ∧ ((!(Option.isNone t509.2.2.2)) = false ∧ True) ∧ ((!(Option.isNone t509.2.2.2)) = false ∧ True) ∧ ((!(Option.isNone t509.2.2.2)) = false ∧ True) ∧ ((!(Option.isNone t509.2.2.2)) = false ∧ Fun cfg 11 [.one (.sc (.int .u32 x156)), .one (.sc (.int .i64 (IntKind.wrap .i64 ((1 : Int) + (IntKind.wrap .i64 ((Int.tmod (IntKind.wrap .u64 ((List.getD a0 (Int.toNat x158) ((0 : Int), ((0 : Int), (0 : Int)))).2.1)) (31 : Int))))))))] [] (sigset_Has.R t511) [] ∧ True) ∧ ((!(Option.isNone t509.2.2.2)) = false ∧ True) ∧ (t511 = true ∧ True) ∧ (t511 = true ∧ True) ∧ (t511 = true ∧ True) ∧ (t511 = true ∧ Fun cfg 11 [.one (.sc (.int .u32 t509.1)), .one (.sc (.int .i64 (IntKind.wrap .i64 ((1 : Int) + (IntKind.wrap .i64 ((Int.tmod (IntKind.wrap .u64 ((List.getD a0 (Int.toNat x158) ((0 : Int), ((0 : Int), (0 : Int)))).2.1)) (31 : Int))))))))] [] (sigset_Has.R t513) [] ∧ True) ∧ (t511 = true ∧ True) ∧ ((!(Option.isNone t509.2.2.2)) = false ∧ t511 = true) ∧ ((!(Option.isNone t509.2.2.2)) = false) ∧ ((!t513) = false ∧ True) ∧ ((!t513) = false ∧ True) ∧ ((!t513) = false ∧ True) ∧ ((!t513) = false ∧ Fun cfg 11 [.one (.sc (.int .u32 x156)), .one (.sc (.int .i64 (IntKind.wrap .i64 ((1 : Int) + (IntKind.wrap .i64 ((Int.tmod (IntKind.wrap .u64 ((List.getD a0 (Int.toNat x158) ((0 : Int), ((0 : Int), (0 : Int)))).2.1)) (31 : Int))))))))] [] (sigset_Has.R t515) [] ∧ True) ∧ ((!t513) = false ∧ True) ∧ ((!t513) = false ∧ True) ∧ ((!t515) = true ∧ True) ∧ ((!t515) = true ∧ True) ∧ ((!t515) = true ∧ True) ∧ ((!t515) = true ∧ Fun cfg 11 [.one (.sc (.int .u32 x155)), .one (.sc (.int .i64 (IntKind.wrap .i64 ((1 : Int) + (IntKind.wrap .i64 ((Int.tmod (IntKind.wrap .u64 ((List.getD a0 (Int.toNat x158) ((0 : Int), ((0 : Int), (0 : Int)))).2.1)) (31 : Int))))))))] [] (sigset_Has.R t517) [] ∧ True) ∧ ((!t515) = true ∧ True) ∧ ((!t513) = false ∧ (!t515) = true) ∧ ((!t513) = false ∧ True) ∧ ((!t517) = true ∧ True) ∧ ((!t517) = true ∧ True) ∧ ((!t517) = true ∧ True) ∧ ((!t517) = true ∧ True) ∧ ((!t517) = true ∧ Fun cfg 11 [.one (.sc (.int .u32 t509.1)), .one (.sc (.int .i64 (IntKind.wrap .i64 ((1 : Int) + (IntKind.wrap .i64 ((Int.tmod (IntKind.wrap .u64 ((List.getD a0 (Int.toNat x158) ((0 : Int), ((0 : Int), (0 : Int)))).2.1)) (31 : Int))))))))] [] (sigset_Has.R t519) [] ∧ True) ∧ ((!t517) = true ∧ True) ∧ ((!t517) = true ∧ Fun cfg 13 [.agg [.c (.sc (.int .u32 x155)), .c (.sc (.int .u32 x156)), .row 32 (.int .u32) x157], .one (.sc (.int .i64 (IntKind.wrap .i64 ((1 : Int) + (IntKind.wrap .i64 ((Int.tmod (IntKind.wrap .u64 ((List.getD a0 (Int.toNat x158) ((0 : Int), ((0 : Int), (0 : Int)))).2.1)) (31 : Int))))))))] [] (sig_What.R t520) [] ∧ True) ∧ ((!t517) = true ∧ True) ∧ ((!t517) = true ∧ True) ∧ ((!t513) = false ∧ (!t517) = true) ∧ ((!t513) = false) ∧ (((!(t519 == (t520 != (0 : Int)))) = true → (True ∧ (((True) ∧ (True) ∧ True) ∧ halterlaw25_SigLaws.j2_Q x155 x156 x157 x158 a0 r .ret ⟨[.any, .any, .v (.one (.sc (.bool false))), .any, .any, .any, .any, .any, .any, .any, .any, .any, .any, .any, .any, .any, .any, .any, .any, .any, .any, .any, .any, .any, .any, .any, .any, .any, .any, .any, .any, .any, .any, .any, .any, .any, .any, .any, .any, .any, .any, .any, .any, .any, .any, .any, .any, .any, .any, .any, .any, .any, .any, .any, .any, .any, .any, .any, .any, .any, .any, .any, .any, .any, .any, .any, .any, .any, .any, .any, .any, .any, .any, .any, .any, .any, .any, .any, .any, .any, .any, .any, .any, .any, .any, .any, .any, .any, .any, .any, .any, .any, .any, .any, .any, .any, .any, .any, .any, .any, .any, .any, .any, .any, .any, .any, .any, .any, .any, .any, .any, .any, .any, .any, .any, .any, .any, .any, .any, .any, .any, .any, .any, .any, .any, .any, .any, .any, .any, .any, .any, .any, .any, .any, .any, .any, .any, .any, .any, .any, .any, .any, .any, .any, .any, .any, .any, .any, .any, .any, .any, .any, .any, .any, .any, .any, .any, .any, .any, .any, .any, .any, .any, .any, .any, .any, .any, .any, .any, .any, .any, .any, .any, .any, .any, .any, .any, .any, .any, .any, .any], [.ex false [.c (.sc (.int .u32 x155)), .c (.sc (.int .u32 x156)), .row 32 (.int .u32) x157] 27], 0⟩))) ∧ ((!(t519 == (t520 != (0 : Int)))) = false → (True ∧ (((True) ∧ (True) ∧ True) ∧ halterlaw25_SigLaws.j2_Q x155 x156 x157 x158 a0 r .normal ⟨[.v (.one (.fs (.pair (.int .i64) (.pair (.int .i64) (.int .u32))) a0 false)), .any, .any, .v (.one (.ptr 0 ⟨0, 0, 0, 0⟩)), .v (.one (.sc (.int .i64 x158))), .v (.one (.sc (.int .i64 (IntKind.wrap .i64 ((1 : Int) + (IntKind.wrap .i64 ((Int.tmod (IntKind.wrap .u64 ((List.getD a0 (Int.toNat x158) ((0 : Int), ((0 : Int), (0 : Int)))).2.1)) (31 : Int))))))))), .v (.one (.ptr 1 ⟨0, 0, 0, 0⟩)), .v (.one (.err t509.2.2.2)), .any, .any, .any, .any, .any, .any, .any, .any, .any, .any, .any, .any, .any, .any, .any, .any, .any, .any, .any, .any, .any, .any, .any, .any, .any, .any, .any, .any, .any, .any, .any, .any, .any, .any, .any, .any, .any, .any, .any, .any, .any, .any, .any, .any, .any, .any, .any, .any, .any, .any, .any, .any, .any, .any, .any, .any, .any, .any, .any, .any, .any, .any, .any, .any, .any, .any, .any, .any, .any, .any, .any, .any, .any, .any, .any, .any, .any, .any, .any, .any, .any, .any, .any, .any, .any, .any, .any, .any, .any, .any, .any, .any, .any, .any, .any, .any, .any, .any, .any, .any, .any, .any, .any, .any, .any, .any, .any, .any, .any, .any, .any, .any, .any, .any, .any, .any, .any, .any, .any, .any, .any, .any, .any, .any, .any, .any, .any, .any, .any, .any, .any, .any, .any, .any, .any, .any, .any, .any, .any, .any, .any, .any, .any, .any, .any, .any, .any, .any, .any, .any, .any, .any, .any, .any, .any, .any, .any, .any, .any, .any, .any, .any, .any, .any, .any, .any, .any, .any, .any, .any, .any, .any, .any], [.ex false [.c (.sc (.int .u32 x155)), .c (.sc (.int .u32 x156)), .row 32 (.int .u32) x157] 27, .ex false [.c (.sc (.int .u32 t509.1)), .c (.sc (.int .u32 t509.2.1)), .row 32 (.int .u32) t509.2.2.1] 27], 0⟩))))))) ∧ ((!t517) = false → (True) ∧ ((!(Option.isNone t509.2.2.2)) = false ∧ True) ∧ ((!(Option.isNone t509.2.2.2)) = false ∧ True) ∧ ((!(Option.isNone t509.2.2.2)) = false ∧ True) ∧ ((!(Option.isNone t509.2.2.2)) = false ∧ Fun cfg 11 [.one (.sc (.int .u32 x156)), .one (.sc (.int .i64 (IntKind.wrap .i64 ((1 : Int) + (IntKind.wrap .i64 ((Int.tmod (IntKind.wrap .u64 ((List.getD a0 (Int.toNat x158) ((0 : Int), ((0 : Int), (0 : Int)))).2.1)) (31 : Int))))))))] [] (sigset_Has.R t511) [] ∧ True) ∧ ((!(Option.isNone t509.2.2.2)) = false ∧ True) ∧ (t511 = true ∧ True) ∧ (t511 = true ∧ True) ∧ (t511 = true ∧ True) ∧ (t511 = true ∧ Fun cfg 11 [.one (.sc (.int .u32 t509.1)), .one (.sc (.int .i64 (IntKind.wrap .i64 ((1 : Int) + (IntKind.wrap .i64 ((Int.tmod (IntKind.wrap .u64 ((List.getD a0 (Int.toNat x158) ((0 : Int), ((0 : Int), (0 : Int)))).2.1)) (31 : Int))))))))] [] (sigset_Has.R t513) [] ∧ True) ∧ (t511 = true ∧ True) ∧ ((!(Option.isNone t509.2.2.2)) = false ∧ t511 = true) ∧ ((!(Option.isNone t509.2.2.2)) = false) ∧ ((!t513) = false ∧ True) ∧ ((!t513) = false ∧ True) ∧ ((!t513) = false ∧ True) ∧ ((!t513) = false ∧ Fun cfg 11 [.one (.sc (.int .u32 x156)), .one (.sc (.int .i64 (IntKind.wrap .i64 ((1 : Int) + (IntKind.wrap .i64 ((Int.tmod (IntKind.wrap .u64 ((List.getD a0 (Int.toNat x158) ((0 : Int), ((0 : Int), (0 : Int)))).2.1)) (31 : Int))))))))] [] (sigset_Has.R t515) [] ∧ True) ∧ ((!t513) = false ∧ True) ∧ ((!t513) = false ∧ True) ∧ ((!t515) = true ∧ True) ∧ ((!t515) = true ∧ True) ∧ ((!t515) = true ∧ True) ∧ ((!t515) = true ∧ Fun cfg 11 [.one (.sc (.int .u32 x155)), .one (.sc (.int .i64 (IntKind.wrap .i64 ((1 : Int) + (IntKind.wrap .i64 ((Int.tmod (IntKind.wrap .u64 ((List.getD a0 (Int.toNat x158) ((0 : Int), ((0 : Int), (0 : Int)))).2.1)) (31 : Int))))))))] [] (sigset_Has.R t517) [] ∧ True) ∧ ((!t515) = true ∧ True) ∧ ((!t513) = false ∧ (!t515) = true) ∧ ((!t513) = false ∧ True) ∧ ((!t517) = false) ∧ ((!t517) = false) ∧ ((!t517) = false) ∧ ((!t517) = false) ∧ ((!t517) = false) ∧ ((!t517) = false) ∧ ((!t517) = false) ∧ ((!t517) = false) ∧ ((!t517) = false) ∧ ((!t513) = false ∧ (!t517) = false) ∧ ((!t513) = false) ∧ (false = false ∧ (True ∧ (((True) ∧ (True) ∧ True) ∧ halterlaw25_SigLaws.j2_Q x155 x156 x157 x158 a0 r .normal ⟨[.v (.one (.fs (.pair (.int .i64) (.pair (.int .i64) (.int .u32))) a0 false)), .any, .any, .v (.one (.ptr 0 ⟨0, 0, 0, 0⟩)), .v (.one (.sc (.int .i64 x158))), .v (.one (.sc (.int .i64 (IntKind.wrap .i64 ((1 : Int) + (IntKind.wrap .i64 ((Int.tmod (IntKind.wrap .u64 ((List.getD a0 (Int.toNat x158) ((0 : Int), ((0 : Int), (0 : Int)))).2.1)) (31 : Int))))))))), .v (.one (.ptr 1 ⟨0, 0, 0, 0⟩)), .v (.one (.err t509.2.2.2)), .any, .any, .any, .any, .any, .any, .any, .any, .any, .any, .any, .any, .any, .any, .any, .any, .any, .any, .any, .any, .any, .any, .any, .any, .any, .any, .any, .any, .any, .any, .any, .any, .any, .any, .any, .any, .any, .any, .any, .any, .any, .any, .any, .any, .any, .any, .any, .any, .any, .any, .any, .any, .any, .any, .any, .any, .any, .any, .any, .any, .any, .any, .any, .any, .any, .any, .any, .any, .any, .any, .any, .any, .any, .any, .any, .any, .any, .any, .any, .any, .any, .any, .any, .any, .any, .any, .any, .any, .any, .any, .any, .any, .any, .any, .any, .any, .any, .any, .any, .any, .any, .any, .any, .any, .any, .any, .any, .any, .any, .any, .any, .any, .any, .any, .any, .any, .any, .any, .any, .any, .any, .any, .any, .any, .any, .any, .any, .any, .any, .any, .any, .any, .any, .any, .any, .any, .any, .any, .any, .any, .any, .any, .any, .any, .any, .any, .any, .any, .any, .any, .any, .any, .any, .any, .any, .any, .any, .any, .any, .any, .any, .any, .any, .any, .any, .any, .any, .any, .any, .any, .any, .any, .any], [.ex false [.c (.sc (.int .u32 x155)), .c (.sc (.int .u32 x156)), .row 32 (.int .u32) x157] 27, .ex false [.c (.sc (.int .u32 t509.1)), .c (.sc (.int .u32 t509.2.1)), .row 32 (.int .u32) t509.2.2.1] 27], 0⟩))))))) ∧ ((!t515) = false → (True) ∧ ((!(Option.isNone t509.2.2.2)) = false ∧ True) ∧ ((!(Option.isNone t509.2.2.2)) = false ∧ True) ∧ ((!(Option.isNone t509.2.2.2)) = false ∧ True) ∧ ((!(Option.isNone t509.2.2.2)) = false ∧ Fun cfg 11 [.one (.sc (.int .u32 x156)), .one (.sc (.int .i64 (IntKind.wrap .i64 ((1 : Int) + (IntKind.wrap .i64 ((Int.tmod (IntKind.wrap .u64 ((List.getD a0 (Int.toNat x158) ((0 : Int), ((0 : Int), (0 : Int)))).2.1)) (31 : Int))))))))] [] (sigset_Has.R t511) [] ∧ True) ∧ ((!(Option.isNone t509.2.2.2)) = false ∧ True) ∧ (t511 = true ∧ True) ∧ (t511 = true ∧ True) ∧ (t511 = true ∧ True) ∧ (t511 = true ∧ Fun cfg 11 [.one (.sc (.int .u32 t509.1)), .one (.sc (.int .i64 (IntKind.wrap .i64 ((1 : Int) + (IntKind.wrap .i64 ((Int.tmod (IntKind.wrap .u64 ((List.getD a0 (Int.toNat x158) ((0 : Int), ((0 : Int), (0 : Int)))).2.1)) (31 : Int))))))))] [] (sigset_Has.R t513) [] ∧ True) ∧ (t511 = true ∧ True) ∧ ((!(Option.isNone t509.2.2.2)) = false ∧ t511 = true) ∧ ((!(Option.isNone t509.2.2.2)) = false) ∧ ((!t513) = false ∧ True) ∧ ((!t513) = false ∧ True) ∧ ((!t513) = false ∧ True) ∧ ((!t513) = false ∧ Fun cfg 11 [.one (.sc (.int .u32 x156)), .one (.sc (.int .i64 (IntKind.wrap .i64 ((1 : Int) + (IntKind.wrap .i64 ((Int.tmod (IntKind.wrap .u64 ((List.getD a0 (Int.toNat x158) ((0 : Int), ((0 : Int), (0 : Int)))).2.1)) (31 : Int))))))))] [] (sigset_Has.R t515) [] ∧ True) ∧ ((!t513) = false ∧ True) ∧ ((!t513) = false ∧ True) ∧ ((!t515) = false) ∧ ((!t515) = false) ∧ ((!t515) = false) ∧ ((!t515) = false) ∧ ((!t515) = false) ∧ ((!t513) = false ∧ (!t515) = false) ∧ ((!t513) = false ∧ True) ∧ (false = false) ∧ (false = false) ∧ (false = false) ∧ (false = false) ∧ (false = false) ∧ (false = false) ∧ (false = false) ∧ (false = false) ∧ (false = false) ∧ ((!t513) = false ∧ false = false) ∧ ((!t513) = false) ∧ (false = false ∧ (True ∧ (((True) ∧ (True) ∧ True) ∧ halterlaw25_SigLaws.j2_Q x155 x156 x157 x158 a0 r .normal ⟨[.v (.one (.fs (.pair (.int .i64) (.pair (.int .i64) (.int .u32))) a0 false)), .any, .any, .v (.one (.ptr 0 ⟨0, 0, 0, 0⟩)), .v (.one (.sc (.int .i64 x158))), .v (.one (.sc (.int .i64 (IntKind.wrap .i64 ((1 : Int) + (IntKind.wrap .i64 ((Int.tmod (IntKind.wrap .u64 ((List.getD a0 (Int.toNat x158) ((0 : Int), ((0 : Int), (0 : Int)))).2.1)) (31 : Int))))))))), .v (.one (.ptr 1 ⟨0, 0, 0, 0⟩)), .v (.one (.err t509.2.2.2)), .any, .any, .any, .any, .any, .any, .any, .any, .any, .any, .any, .any, .any, .any, .any, .any, .any, .any, .any, .any, .any, .any, .any, .any, .any, .any, .any, .any, .any, .any, .any, .any, .any, .any, .any, .any, .any, .any, .any, .any, .any, .any, .any, .any, .any, .any, .any, .any, .any, .any, .any, .any, .any, .any, .any, .any, .any, .any, .any, .any, .any, .any, .any, .any, .any, .any, .any, .any, .any, .any, .any, .any, .any, .any, .any, .any, .any, .any, .any, .any, .any, .any, .any, .any, .any, .any, .any, .any, .any, .any, .any, .any, .any, .any, .any, .any, .any, .any, .any, .any, .any, .any, .any, .any, .any, .any, .any, .any, .any, .any, .any, .any, .any, .any, .any, .any, .any, .any, .any, .any, .any, .any, .any, .any, .any, .any, .any, .any, .any, .any, .any, .any, .any, .any, .any, .any, .any, .any, .any, .any, .any, .any, .any, .any, .any, .any, .any, .any, .any, .any, .any, .any, .any, .any, .any, .any, .any, .any, .any, .any, .any, .any, .any, .any, .any, .any, .any, .any, .any, .any, .any, .any, .any], [.ex false [.c (.sc (.int .u32 x155)), .c (.sc (.int .u32 x156)), .row 32 (.int .u32) x157] 27, .ex false [.c (.sc (.int .u32 t509.1)), .c (.sc (.int .u32 t509.2.1)), .row 32 (.int .u32) t509.2.2.1] 27], 0⟩)))))))))) ∧ (t511 = false → (∃ t522 : Bool, (((!t522) = true → (∃ t524 : Bool, (((!t524) = true → (∃ t526 : Bool, (∃ t527 : Int, (True) ∧ ((!(Option.isNone t509.2.2.2)) = false ∧ True) ∧ ((!(Option.isNone t509.2.2.2)) = false ∧ True) ∧ ((!(Option.isNone t509.2.2.2)) = false ∧ True) ∧ ((!(Option.isNone t509.2.2.2)) = false ∧ Fun cfg 11 [.one (.sc (.int .u32 x156)), .one (.sc (.int .i64 (IntKind.wrap .i64 ((1 : Int) + (IntKind.wrap .i64 ((Int.tmod (IntKind.wrap .u64 ((List.getD a0 (Int.toNat x158) ((0 : Int), ((0 : Int), (0 : Int)))).2.1)) (31 : Int))))))))] [] (sigset_Has.R t511) [] ∧ True) ∧ ((!(Option.isNone t509.2.2.2)) = false ∧ True) ∧ (t511 = false) ∧ (t511 = false) ∧ (t511 = false) ∧ (t511 = false) ∧ (t511 = false) ∧ ((!(Option.isNone t509.2.2.2)) = false ∧ t511 = false) ∧ ((!(Option.isNone t509.2.2.2)) = false) ∧ (false = false ∧ True) ∧ (false = false ∧ True) ∧ (false = false ∧ True) ∧ (false = false ∧ Fun cfg 11 [.one (.sc (.int .u32 x156)), .one (.sc (.int .i64 (IntKind.wrap .i64 ((1 : Int) + (IntKind.wrap .i64 ((Int.tmod (IntKind.wrap .u64 ((List.getD a0 (Int.toNat x158) ((0 : Int), ((0 : Int), (0 : Int)))).2.1)) (31 : Int))))))))] [] (sigset_Has.R t522) [] ∧ True) ∧ (false = false ∧ True) ∧ (false = false ∧ True) ∧ ((!t522) = true ∧ True) ∧ ((!t522) = true ∧ True) ∧ ((!t522) = true ∧ True) ∧ ((!t522) = true ∧ Fun cfg 11 [.one (.sc (.int .u32 x155)), .one (.sc (.int .i64 (IntKind.wrap .i64 ((1 : Int) + (IntKind.wrap .i64 ((Int.tmod (IntKind.wrap .u64 ((List.getD a0 (Int.toNat x158) ((0 : Int), ((0 : Int), (0 : Int)))).2.1)) (31 : Int))))))))] [] (sigset_Has.R t524) [] ∧ True) ∧ ((!t522) = true ∧ True) ∧ (false = false ∧ (!t522) = true) ∧ (false = false ∧ True) ∧ ((!t524) = true ∧ True) ∧ ((!t524) = true ∧ True) ∧ ((!t524) = true ∧ True) ∧ ((!t524) = true ∧ True) ∧ ((!t524) = true ∧ Fun cfg 11 [.one (.sc (.int .u32 t509.1)), .one (.sc (.int .i64 (IntKind.wrap .i64 ((1 : Int) + (IntKind.wrap .i64 ((Int.tmod (IntKind.wrap .u64 ((List.getD a0 (Int.toNat x158) ((0 : Int), ((0 : Int), (0 : Int)))).2.1)) (31 : Int))))))))] [] (sigset_Has.R t526) [] ∧ True) ∧ ((!t524) = true ∧ True) ∧ ((!t524) = true ∧ Fun cfg 13 [.agg [.c (.sc (.int .u32 x155)), .c (.sc (.int .u32 x156)), .row 32 (.int .u32) x157], .one (.sc (.int .i64 (IntKind.wrap .i64 ((1 : Int) + (IntKind.wrap .i64 ((Int.tmod (IntKind.wrap .u64 ((List.getD a0 (Int.toNat x158) ((0 : Int), ((0 : Int), (0 : Int)))).2.1)) (31 : Int))))))))] [] (sig_What.R t527) [] ∧ True) ∧ ((!t524) = true ∧ True) ∧ ((!t524) = true ∧ True) ∧ (false = false ∧ (!t524) = true) ∧ (false = false) ∧ (((!(t526 == (t527 != (0 : Int)))) = true → (True ∧ (((True) ∧ (True) ∧ True) ∧ halterlaw25_SigLaws.j2_Q x155 x156 x157 x158 a0 r .ret ⟨[.any, .any, .v (.one (.sc (.bool false))), .any, .any, .any, .any, .any, .any, .any, .any, .any, .any, .any, .any, .any, .any, .any, .any, .any, .any, .any, .any, .any, .any, .any, .any, .any, .any, .any, .any, .any, .any, .any, .any, .any, .any, .any, .any, .any, .any, .any, .any, .any, .any, .any, .any, .any, .any, .any, .any, .any, .any, .any, .any, .any, .any, .any, .any, .any, .any, .any, .any, .any, .any, .any, .any, .any, .any, .any, .any, .any, .any, .any, .any, .any, .any, .any, .any, .any, .any, .any, .any, .any, .any, .any, .any, .any, .any, .any, .any, .any, .any, .any, .any, .any, .any, .any, .any, .any, .any, .any, .any, .any, .any, .any, .any, .any, .any, .any, .any, .any, .any, .any, .any, .any, .any, .any, .any, .any, .any, .any, .any, .any, .any, .any, .any, .any, .any, .any, .any, .any, .any, .any, .any, .any, .any, .any, .any, .any, .any, .any, .any, .any, .any, .any, .any, .any, .any, .any, .any, .any, .any, .any, .any, .any, .any, .any, .any, .any, .any, .any, .any, .any, .any, .any, .any, .any, .any, .any, .any, .any, .any, .any, .any, .any, .any, .any, .any, .any, .any], [.ex false [.c (.sc (.int .u32 x155)), .c (.sc (.int .u32 x156)), .row 32 (.int .u32) x157] 27], 0⟩))) ∧ ((!(t526 == (t527 != (0 : Int)))) = false → (True ∧ (((True) ∧ (True) ∧ True) ∧ halterlaw25_SigLaws.j2_Q x155 x156 x157 x158 a0 r .normal ⟨[.v (.one (.fs (.pair (.int .i64) (.pair (.int .i64) (.int .u32))) a0 false)), .any, .any, .v (.one (.ptr 0 ⟨0, 0, 0, 0⟩)), .v (.one (.sc (.int .i64 x158))), .v (.one (.sc (.int .i64 (IntKind.wrap .i64 ((1 : Int) + (IntKind.wrap .i64 ((Int.tmod (IntKind.wrap .u64 ((List.getD a0 (Int.toNat x158) ((0 : Int), ((0 : Int), (0 : Int)))).2.1)) (31 : Int))))))))), .v (.one (.ptr 1 ⟨0, 0, 0, 0⟩)), .v (.one (.err t509.2.2.2)), .any, .any, .any, .any, .any, .any, .any, .any, .any, .any, .any, .any, .any, .any, .any, .any, .any, .any, .any, .any, .any, .any, .any, .any, .any, .any, .any, .any, .any, .any, .any, .any, .any, .any, .any, .any, .any, .any, .any, .any, .any, .any, .any, .any, .any, .any, .any, .any, .any, .any, .any, .any, .any, .any, .any, .any, .any, .any, .any, .any, .any, .any, .any, .any, .any, .any, .any, .any, .any, .any, .any, .any, .any, .any, .any, .any, .any, .any, .any, .any, .any, .any, .any, .any, .any, .any, .any, .any, .any, .any, .any, .any, .any, .any, .any, .any, .any, .any, .any, .any, .any, .any, .any, .any, .any, .any, .any, .any, .any, .any, .any, .any, .any, .any, .any, .any, .any, .any, .any, .any, .any, .any, .any, .any, .any, .any, .any, .any, .any, .any, .any, .any, .any, .any, .any, .any, .any, .any, .any, .any, .any, .any, .any, .any, .any, .any, .any, .any, .any, .any, .any, .any, .any, .any, .any, .any, .any, .any, .any, .any, .any, .any, .any, .any, .any, .any, .any, .any, .any, .any, .any, .any, .any], [.ex false [.c (.sc (.int .u32 x155)), .c (.sc (.int .u32 x156)), .row 32 (.int .u32) x157] 27, .ex false [.c (.sc (.int .u32 t509.1)), .c (.sc (.int .u32 t509.2.1)), .row 32 (.int .u32) t509.2.2.1] 27], 0⟩))))))) ∧ ((!t524) = false → (True) ∧ ((!(Option.isNone t509.2.2.2)) = false ∧ True) ∧ ((!(Option.isNone t509.2.2.2)) = false ∧ True) ∧ ((!(Option.isNone t509.2.2.2)) = false ∧ True) ∧ ((!(Option.isNone t509.2.2.2)) = false ∧ Fun cfg 11 [.one (.sc (.int .u32 x156)), .one (.sc (.int .i64 (IntKind.wrap .i64 ((1 : Int) + (IntKind.wrap .i64 ((Int.tmod (IntKind.wrap .u64 ((List.getD a0 (Int.toNat x158) ((0 : Int), ((0 : Int), (0 : Int)))).2.1)) (31 : Int))))))))] [] (sigset_Has.R t511) [] ∧ True) ∧ ((!(Option.isNone t509.2.2.2)) = false ∧ True) ∧ (t511 = false) ∧ (t511 = false) ∧ (t511 = false) ∧ (t511 = false) ∧ (t511 = false) ∧ ((!(Option.isNone t509.2.2.2)) = false ∧ t511 = false) ∧ ((!(Option.isNone t509.2.2.2)) = false) ∧ (false = false ∧ True) ∧ (false = false ∧ True) ∧ (false = false ∧ True) ∧ (false = false ∧ Fun cfg 11 [.one (.sc (.int .u32 x156)), .one (.sc (.int .i64 (IntKind.wrap .i64 ((1 : Int) + (IntKind.wrap .i64 ((Int.tmod (IntKind.wrap .u64 ((List.getD a0 (Int.toNat x158) ((0 : Int), ((0 : Int), (0 : Int)))).2.1)) (31 : Int))))))))] [] (sigset_Has.R t522) [] ∧ True) ∧ (false = false ∧ True) ∧ (false = false ∧ True) ∧ ((!t522) = true ∧ True) ∧ ((!t522) = true ∧ True) ∧ ((!t522) = true ∧ True) ∧ ((!t522) = true ∧ Fun cfg 11 [.one (.sc (.int .u32 x155)), .one (.sc (.int .i64 (IntKind.wrap .i64 ((1 : Int) + (IntKind.wrap .i64 ((Int.tmod (IntKind.wrap .u64 ((List.getD a0 (Int.toNat x158) ((0 : Int), ((0 : Int), (0 : Int)))).2.1)) (31 : Int))))))))] [] (sigset_Has.R t524) [] ∧ True) ∧ ((!t522) = true ∧ True) ∧ (false = false ∧ (!t522) = true) ∧ (false = false ∧ True) ∧ ((!t524) = false) ∧ ((!t524) = false) ∧ ((!t524) = false) ∧ ((!t524) = false) ∧ ((!t524) = false) ∧ ((!t524) = false) ∧ ((!t524) = false) ∧ ((!t524) = false) ∧ ((!t524) = false) ∧ (false = false ∧ (!t524) = false) ∧ (false = false) ∧ (false = false ∧ (True ∧ (((True) ∧ (True) ∧ True) ∧ halterlaw25_SigLaws.j2_Q x155 x156 x157 x158 a0 r .normal ⟨[.v (.one (.fs (.pair (.int .i64) (.pair (.int .i64) (.int .u32))) a0 false)), .any, .any, .v (.one (.ptr 0 ⟨0, 0, 0, 0⟩)), .v (.one (.sc (.int .i64 x158))), .v (.one (.sc (.int .i64 (IntKind.wrap .i64 ((1 : Int) + (IntKind.wrap .i64 ((Int.tmod (IntKind.wrap .u64 ((List.getD a0 (Int.toNat x158) ((0 : Int), ((0 : Int), (0 : Int)))).2.1)) (31 : Int))))))))), .v (.one (.ptr 1 ⟨0, 0, 0, 0⟩)), .v (.one (.err t509.2.2.2)), .any, .any, .any, .any, .any, .any, .any, .any, .any, .any, .any, .any, .any, .any, .any, .any, .any, .any, .any, .any, .any, .any, .any, .any, .any, .any, .any, .any, .any, .any, .any, .any, .any, .any, .any, .any, .any, .any, .any, .any, .any, .any, .any, .any, .any, .any, .any, .any, .any, .any, .any, .any, .any, .any, .any, .any, .any, .any, .any, .any, .any, .any, .any, .any, .any, .any, .any, .any, .any, .any, .any, .any, .any, .any, .any, .any, .any, .any, .any, .any, .any, .any, .any, .any, .any, .any, .any, .any, .any, .any, .any, .any, .any, .any, .any, .any, .any, .any, .any, .any, .any, .any, .any, .any, .any, .any, .any, .any, .any, .any, .any, .any, .any, .any, .any, .any, .any, .any, .any, .any, .any, .any, .any, .any, .any, .any, .any, .any, .any, .any, .any, .any, .any, .any, .any, .any, .any, .any, .any, .any, .any, .any, .any, .any, .any, .any, .any, .any, .any, .any, .any, .any, .any, .any, .any, .any, .any, .any, .any, .any, .any, .any, .any, .any, .any, .any, .any, .any, .any, .any, .any, .any, .any], [.ex false [.c (.sc (.int .u32 x155)), .c (.sc (.int .u32 x156)), .row 32 (.int .u32) x157] 27, .ex false [.c (.sc (.int .u32 t509.1)), .c (.sc (.int .u32 t509.2.1)), .row 32 (.int .u32) t509.2.2.1] 27], 0⟩))))))) ∧ ((!t522) = false → (True) ∧ ((!(Option.isNone t509.2.2.2)) = false ∧ True) ∧ ((!(Option.isNone t509.2.2.2)) = false ∧ True) ∧ ((!(Option.isNone t509.2.2.2)) = false ∧ True) ∧ ((!(Option.isNone t509.2.2.2)) = false ∧ Fun cfg 11 [.one (.sc (.int .u32 x156)), .one (.sc (.int .i64 (IntKind.wrap .i64 ((1 : Int) + (IntKind.wrap .i64 ((Int.tmod (IntKind.wrap .u64 ((List.getD a0 (Int.toNat x158) ((0 : Int), ((0 : Int), (0 : Int)))).2.1)) (31 : Int))))))))] [] (sigset_Has.R t511) [] ∧ True) ∧ ((!(Option.isNone t509.2.2.2)) = false ∧ True) ∧ (t511 = false) ∧ (t511 = false) ∧ (t511 = false) ∧ (t511 = false) ∧ (t511 = false) ∧ ((!(Option.isNone t509.2.2.2)) = false ∧ t511 = false) ∧ ((!(Option.isNone t509.2.2.2)) = false) ∧ (false = false ∧ True) ∧ (false = false ∧ True) ∧ (false = false ∧ True) ∧ (false = false ∧ Fun cfg 11 [.one (.sc (.int .u32 x156)), .one (.sc (.int .i64 (IntKind.wrap .i64 ((1 : Int) + (IntKind.wrap .i64 ((Int.tmod (IntKind.wrap .u64 ((List.getD a0 (Int.toNat x158) ((0 : Int), ((0 : Int), (0 : Int)))).2.1)) (31 : Int))))))))] [] (sigset_Has.R t522) [] ∧ True) ∧ (false = false ∧ True) ∧ (false = false ∧ True) ∧ ((!t522) = false) ∧ ((!t522) = false) ∧ ((!t522) = false) ∧ ((!t522) = false) ∧ ((!t522) = false) ∧ (false = false ∧ (!t522) = false) ∧ (false = false ∧ True) ∧ (false = false) ∧ (false = false) ∧ (false = false) ∧ (false = false) ∧ (false = false) ∧ (false = false) ∧ (false = false) ∧ (false = false) ∧ (false = false) ∧ (false = false ∧ false = false) ∧ (false = false) ∧ (false = false ∧ (True ∧ (((True) ∧ (True) ∧ True) ∧ halterlaw25_SigLaws.j2_Q x155 x156 x157 x158 a0 r .normal ⟨[.v (.one (.fs (.pair (.int .i64) (.pair (.int .i64) (.int .u32))) a0 false)), .any, .any, .v (.one (.ptr 0 ⟨0, 0, 0, 0⟩)), .v (.one (.sc (.int .i64 x158))), .v (.one (.sc (.int .i64 (IntKind.wrap .i64 ((1 : Int) + (IntKind.wrap .i64 ((Int.tmod (IntKind.wrap .u64 ((List.getD a0 (Int.toNat x158) ((0 : Int), ((0 : Int), (0 : Int)))).2.1)) (31 : Int))))))))), .v (.one (.ptr 1 ⟨0, 0, 0, 0⟩)), .v (.one (.err t509.2.2.2)), .any, .any, .any, .any, .any, .any, .any, .any, .any, .any, .any, .any, .any, .any, .any, .any, .any, .any, .any, .any, .any, .any, .any, .any, .any, .any, .any, .any, .any, .any, .any, .any, .any, .any, .any, .any, .any, .any, .any, .any, .any, .any, .any, .any, .any, .any, .any, .any, .any, .any, .any, .any, .any, .any, .any, .any, .any, .any, .any, .any, .any, .any, .any, .any, .any, .any, .any, .any, .any, .any, .any, .any, .any, .any, .any, .any, .any, .any, .any, .any, .any, .any, .any, .any, .any, .any, .any, .any, .any, .any, .any, .any, .any, .any, .any, .any, .any, .any, .any, .any, .any, .any, .any, .any, .any, .any, .any, .any, .any, .any, .any, .any, .any, .any, .any, .any, .any, .any, .any, .any, .any, .any, .any, .any, .any, .any, .any, .any, .any, .any, .any, .any, .any, .any, .any, .any, .any, .any, .any, .any, .any, .any, .any, .any, .any, .any, .any, .any, .any, .any, .any, .any, .any, .any, .any, .any, .any, .any, .any, .any, .any, .any, .any, .any, .any, .any, .any, .any, .any, .any, .any, .any, .any], [.ex false [.c (.sc (.int .u32 x155)), .c (.sc (.int .u32 x156)), .row 32 (.int .u32) x157] 27, .ex false [.c (.sc (.int .u32 t509.1)), .c (.sc (.int .u32 t509.2.1)), .row 32 (.int .u32) t509.2.2.1] 27], 0⟩))))))))))))))))))) (by kernel_rfl) ?_)
  refine ⟨trivial, ?_⟩
  refine ⟨fun b499 => ?_, fun b499 => ?_⟩
  · rw [if_pos (beq_t b499)] at h
    obtain ⟨g500, h⟩ := of_guard h
    obtain ⟨t501, ht501, h⟩ := of_bind h
    refine ⟨t501, ?_⟩
    refine ⟨g500, trivial, trivial, ⟨sig_Act.fun_ ht501, trivial⟩, trivial, ?_⟩
    obtain rfl := Option.some.inj h
    exact ⟨⟨trivial, trivial, trivial⟩, rfl, rfl⟩
  · rw [if_neg (beq_f b499)] at h
    refine ⟨trivial, ?_⟩
    refine ⟨fun b502 => ?_, fun b502 => ?_⟩
    · rw [if_pos (beq_t b502)] at h
      obtain ⟨g503, h⟩ := of_guard h
      obtain ⟨g504, h⟩ := of_guard h
      obtain ⟨t505, ht505, h⟩ := of_bind h
      refine ⟨t505, ?_⟩
      refine ⟨g503, g504, trivial, trivial, trivial, (by decide), trivial, trivial, ⟨sig_Mask.fun_ ht505, trivial⟩, trivial, ?_⟩
      obtain rfl := Option.some.inj h
      exact ⟨⟨trivial, trivial, trivial⟩, rfl, rfl⟩
    · rw [if_neg (beq_f b502)] at h
      refine ⟨trivial, ?_⟩
      refine ⟨fun b506 => ?_, fun b506 => ?_⟩
      · rw [if_pos (beq_t b506)] at h
        obtain ⟨t507, ht507, h⟩ := of_bind h
        refine ⟨t507, ?_⟩
        obtain ⟨t508, ht508, h⟩ := of_bind h
        refine ⟨t508, ?_⟩
        refine ⟨trivial, trivial, ⟨sig_Next.fun_ ht507, trivial⟩, ⟨sig_Take.fun_ ht508, trivial⟩, trivial, ?_⟩
        obtain rfl := Option.some.inj h
        exact ⟨⟨trivial, trivial, trivial⟩, rfl, rfl⟩
      · rw [if_neg (beq_f b506)] at h
        refine ⟨trivial, ?_⟩
        obtain ⟨t509, ht509, h⟩ := of_bind h
        refine ⟨t509, ⟨sig_Post.fun_ ht509, trivial⟩, ?_⟩
        refine ⟨trivial, ?_⟩
        refine ⟨fun b510 => ?_, fun b510 => ?_⟩
        · rw [if_pos (none_f (not_t b510))] at h
          refine ⟨trivial, b510, b510, b510, b510, b510, trivial, trivial, trivial, trivial, trivial, b510, b510, rfl, rfl, rfl, rfl, rfl, rfl, trivial, trivial, trivial, trivial, trivial, rfl, rfl, trivial, trivial, trivial, trivial, trivial, trivial, trivial, trivial, trivial, rfl, rfl, ?_⟩
          refine ⟨rfl, ?_⟩
          refine ⟨trivial, ?_⟩
          obtain rfl := Option.some.inj h
          exact ⟨⟨trivial, trivial, trivial⟩, rfl, rfl⟩
        · rw [if_neg (not_not_intro (none_t (not_f b510)))] at h
          obtain ⟨t511, ht511, h⟩ := of_bind h
          refine ⟨t511, ?_⟩
          refine ⟨fun b512 => ?_, fun b512 => ?_⟩
          · rw [if_pos b512] at h
            obtain ⟨t513, ht513, h⟩ := of_bind h
            refine ⟨t513, ?_⟩
            refine ⟨fun b514 => ?_, fun b514 => ?_⟩
            · rw [if_pos (ff (not_t b514))] at h
              refine ⟨trivial, ⟨b510, trivial⟩, ⟨b510, trivial⟩, ⟨b510, trivial⟩, ⟨b510, ⟨sigset_Has.fun_ ht511, trivial⟩⟩, ⟨b510, trivial⟩, ⟨b512, trivial⟩, ⟨b512, trivial⟩, ⟨b512, trivial⟩, ⟨b512, ⟨sigset_Has.fun_ ht513, trivial⟩⟩, ⟨b512, trivial⟩, ⟨b510, b512⟩, b510, b514, b514, b514, b514, b514, b514, trivial, trivial, trivial, trivial, trivial, b514, b514, trivial, trivial, trivial, trivial, trivial, trivial, trivial, trivial, trivial, b514, b514, ?_⟩
              refine ⟨rfl, ?_⟩
              refine ⟨trivial, ?_⟩
              obtain rfl := Option.some.inj h
              exact ⟨⟨trivial, trivial, trivial⟩, rfl, rfl⟩
            · rw [if_neg (not_not_intro (not_f b514))] at h
              obtain ⟨t515, ht515, h⟩ := of_bind h
              refine ⟨t515, ?_⟩
              refine ⟨fun b516 => ?_, fun b516 => ?_⟩
              · rw [if_pos (ff (not_t b516))] at h
                obtain ⟨t517, ht517, h⟩ := of_bind h
                refine ⟨t517, ?_⟩
                refine ⟨fun b518 => ?_, fun b518 => ?_⟩
                · rw [if_pos (ff (not_t b518))] at h
                  obtain ⟨t519, ht519, h⟩ := of_bind h
                  refine ⟨t519, ?_⟩
                  obtain ⟨t520, ht520, h⟩ := of_bind h
                  refine ⟨t520, ?_⟩
                  refine ⟨trivial, ⟨b510, trivial⟩, ⟨b510, trivial⟩, ⟨b510, trivial⟩, ⟨b510, ⟨sigset_Has.fun_ ht511, trivial⟩⟩, ⟨b510, trivial⟩, ⟨b512, trivial⟩, ⟨b512, trivial⟩, ⟨b512, trivial⟩, ⟨b512, ⟨sigset_Has.fun_ ht513, trivial⟩⟩, ⟨b512, trivial⟩, ⟨b510, b512⟩, b510, ⟨b514, trivial⟩, ⟨b514, trivial⟩, ⟨b514, trivial⟩, ⟨b514, ⟨sigset_Has.fun_ ht515, trivial⟩⟩, ⟨b514, trivial⟩, ⟨b514, trivial⟩, ⟨b516, trivial⟩, ⟨b516, trivial⟩, ⟨b516, trivial⟩, ⟨b516, ⟨sigset_Has.fun_ ht517, trivial⟩⟩, ⟨b516, trivial⟩, ⟨b514, b516⟩, ⟨b514, trivial⟩, ⟨b518, trivial⟩, ⟨b518, trivial⟩, ⟨b518, trivial⟩, ⟨b518, trivial⟩, ⟨b518, ⟨sigset_Has.fun_ ht519, trivial⟩⟩, ⟨b518, trivial⟩, ⟨b518, ⟨sig_What.fun_ ht520, trivial⟩⟩, ⟨b518, trivial⟩, ⟨b518, trivial⟩, ⟨b514, b518⟩, b514, ?_⟩
                  refine ⟨fun b521 => ?_, fun b521 => ?_⟩
                  · rw [if_pos (bb_f (not_t b521))] at h
                    refine ⟨trivial, ?_⟩
                    obtain rfl := Option.some.inj h
                    exact ⟨⟨trivial, trivial, trivial⟩, rfl, rfl⟩
                  · rw [if_neg (not_not_intro (bb_t (not_f b521)))] at h
                    refine ⟨trivial, ?_⟩
                    obtain rfl := Option.some.inj h
                    exact ⟨⟨trivial, trivial, trivial⟩, rfl, rfl⟩
                · rw [if_neg (not_not_intro (not_f b518))] at h
                  refine ⟨trivial, ⟨b510, trivial⟩, ⟨b510, trivial⟩, ⟨b510, trivial⟩, ⟨b510, ⟨sigset_Has.fun_ ht511, trivial⟩⟩, ⟨b510, trivial⟩, ⟨b512, trivial⟩, ⟨b512, trivial⟩, ⟨b512, trivial⟩, ⟨b512, ⟨sigset_Has.fun_ ht513, trivial⟩⟩, ⟨b512, trivial⟩, ⟨b510, b512⟩, b510, ⟨b514, trivial⟩, ⟨b514, trivial⟩, ⟨b514, trivial⟩, ⟨b514, ⟨sigset_Has.fun_ ht515, trivial⟩⟩, ⟨b514, trivial⟩, ⟨b514, trivial⟩, ⟨b516, trivial⟩, ⟨b516, trivial⟩, ⟨b516, trivial⟩, ⟨b516, ⟨sigset_Has.fun_ ht517, trivial⟩⟩, ⟨b516, trivial⟩, ⟨b514, b516⟩, ⟨b514, trivial⟩, b518, b518, b518, b518, b518, b518, b518, b518, b518, ⟨b514, b518⟩, b514, ?_⟩
                  refine ⟨rfl, ?_⟩
                  refine ⟨trivial, ?_⟩
                  obtain rfl := Option.some.inj h
                  exact ⟨⟨trivial, trivial, trivial⟩, rfl, rfl⟩
              · rw [if_neg (not_not_intro (not_f b516))] at h
                refine ⟨trivial, ⟨b510, trivial⟩, ⟨b510, trivial⟩, ⟨b510, trivial⟩, ⟨b510, ⟨sigset_Has.fun_ ht511, trivial⟩⟩, ⟨b510, trivial⟩, ⟨b512, trivial⟩, ⟨b512, trivial⟩, ⟨b512, trivial⟩, ⟨b512, ⟨sigset_Has.fun_ ht513, trivial⟩⟩, ⟨b512, trivial⟩, ⟨b510, b512⟩, b510, ⟨b514, trivial⟩, ⟨b514, trivial⟩, ⟨b514, trivial⟩, ⟨b514, ⟨sigset_Has.fun_ ht515, trivial⟩⟩, ⟨b514, trivial⟩, ⟨b514, trivial⟩, b516, b516, b516, b516, b516, ⟨b514, b516⟩, ⟨b514, trivial⟩, rfl, rfl, rfl, rfl, rfl, rfl, rfl, rfl, rfl, ⟨b514, rfl⟩, b514, ?_⟩
                refine ⟨rfl, ?_⟩
                refine ⟨trivial, ?_⟩
                obtain rfl := Option.some.inj h
                exact ⟨⟨trivial, trivial, trivial⟩, rfl, rfl⟩
          · rw [if_neg (ff b512)] at h
            obtain ⟨t522, ht522, h⟩ := of_bind h
            refine ⟨t522, ?_⟩
            refine ⟨fun b523 => ?_, fun b523 => ?_⟩
            · rw [if_pos (ff (not_t b523))] at h
              obtain ⟨t524, ht524, h⟩ := of_bind h
              refine ⟨t524, ?_⟩
              refine ⟨fun b525 => ?_, fun b525 => ?_⟩
              · rw [if_pos (ff (not_t b525))] at h
                obtain ⟨t526, ht526, h⟩ := of_bind h
                refine ⟨t526, ?_⟩
                obtain ⟨t527, ht527, h⟩ := of_bind h
                refine ⟨t527, ?_⟩
                refine ⟨trivial, ⟨b510, trivial⟩, ⟨b510, trivial⟩, ⟨b510, trivial⟩, ⟨b510, ⟨sigset_Has.fun_ ht511, trivial⟩⟩, ⟨b510, trivial⟩, b512, b512, b512, b512, b512, ⟨b510, b512⟩, b510, ⟨rfl, trivial⟩, ⟨rfl, trivial⟩, ⟨rfl, trivial⟩, ⟨rfl, ⟨sigset_Has.fun_ ht522, trivial⟩⟩, ⟨rfl, trivial⟩, ⟨rfl, trivial⟩, ⟨b523, trivial⟩, ⟨b523, trivial⟩, ⟨b523, trivial⟩, ⟨b523, ⟨sigset_Has.fun_ ht524, trivial⟩⟩, ⟨b523, trivial⟩, ⟨rfl, b523⟩, ⟨rfl, trivial⟩, ⟨b525, trivial⟩, ⟨b525, trivial⟩, ⟨b525, trivial⟩, ⟨b525, trivial⟩, ⟨b525, ⟨sigset_Has.fun_ ht526, trivial⟩⟩, ⟨b525, trivial⟩, ⟨b525, ⟨sig_What.fun_ ht527, trivial⟩⟩, ⟨b525, trivial⟩, ⟨b525, trivial⟩, ⟨rfl, b525⟩, rfl, ?_⟩
                refine ⟨fun b528 => ?_, fun b528 => ?_⟩
                · rw [if_pos (bb_f (not_t b528))] at h
                  refine ⟨trivial, ?_⟩
                  obtain rfl := Option.some.inj h
                  exact ⟨⟨trivial, trivial, trivial⟩, rfl, rfl⟩
                · rw [if_neg (not_not_intro (bb_t (not_f b528)))] at h
                  refine ⟨trivial, ?_⟩
                  obtain rfl := Option.some.inj h
                  exact ⟨⟨trivial, trivial, trivial⟩, rfl, rfl⟩
              · rw [if_neg (not_not_intro (not_f b525))] at h
                refine ⟨trivial, ⟨b510, trivial⟩, ⟨b510, trivial⟩, ⟨b510, trivial⟩, ⟨b510, ⟨sigset_Has.fun_ ht511, trivial⟩⟩, ⟨b510, trivial⟩, b512, b512, b512, b512, b512, ⟨b510, b512⟩, b510, ⟨rfl, trivial⟩, ⟨rfl, trivial⟩, ⟨rfl, trivial⟩, ⟨rfl, ⟨sigset_Has.fun_ ht522, trivial⟩⟩, ⟨rfl, trivial⟩, ⟨rfl, trivial⟩, ⟨b523, trivial⟩, ⟨b523, trivial⟩, ⟨b523, trivial⟩, ⟨b523, ⟨sigset_Has.fun_ ht524, trivial⟩⟩, ⟨b523, trivial⟩, ⟨rfl, b523⟩, ⟨rfl, trivial⟩, b525, b525, b525, b525, b525, b525, b525, b525, b525, ⟨rfl, b525⟩, rfl, ?_⟩
                refine ⟨rfl, ?_⟩
                refine ⟨trivial, ?_⟩
                obtain rfl := Option.some.inj h
                exact ⟨⟨trivial, trivial, trivial⟩, rfl, rfl⟩
            · rw [if_neg (not_not_intro (not_f b523))] at h
              refine ⟨trivial, ⟨b510, trivial⟩, ⟨b510, trivial⟩, ⟨b510, trivial⟩, ⟨b510, ⟨sigset_Has.fun_ ht511, trivial⟩⟩, ⟨b510, trivial⟩, b512, b512, b512, b512, b512, ⟨b510, b512⟩, b510, ⟨rfl, trivial⟩, ⟨rfl, trivial⟩, ⟨rfl, trivial⟩, ⟨rfl, ⟨sigset_Has.fun_ ht522, trivial⟩⟩, ⟨rfl, trivial⟩, ⟨rfl, trivial⟩, b523, b523, b523, b523, b523, ⟨rfl, b523⟩, ⟨rfl, trivial⟩, rfl, rfl, rfl, rfl, rfl, rfl, rfl, rfl, rfl, ⟨rfl, rfl⟩, rfl, ?_⟩
              refine ⟨rfl, ?_⟩
              refine ⟨trivial, ?_⟩
              obtain rfl := Option.some.inj h
              exact ⟨⟨trivial, trivial, trivial⟩, rfl, rfl⟩
def halterlaw25_SigLaws.j1 (x155 : Int) (x156 : Int) (x157 : List Int) (x158 : Int) (a0 : (List (Int × (Int × Int)))) : Option ((Int × Int × (List Int)) ⊕ (Int × Int × (List Int))) :=
  if 0 ≤ x158 ∧ x158 < (((List.length a0) : Nat) : Int) then
    if 0 ≤ x158 ∧ x158 < (((List.length a0) : Nat) : Int) then
      (halterlaw25_SigLaws.j2 x155 x156 x157 x158 a0).bind fun t498 =>
      match t498 with
      | .inl t533 =>
        if t533.2.2.2 = none then
          (sig_Next.f t533.1 t533.2.1 t533.2.2.1).bind fun t539 =>
          (sig_Check.f t533.1 t533.2.1 t533.2.2.1).bind fun t540 =>
          if ¬ (t540 = none) then
            some (.inr (t533.1, t533.2.1, t533.2.2.1))
          else
            (sigset_Has.f t533.2.1 (9 : Int)).bind fun t542 =>
            if t542 = true then
              some (.inr (t533.1, t533.2.1, t533.2.2.1))
            else
              (sigset_Has.f t533.1 (9 : Int)).bind fun t544 =>
              if t544 = true then
                if ¬ t539 = (9 : Int) then
                  some (.inr (t533.1, t533.2.1, t533.2.2.1))
                else
                  if ¬ t539 = (0 : Int) then
                    (sigset_Has.f t533.1 t539).bind fun t548 =>
                    if ¬ (t548 = true) then
                      some (.inr (t533.1, t533.2.1, t533.2.2.1))
                    else
                      (sigset_Has.f t533.2.1 t539).bind fun t550 =>
                      if t550 = true then
                        some (.inr (t533.1, t533.2.1, t533.2.2.1))
                      else
                        if t539 = (0 : Int) then
                          (sigset_Count.f (bits .andNot .u32 t533.1 t533.2.1)).bind fun t553 =>
                          if ¬ t553 = (0 : Int) then
                            some (.inr (t533.1, t533.2.1, t533.2.2.1))
                          else
                            some (.inl (t533.1, t533.2.1, t533.2.2.1))
                        else
                          some (.inl (t533.1, t533.2.1, t533.2.2.1))
                  else
                    if t539 = (0 : Int) then
                      (sigset_Count.f (bits .andNot .u32 t533.1 t533.2.1)).bind fun t556 =>
                      if ¬ t556 = (0 : Int) then
                        some (.inr (t533.1, t533.2.1, t533.2.2.1))
                      else
                        some (.inl (t533.1, t533.2.1, t533.2.2.1))
                    else
                      some (.inl (t533.1, t533.2.1, t533.2.2.1))
              else
                if ¬ t539 = (0 : Int) then
                  (sigset_Has.f t533.1 t539).bind fun t559 =>
                  if ¬ (t559 = true) then
                    some (.inr (t533.1, t533.2.1, t533.2.2.1))
                  else
                    (sigset_Has.f t533.2.1 t539).bind fun t561 =>
                    if t561 = true then
                      some (.inr (t533.1, t533.2.1, t533.2.2.1))
                    else
                      if t539 = (0 : Int) then
                        (sigset_Count.f (bits .andNot .u32 t533.1 t533.2.1)).bind fun t564 =>
                        if ¬ t564 = (0 : Int) then
                          some (.inr (t533.1, t533.2.1, t533.2.2.1))
                        else
                          some (.inl (t533.1, t533.2.1, t533.2.2.1))
                      else
                        some (.inl (t533.1, t533.2.1, t533.2.2.1))
                else
                  if t539 = (0 : Int) then
                    (sigset_Count.f (bits .andNot .u32 t533.1 t533.2.1)).bind fun t567 =>
                    if ¬ t567 = (0 : Int) then
                      some (.inr (t533.1, t533.2.1, t533.2.2.1))
                    else
                      some (.inl (t533.1, t533.2.1, t533.2.2.1))
                  else
                    some (.inl (t533.1, t533.2.1, t533.2.2.1))
        else
          if ¬ (IntKind.wrap .i64 ((1 : Int) + (IntKind.wrap .i64 ((Int.tmod (IntKind.wrap .u64 ((List.getD a0 (Int.toNat x158) ((0 : Int), ((0 : Int), (0 : Int)))).2.1)) (31 : Int)))))) = (9 : Int) then
            if ¬ (IntKind.wrap .i64 ((1 : Int) + (IntKind.wrap .i64 ((Int.tmod (IntKind.wrap .u64 ((List.getD a0 (Int.toNat x158) ((0 : Int), ((0 : Int), (0 : Int)))).2.1)) (31 : Int)))))) = (19 : Int) then
              some (.inr (x155, x156, x157))
            else
              (sig_Next.f x155 x156 x157).bind fun t571 =>
              (sig_Check.f x155 x156 x157).bind fun t572 =>
              if ¬ (t572 = none) then
                some (.inr (x155, x156, x157))
              else
                (sigset_Has.f x156 (9 : Int)).bind fun t574 =>
                if t574 = true then
                  some (.inr (x155, x156, x157))
                else
                  (sigset_Has.f x155 (9 : Int)).bind fun t576 =>
                  if t576 = true then
                    if ¬ t571 = (9 : Int) then
                      some (.inr (x155, x156, x157))
                    else
                      if ¬ t571 = (0 : Int) then
                        (sigset_Has.f x155 t571).bind fun t580 =>
                        if ¬ (t580 = true) then
                          some (.inr (x155, x156, x157))
                        else
                          (sigset_Has.f x156 t571).bind fun t582 =>
                          if t582 = true then
                            some (.inr (x155, x156, x157))
                          else
                            if t571 = (0 : Int) then
                              (sigset_Count.f (bits .andNot .u32 x155 x156)).bind fun t585 =>
                              if ¬ t585 = (0 : Int) then
                                some (.inr (x155, x156, x157))
                              else
                                some (.inl (x155, x156, x157))
                            else
                              some (.inl (x155, x156, x157))
                      else
                        if t571 = (0 : Int) then
                          (sigset_Count.f (bits .andNot .u32 x155 x156)).bind fun t588 =>
                          if ¬ t588 = (0 : Int) then
                            some (.inr (x155, x156, x157))
                          else
                            some (.inl (x155, x156, x157))
                        else
                          some (.inl (x155, x156, x157))
                  else
                    if ¬ t571 = (0 : Int) then
                      (sigset_Has.f x155 t571).bind fun t591 =>
                      if ¬ (t591 = true) then
                        some (.inr (x155, x156, x157))
                      else
                        (sigset_Has.f x156 t571).bind fun t593 =>
                        if t593 = true then
                          some (.inr (x155, x156, x157))
                        else
                          if t571 = (0 : Int) then
                            (sigset_Count.f (bits .andNot .u32 x155 x156)).bind fun t596 =>
                            if ¬ t596 = (0 : Int) then
                              some (.inr (x155, x156, x157))
                            else
                              some (.inl (x155, x156, x157))
                          else
                            some (.inl (x155, x156, x157))
                    else
                      if t571 = (0 : Int) then
                        (sigset_Count.f (bits .andNot .u32 x155 x156)).bind fun t599 =>
                        if ¬ t599 = (0 : Int) then
                          some (.inr (x155, x156, x157))
                        else
                          some (.inl (x155, x156, x157))
                      else
                        some (.inl (x155, x156, x157))
          else
            (sig_Next.f x155 x156 x157).bind fun t601 =>
            (sig_Check.f x155 x156 x157).bind fun t602 =>
            if ¬ (t602 = none) then
              some (.inr (x155, x156, x157))
            else
              (sigset_Has.f x156 (9 : Int)).bind fun t604 =>
              if t604 = true then
                some (.inr (x155, x156, x157))
              else
                (sigset_Has.f x155 (9 : Int)).bind fun t606 =>
                if t606 = true then
                  if ¬ t601 = (9 : Int) then
                    some (.inr (x155, x156, x157))
                  else
                    if ¬ t601 = (0 : Int) then
                      (sigset_Has.f x155 t601).bind fun t610 =>
                      if ¬ (t610 = true) then
                        some (.inr (x155, x156, x157))
                      else
                        (sigset_Has.f x156 t601).bind fun t612 =>
                        if t612 = true then
                          some (.inr (x155, x156, x157))
                        else
                          if t601 = (0 : Int) then
                            (sigset_Count.f (bits .andNot .u32 x155 x156)).bind fun t615 =>
                            if ¬ t615 = (0 : Int) then
                              some (.inr (x155, x156, x157))
                            else
                              some (.inl (x155, x156, x157))
                          else
                            some (.inl (x155, x156, x157))
                    else
                      if t601 = (0 : Int) then
                        (sigset_Count.f (bits .andNot .u32 x155 x156)).bind fun t618 =>
                        if ¬ t618 = (0 : Int) then
                          some (.inr (x155, x156, x157))
                        else
                          some (.inl (x155, x156, x157))
                      else
                        some (.inl (x155, x156, x157))
                else
                  if ¬ t601 = (0 : Int) then
                    (sigset_Has.f x155 t601).bind fun t621 =>
                    if ¬ (t621 = true) then
                      some (.inr (x155, x156, x157))
                    else
                      (sigset_Has.f x156 t601).bind fun t623 =>
                      if t623 = true then
                        some (.inr (x155, x156, x157))
                      else
                        if t601 = (0 : Int) then
                          (sigset_Count.f (bits .andNot .u32 x155 x156)).bind fun t626 =>
                          if ¬ t626 = (0 : Int) then
                            some (.inr (x155, x156, x157))
                          else
                            some (.inl (x155, x156, x157))
                        else
                          some (.inl (x155, x156, x157))
                  else
                    if t601 = (0 : Int) then
                      (sigset_Count.f (bits .andNot .u32 x155 x156)).bind fun t629 =>
                      if ¬ t629 = (0 : Int) then
                        some (.inr (x155, x156, x157))
                      else
                        some (.inl (x155, x156, x157))
                    else
                      some (.inl (x155, x156, x157))
      | .inr t631 =>
        some (.inr (x155, x156, x157))
    else none
  else none
def halterlaw25_SigLaws.j1_S (x155 : Int) (x156 : Int) (x157 : List Int) (x158 : Int) (a0 : (List (Int × (Int × Int)))) : St := ⟨[.v (.one (.fs (.pair (.int .i64) (.pair (.int .i64) (.int .u32))) a0 false)), .any, .any, .v (.one (.ptr 0 ⟨0, 0, 0, 0⟩)), .v (.one (.sc (.int .i64 x158))), .any, .any, .any, .any, .any, .any, .any, .any, .any, .any, .any, .any, .any, .any, .any, .any, .any, .any, .any, .any, .any, .any, .any, .any, .any, .any, .any, .any, .any, .any, .any, .any, .any, .any, .any, .any, .any, .any, .any, .any, .any, .any, .any, .any, .any, .any, .any, .any, .any, .any, .any, .any, .any, .any, .any, .any, .any, .any, .any, .any, .any, .any, .any, .any, .any, .any, .any, .any, .any, .any, .any, .any, .any, .any, .any, .any, .any, .any, .any, .any, .any, .any, .any, .any, .any, .any, .any, .any, .any, .any, .any, .any, .any, .any, .any, .any, .any, .any, .any, .any, .any, .any, .any, .any, .any, .any, .any, .any, .any, .any, .any, .any, .any, .any, .any, .any, .any, .any, .any, .any, .any, .any, .any, .any, .any, .any, .any, .any, .any, .any, .any, .any, .any, .any, .any, .any, .any, .any, .any, .any, .any, .any, .any, .any, .any, .any, .any, .any, .any, .any, .any, .any, .any, .any, .any, .any, .any, .any, .any, .any, .any, .any, .any, .any, .any, .any, .any, .any, .any, .any, .any, .any, .any, .any, .any, .any], [.ex false [.c (.sc (.int .u32 x155)), .c (.sc (.int .u32 x156)), .row 32 (.int .u32) x157] 27], 0⟩
def halterlaw25_SigLaws.j1_Q (x155 : Int) (x156 : Int) (x157 : List Int) (x158 : Int) (a0 : (List (Int × (Int × Int)))) : (Int × Int × (List Int)) ⊕ (Int × Int × (List Int)) → Exit → St → Prop
  | .inl t => fun e s => e = .normal ∧ s = ⟨[.v (.one (.fs (.pair (.int .i64) (.pair (.int .i64) (.int .u32))) a0 false)), .any, .any, .v (.one (.ptr 0 ⟨0, 0, 0, 0⟩)), .v (.one (.sc (.int .i64 x158))), .any, .any, .any, .any, .any, .any, .any, .any, .any, .any, .any, .any, .any, .any, .any, .any, .any, .any, .any, .any, .any, .any, .any, .any, .any, .any, .any, .any, .any, .any, .any, .any, .any, .any, .any, .any, .any, .any, .any, .any, .any, .any, .any, .any, .any, .any, .any, .any, .any, .any, .any, .any, .any, .any, .any, .any, .any, .any, .any, .any, .any, .any, .any, .any, .any, .any, .any, .any, .any, .any, .any, .any, .any, .any, .any, .any, .any, .any, .any, .any, .any, .any, .any, .any, .any, .any, .any, .any, .any, .any, .any, .any, .any, .any, .any, .any, .any, .any, .any, .any, .any, .any, .any, .any, .any, .any, .any, .any, .any, .any, .any, .any, .any, .any, .any, .any, .any, .any, .any, .any, .any, .any, .any, .any, .any, .any, .any, .any, .any, .any, .any, .any, .any, .any, .any, .any, .any, .any, .any, .any, .any, .any, .any, .any, .any, .any, .any, .any, .any, .any, .any, .any, .any, .any, .any, .any, .any, .any, .any, .any, .any, .any, .any, .any, .any, .any, .any, .any, .any, .any, .any, .any, .any, .any, .any, .any], [.ex false [.c (.sc (.int .u32 t.1)), .c (.sc (.int .u32 t.2.1)), .row 32 (.int .u32) t.2.2] 27], 0⟩
  | .inr t => fun e s => e = .ret ∧ s = ⟨[.any, .any, .v (.one (.sc (.bool false))), .any, .any, .any, .any, .any, .any, .any, .any, .any, .any, .any, .any, .any, .any, .any, .any, .any, .any, .any, .any, .any, .any, .any, .any, .any, .any, .any, .any, .any, .any, .any, .any, .any, .any, .any, .any, .any, .any, .any, .any, .any, .any, .any, .any, .any, .any, .any, .any, .any, .any, .any, .any, .any, .any, .any, .any, .any, .any, .any, .any, .any, .any, .any, .any, .any, .any, .any, .any, .any, .any, .any, .any, .any, .any, .any, .any, .any, .any, .any, .any, .any, .any, .any, .any, .any, .any, .any, .any, .any, .any, .any, .any, .any, .any, .any, .any, .any, .any, .any, .any, .any, .any, .any, .any, .any, .any, .any, .any, .any, .any, .any, .any, .any, .any, .any, .any, .any, .any, .any, .any, .any, .any, .any, .any, .any, .any, .any, .any, .any, .any, .any, .any, .any, .any, .any, .any, .any, .any, .any, .any, .any, .any, .any, .any, .any, .any, .any, .any, .any, .any, .any, .any, .any, .any, .any, .any, .any, .any, .any, .any, .any, .any, .any, .any, .any, .any, .any, .any, .any, .any, .any, .any, .any, .any, .any, .any, .any, .any], [.ex false [.c (.sc (.int .u32 t.1)), .c (.sc (.int .u32 t.2.1)), .row 32 (.int .u32) t.2.2] 27], 0⟩
end Go.Proofs.YtmpdijmcoboiiaaDoorGSigLaws
