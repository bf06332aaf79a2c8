/- Printed by gen.py: what functions of the program compute, in plain Lean, and that they do. -/
import Derived.Test.YtblnjkpgngpbbaaDoorE15
import Derived.Test.YtblnjkpgngpbbaaDoorN
set_option linter.unusedVariables false
set_option maxRecDepth 100000
set_option maxHeartbeats 4000000
namespace Go.Proofs.YtblnjkpgngpbbaaDoorGStatusForms
open Go Go.Proofs.YtblnjkpgngpbbaaDoorE
def tiL : List (Nat × TI) := [
  (2, ⟨1, 8, false, .int .i64, [.c (.sc (.int .i64 (0 : Int)))], some (.int .i64)⟩),
  (3, ⟨1, 8, false, .int .i64, [.c (.sc (.int .i64 (0 : Int)))], some (.int .i64)⟩),
  (4, ⟨1, 1, false, .bool, [.c (.sc (.bool false))], some .bool⟩),
  (5, ⟨1, 1, false, .int .u8, [.c (.sc (.int .u8 (0 : Int)))], some (.int .u8)⟩),
  (9, ⟨1, 16, false, .str, [.c (.sc (.string ByteArray.empty))], some .str⟩),
  (22, ⟨1, 4, false, .int .u32, [.c (.sc (.int .u32 (0 : Int)))], some (.int .u32)⟩),
  (24, ⟨1, 16, false, .iface, [.c (.err none)], none⟩),
  (44, ⟨1, 8, false, .int .i64, [.c (.sc (.int .i64 (0 : Int)))], some (.int .i64)⟩),
  (47, ⟨4, 64, true, (.array 4 9), [.row 4 .str (List.replicate 4 ByteArray.empty)], some (.arr 4 .str)⟩),
  (78, ⟨24, 24, true, (.array 24 5), [.row 24 (.int .u8) (List.replicate 24 (0 : Int))], some (.arr 24 (.int .u8))⟩),
  (79, ⟨1, 8, false, .int .u64, [.c (.sc (.int .u64 (0 : Int)))], some (.int .u64)⟩),
  (82, ⟨1, 24, false, (.slice 5), [.c (.sc (.slice none 0 0))], some (.sl (.int .u8))⟩),
  (87, ⟨20, 160, true, (.array 20 79), [.row 20 (.int .u64) (List.replicate 20 (0 : Int))], some (.arr 20 (.int .u64))⟩)]
def tab1 : List Int := [1, 10, 100, 1000, 10000, 100000, 1000000, 10000000, 100000000, 1000000000, 10000000000, 100000000000, 1000000000000, 10000000000000, 100000000000000, 1000000000000000, 10000000000000000, 100000000000000000, 1000000000000000000, 10000000000000000000]
def tab2 : List Int := [0, 1, 28, 2, 29, 14, 24, 3, 30, 22, 20, 15, 25, 17, 4, 8, 31, 27, 13, 23, 21, 19, 16, 7, 26, 12, 18, 6, 11, 5, 10, 9]
def tab3 : List Int := [0, 1, 56, 2, 57, 49, 28, 3, 61, 58, 42, 50, 38, 29, 17, 4, 62, 47, 59, 36, 45, 43, 51, 22, 53, 39, 33, 30, 24, 18, 12, 5, 63, 55, 48, 27, 60, 41, 37, 16, 46, 35, 44, 21, 52, 32, 23, 11, 54, 26, 40, 15, 34, 20, 31, 10, 25, 14, 19, 9, 13, 8, 7, 6]
def tabs : List (Nat × IntKind × List Int) := [(1, .u64, tab1), (2, .u8, tab2), (3, .u8, tab3)]
noncomputable def cfg : Cfg := ⟨Tryd.prog, 44, [(⟨0, 0, none⟩, .iface 65 (.agg #[.pointer (some ⟨4, 24, none⟩)]))] ++ tabs.flatMap tabG, tiL, [], tabs⟩
theorem cfg_ok : COk cfg := by
  refine ⟨fun p hp => ?_, by kernel_rfl, fun p hp => ?_, fun t ht => ?_, fun x hx y hy => List.mem_append_right _ (List.mem_flatMap.2 ⟨x, hx, hy⟩)⟩
  · simp only [cfg, tiL, List.mem_cons, List.not_mem_nil, or_false] at hp
    rcases hp with rfl | rfl | rfl | rfl | rfl | rfl | rfl | rfl | rfl | rfl | rfl | rfl | rfl <;> exact ⟨by kernel_rfl, by kernel_rfl, by kernel_rfl, by kernel_rfl, by kernel_rfl, by kernel_rfl⟩
  · simp only [cfg, tiL, List.mem_cons, List.not_mem_nil, or_false] at hp
    rcases hp with rfl | rfl | rfl | rfl | rfl | rfl | rfl | rfl | rfl | rfl | rfl | rfl | rfl <;> intro fs hfs bl hbl
    · cases hfs
    · cases hfs
    · cases hfs
    · cases hfs
    · cases hfs
    · cases hfs
    · cases hfs
    · cases hfs
    · cases hfs
    · cases hfs
    · cases hfs
    · cases hfs
    · cases hfs
  · cases ht
def fin : Scr → List Adj
  | .adj l _ => l
  | _ => []
/-! the error's number -/
def num.f (a0 : Option Int) : Option Int := some (a0.getD 0)
def num.R (r : Int) : Tm := .v (.one (.sc (.int .i64 r)))
theorem num.fun_ {a0 : Option Int} {r : Int} (h : num.f a0 = some r) : Fun cfg 11 [.one (.err a0)] [] (num.R r) [] := by
  refine Fun.of_below (f := 11) (fn := Tryd.f11) Tryd.func11 rfl (by kernel_rfl) (r := .int .i64 r) (fun X => ⟨⟨rfl, rfl⟩, rfl⟩) fun X vs hE hvs hG => ?_
  obtain ⟨v, us, rfl, hv, rfl⟩ := hvs
  have hv : v = errV X.E a0 := hv.1
  have he : errV cfg.E a0 = YtblnjkpgngpbbaaDoorN.errW a0 := by cases a0 <;> rfl
  rw [hv, hE, he]
  exact YtblnjkpgngpbbaaDoorN.num.calls a0 r X.w (hG _ (List.mem_append_left _ (List.mem_cons_self ..))) h
/-! halter/status.signal -/
def status_signal.f (a0 : Int) : Option Bool :=
  if a0 ≥ (1 : Int) then
    some (decide (a0 ≤ (31 : Int)))
  else
    some false
def status_signal.R (r : Bool) : Tm := .v (.one (.sc (.bool r)))
theorem status_signal.fun_ {a0 : Int} {r : Bool} (h : status_signal.f a0 = some r) : Fun cfg 13 [.one (.sc (.int .i64 a0))] [] (status_signal.R r) [] := by
  unfold status_signal.f at h
  refine fun_of_run cfg_ok (f := 13) (fn := Tryd.f13) Tryd.func13 rfl (by kernel_rfl) (rs := [.tmp 2]) rfl (nt := 9) rfl (l := fin) (k := (.br (.one true (.one true (.adj [] (.adj [] .nil)))) (.one false (.one false (.adj [] (.adj [] .nil)))))) (to_goal (q := (True) ∧ (((decide (a0 ≥ (1 : Int))) = true → ((decide (a0 ≥ (1 : Int))) = true ∧ (True) ∧ ((decide (a0 ≥ (1 : Int))) = true ∧ (True ∧ ((True) ∧ (True) ∧ (.v (.one (.sc (.bool (decide (a0 ≤ (31 : Int)))))) : Tm) = status_signal.R r ∧ ([] : List Box) = []))))) ∧ ((decide (a0 ≥ (1 : Int))) = false → ((decide (a0 ≥ (1 : Int))) = false ∧ ((decide (a0 ≥ (1 : Int))) = false ∧ (True ∧ ((True) ∧ (True) ∧ (.v (.one (.sc (.bool false))) : Tm) = status_signal.R r ∧ ([] : List Box) = []))))))) (by kernel_rfl) ?_)
  refine ⟨trivial, ?_⟩
  refine ⟨fun b1 => ?_, fun b1 => ?_⟩
  · rw [if_pos (of_decide_eq_true b1)] at h
    refine ⟨b1, ?_⟩
    refine ⟨trivial, ?_⟩
    refine ⟨b1, ?_⟩
    refine ⟨trivial, ?_⟩
    obtain rfl := Option.some.inj h
    exact ⟨trivial, trivial, rfl, rfl⟩
  · rw [if_neg (of_decide_eq_false b1)] at h
    refine ⟨b1, ?_⟩
    refine ⟨b1, ?_⟩
    refine ⟨trivial, ?_⟩
    obtain rfl := Option.some.inj h
    exact ⟨trivial, trivial, rfl, rfl⟩
/-! halter/status.Of -/
def status_Of.f (a0 : Int) (a1 : Int) : Option (Int × (Option Int)) :=
  if a0 = (0 : Int) then
    if a1 ≥ (0 : Int) then
      if a1 < (256 : Int) then
        some ((shl .u32 (IntKind.wrap .u32 (a1)) (8 : Int)), none)
      else
        if a0 = (1 : Int) then
          (status_signal.f a1).bind fun t5 =>
          if t5 = true then
            some ((IntKind.wrap .u32 (a1)), none)
          else
            if a0 = (2 : Int) then
              (status_signal.f a1).bind fun t8 =>
              if t8 = true then
                some ((bits .or .u32 (shl .u32 (IntKind.wrap .u32 (a1)) (8 : Int)) (127 : Int)), none)
              else
                if a0 = (3 : Int) then
                  (status_signal.f a1).bind fun t11 =>
                  if t11 = true then
                    some ((bits .or .u32 (shl .u32 (IntKind.wrap .u32 ((bits .or .i64 a1 (128 : Int)))) (8 : Int)) (127 : Int)), none)
                  else
                    some ((0 : Int), (some (22 : Int)))
                else
                  some ((0 : Int), (some (22 : Int)))
            else
              if a0 = (3 : Int) then
                (status_signal.f a1).bind fun t14 =>
                if t14 = true then
                  some ((bits .or .u32 (shl .u32 (IntKind.wrap .u32 ((bits .or .i64 a1 (128 : Int)))) (8 : Int)) (127 : Int)), none)
                else
                  some ((0 : Int), (some (22 : Int)))
              else
                some ((0 : Int), (some (22 : Int)))
        else
          if a0 = (2 : Int) then
            (status_signal.f a1).bind fun t17 =>
            if t17 = true then
              some ((bits .or .u32 (shl .u32 (IntKind.wrap .u32 (a1)) (8 : Int)) (127 : Int)), none)
            else
              if a0 = (3 : Int) then
                (status_signal.f a1).bind fun t20 =>
                if t20 = true then
                  some ((bits .or .u32 (shl .u32 (IntKind.wrap .u32 ((bits .or .i64 a1 (128 : Int)))) (8 : Int)) (127 : Int)), none)
                else
                  some ((0 : Int), (some (22 : Int)))
              else
                some ((0 : Int), (some (22 : Int)))
          else
            if a0 = (3 : Int) then
              (status_signal.f a1).bind fun t23 =>
              if t23 = true then
                some ((bits .or .u32 (shl .u32 (IntKind.wrap .u32 ((bits .or .i64 a1 (128 : Int)))) (8 : Int)) (127 : Int)), none)
              else
                some ((0 : Int), (some (22 : Int)))
            else
              some ((0 : Int), (some (22 : Int)))
    else
      if a0 = (1 : Int) then
        (status_signal.f a1).bind fun t26 =>
        if t26 = true then
          some ((IntKind.wrap .u32 (a1)), none)
        else
          if a0 = (2 : Int) then
            (status_signal.f a1).bind fun t29 =>
            if t29 = true then
              some ((bits .or .u32 (shl .u32 (IntKind.wrap .u32 (a1)) (8 : Int)) (127 : Int)), none)
            else
              if a0 = (3 : Int) then
                (status_signal.f a1).bind fun t32 =>
                if t32 = true then
                  some ((bits .or .u32 (shl .u32 (IntKind.wrap .u32 ((bits .or .i64 a1 (128 : Int)))) (8 : Int)) (127 : Int)), none)
                else
                  some ((0 : Int), (some (22 : Int)))
              else
                some ((0 : Int), (some (22 : Int)))
          else
            if a0 = (3 : Int) then
              (status_signal.f a1).bind fun t35 =>
              if t35 = true then
                some ((bits .or .u32 (shl .u32 (IntKind.wrap .u32 ((bits .or .i64 a1 (128 : Int)))) (8 : Int)) (127 : Int)), none)
              else
                some ((0 : Int), (some (22 : Int)))
            else
              some ((0 : Int), (some (22 : Int)))
      else
        if a0 = (2 : Int) then
          (status_signal.f a1).bind fun t38 =>
          if t38 = true then
            some ((bits .or .u32 (shl .u32 (IntKind.wrap .u32 (a1)) (8 : Int)) (127 : Int)), none)
          else
            if a0 = (3 : Int) then
              (status_signal.f a1).bind fun t41 =>
              if t41 = true then
                some ((bits .or .u32 (shl .u32 (IntKind.wrap .u32 ((bits .or .i64 a1 (128 : Int)))) (8 : Int)) (127 : Int)), none)
              else
                some ((0 : Int), (some (22 : Int)))
            else
              some ((0 : Int), (some (22 : Int)))
        else
          if a0 = (3 : Int) then
            (status_signal.f a1).bind fun t44 =>
            if t44 = true then
              some ((bits .or .u32 (shl .u32 (IntKind.wrap .u32 ((bits .or .i64 a1 (128 : Int)))) (8 : Int)) (127 : Int)), none)
            else
              some ((0 : Int), (some (22 : Int)))
          else
            some ((0 : Int), (some (22 : Int)))
  else
    if a0 = (1 : Int) then
      (status_signal.f a1).bind fun t47 =>
      if t47 = true then
        some ((IntKind.wrap .u32 (a1)), none)
      else
        if a0 = (2 : Int) then
          (status_signal.f a1).bind fun t50 =>
          if t50 = true then
            some ((bits .or .u32 (shl .u32 (IntKind.wrap .u32 (a1)) (8 : Int)) (127 : Int)), none)
          else
            if a0 = (3 : Int) then
              (status_signal.f a1).bind fun t53 =>
              if t53 = true then
                some ((bits .or .u32 (shl .u32 (IntKind.wrap .u32 ((bits .or .i64 a1 (128 : Int)))) (8 : Int)) (127 : Int)), none)
              else
                some ((0 : Int), (some (22 : Int)))
            else
              some ((0 : Int), (some (22 : Int)))
        else
          if a0 = (3 : Int) then
            (status_signal.f a1).bind fun t56 =>
            if t56 = true then
              some ((bits .or .u32 (shl .u32 (IntKind.wrap .u32 ((bits .or .i64 a1 (128 : Int)))) (8 : Int)) (127 : Int)), none)
            else
              some ((0 : Int), (some (22 : Int)))
          else
            some ((0 : Int), (some (22 : Int)))
    else
      if a0 = (2 : Int) then
        (status_signal.f a1).bind fun t59 =>
        if t59 = true then
          some ((bits .or .u32 (shl .u32 (IntKind.wrap .u32 (a1)) (8 : Int)) (127 : Int)), none)
        else
          if a0 = (3 : Int) then
            (status_signal.f a1).bind fun t62 =>
            if t62 = true then
              some ((bits .or .u32 (shl .u32 (IntKind.wrap .u32 ((bits .or .i64 a1 (128 : Int)))) (8 : Int)) (127 : Int)), none)
            else
              some ((0 : Int), (some (22 : Int)))
          else
            some ((0 : Int), (some (22 : Int)))
      else
        if a0 = (3 : Int) then
          (status_signal.f a1).bind fun t65 =>
          if t65 = true then
            some ((bits .or .u32 (shl .u32 (IntKind.wrap .u32 ((bits .or .i64 a1 (128 : Int)))) (8 : Int)) (127 : Int)), none)
          else
            some ((0 : Int), (some (22 : Int)))
        else
          some ((0 : Int), (some (22 : Int)))
def status_Of.R (r : Int × (Option Int)) : Tm := .tup [.one (.sc (.int .u32 r.1)), .one (.err r.2)]
theorem status_Of.fun_ {a0 : Int} {a1 : Int} {r : Int × (Option Int)} (h : status_Of.f a0 a1 = some r) : Fun cfg 5 [.one (.sc (.int .i64 a0)), .one (.sc (.int .i64 a1))] [] (status_Of.R r) [] := by
  unfold status_Of.f at h
  refine fun_of_run cfg_ok (f := 5) (fn := Tryd.f5) Tryd.func5 rfl (by kernel_rfl) (rs := [.tmp 4, .tmp 5]) rfl (nt := 53) rfl (l := fin) (k := (.br (.one true (.one true (.br (.one true (.one true (.br (.adj [] (.adj [] (.adj [] .nil))) (.br (.one true (.call true [] (Bool) (fun t5 => status_signal.R t5) (fun t5 => (.one true (.br (.adj [] (.adj [] (.adj [] .nil))) (.br (.one true (.call true [] (Bool) (fun t8 => status_signal.R t8) (fun t8 => (.one true (.br (.adj [] (.adj [] (.adj [] .nil))) (.br (.one true (.call true [] (Bool) (fun t11 => status_signal.R t11) (fun t11 => (.one true (.br (.adj [] (.adj [] (.adj [] .nil))) (.adj [] (.adj [] (.adj [] (.adj [] .nil))))))))) (.one false (.one false (.one false (.adj [] (.adj [] (.adj [] (.adj [] .nil))))))))))))) (.one false (.one false (.one false (.br (.one true (.call true [] (Bool) (fun t14 => status_signal.R t14) (fun t14 => (.one true (.br (.adj [] (.adj [] (.adj [] .nil))) (.adj [] (.adj [] (.adj [] (.adj [] .nil))))))))) (.one false (.one false (.one false (.adj [] (.adj [] (.adj [] (.adj [] .nil))))))))))))))))) (.one false (.one false (.one false (.br (.one true (.call true [] (Bool) (fun t17 => status_signal.R t17) (fun t17 => (.one true (.br (.adj [] (.adj [] (.adj [] .nil))) (.br (.one true (.call true [] (Bool) (fun t20 => status_signal.R t20) (fun t20 => (.one true (.br (.adj [] (.adj [] (.adj [] .nil))) (.adj [] (.adj [] (.adj [] (.adj [] .nil))))))))) (.one false (.one false (.one false (.adj [] (.adj [] (.adj [] (.adj [] .nil))))))))))))) (.one false (.one false (.one false (.br (.one true (.call true [] (Bool) (fun t23 => status_signal.R t23) (fun t23 => (.one true (.br (.adj [] (.adj [] (.adj [] .nil))) (.adj [] (.adj [] (.adj [] (.adj [] .nil))))))))) (.one false (.one false (.one false (.adj [] (.adj [] (.adj [] (.adj [] .nil))))))))))))))))))) (.one false (.one false (.one false (.br (.one true (.call true [] (Bool) (fun t26 => status_signal.R t26) (fun t26 => (.one true (.br (.adj [] (.adj [] (.adj [] .nil))) (.br (.one true (.call true [] (Bool) (fun t29 => status_signal.R t29) (fun t29 => (.one true (.br (.adj [] (.adj [] (.adj [] .nil))) (.br (.one true (.call true [] (Bool) (fun t32 => status_signal.R t32) (fun t32 => (.one true (.br (.adj [] (.adj [] (.adj [] .nil))) (.adj [] (.adj [] (.adj [] (.adj [] .nil))))))))) (.one false (.one false (.one false (.adj [] (.adj [] (.adj [] (.adj [] .nil))))))))))))) (.one false (.one false (.one false (.br (.one true (.call true [] (Bool) (fun t35 => status_signal.R t35) (fun t35 => (.one true (.br (.adj [] (.adj [] (.adj [] .nil))) (.adj [] (.adj [] (.adj [] (.adj [] .nil))))))))) (.one false (.one false (.one false (.adj [] (.adj [] (.adj [] (.adj [] .nil))))))))))))))))) (.one false (.one false (.one false (.br (.one true (.call true [] (Bool) (fun t38 => status_signal.R t38) (fun t38 => (.one true (.br (.adj [] (.adj [] (.adj [] .nil))) (.br (.one true (.call true [] (Bool) (fun t41 => status_signal.R t41) (fun t41 => (.one true (.br (.adj [] (.adj [] (.adj [] .nil))) (.adj [] (.adj [] (.adj [] (.adj [] .nil))))))))) (.one false (.one false (.one false (.adj [] (.adj [] (.adj [] (.adj [] .nil))))))))))))) (.one false (.one false (.one false (.br (.one true (.call true [] (Bool) (fun t44 => status_signal.R t44) (fun t44 => (.one true (.br (.adj [] (.adj [] (.adj [] .nil))) (.adj [] (.adj [] (.adj [] (.adj [] .nil))))))))) (.one false (.one false (.one false (.adj [] (.adj [] (.adj [] (.adj [] .nil)))))))))))))))))))))) (.one false (.one false (.one false (.one false (.one false (.one false (.br (.one true (.call true [] (Bool) (fun t47 => status_signal.R t47) (fun t47 => (.one true (.br (.adj [] (.adj [] (.adj [] .nil))) (.br (.one true (.call true [] (Bool) (fun t50 => status_signal.R t50) (fun t50 => (.one true (.br (.adj [] (.adj [] (.adj [] .nil))) (.br (.one true (.call true [] (Bool) (fun t53 => status_signal.R t53) (fun t53 => (.one true (.br (.adj [] (.adj [] (.adj [] .nil))) (.adj [] (.adj [] (.adj [] (.adj [] .nil))))))))) (.one false (.one false (.one false (.adj [] (.adj [] (.adj [] (.adj [] .nil))))))))))))) (.one false (.one false (.one false (.br (.one true (.call true [] (Bool) (fun t56 => status_signal.R t56) (fun t56 => (.one true (.br (.adj [] (.adj [] (.adj [] .nil))) (.adj [] (.adj [] (.adj [] (.adj [] .nil))))))))) (.one false (.one false (.one false (.adj [] (.adj [] (.adj [] (.adj [] .nil))))))))))))))))) (.one false (.one false (.one false (.br (.one true (.call true [] (Bool) (fun t59 => status_signal.R t59) (fun t59 => (.one true (.br (.adj [] (.adj [] (.adj [] .nil))) (.br (.one true (.call true [] (Bool) (fun t62 => status_signal.R t62) (fun t62 => (.one true (.br (.adj [] (.adj [] (.adj [] .nil))) (.adj [] (.adj [] (.adj [] (.adj [] .nil))))))))) (.one false (.one false (.one false (.adj [] (.adj [] (.adj [] (.adj [] .nil))))))))))))) (.one false (.one false (.one false (.br (.one true (.call true [] (Bool) (fun t65 => status_signal.R t65) (fun t65 => (.one true (.br (.adj [] (.adj [] (.adj [] .nil))) (.adj [] (.adj [] (.adj [] (.adj [] .nil))))))))) (.one false (.one false (.one false (.adj [] (.adj [] (.adj [] (.adj [] .nil)))))))))))))))))))))))) (to_goal (q := (True) ∧ (((a0 == (0 : Int)) = true → ((a0 == (0 : Int)) = true ∧ (True) ∧ ((a0 == (0 : Int)) = true ∧ (((decide (a1 ≥ (0 : Int))) = true → ((decide (a1 ≥ (0 : Int))) = true ∧ (True) ∧ ((decide (a1 ≥ (0 : Int))) = true ∧ (((decide (a1 < (256 : Int))) = true → (True ∧ (True) ∧ (0 ≤ (8 : Int)) ∧ (True ∧ ((True) ∧ (True) ∧ (.tup [.one (.sc (.int .u32 (shl .u32 (IntKind.wrap .u32 (a1)) (8 : Int)))), .one (.err none)] : Tm) = status_Of.R r ∧ ([] : List Box) = [])))) ∧ ((decide (a1 < (256 : Int))) = false → (True) ∧ (((a0 == (1 : Int)) = true → ((a0 == (1 : Int)) = true ∧ (∃ t5 : Bool, (Fun cfg 13 [.one (.sc (.int .i64 a1))] [] (status_signal.R t5) [] ∧ True) ∧ ((a0 == (1 : Int)) = true ∧ ((t5 = true → (True ∧ (True) ∧ (True ∧ ((True) ∧ (True) ∧ (.tup [.one (.sc (.int .u32 (IntKind.wrap .u32 (a1)))), .one (.err none)] : Tm) = status_Of.R r ∧ ([] : List Box) = [])))) ∧ (t5 = false → (True) ∧ (((a0 == (2 : Int)) = true → ((a0 == (2 : Int)) = true ∧ (∃ t8 : Bool, (Fun cfg 13 [.one (.sc (.int .i64 a1))] [] (status_signal.R t8) [] ∧ True) ∧ ((a0 == (2 : Int)) = true ∧ ((t8 = true → (True ∧ (True) ∧ (0 ≤ (8 : Int)) ∧ (True) ∧ (True ∧ ((True) ∧ (True) ∧ (.tup [.one (.sc (.int .u32 (bits .or .u32 (shl .u32 (IntKind.wrap .u32 (a1)) (8 : Int)) (127 : Int)))), .one (.err none)] : Tm) = status_Of.R r ∧ ([] : List Box) = [])))) ∧ (t8 = false → (True) ∧ (((a0 == (3 : Int)) = true → ((a0 == (3 : Int)) = true ∧ (∃ t11 : Bool, (Fun cfg 13 [.one (.sc (.int .i64 a1))] [] (status_signal.R t11) [] ∧ True) ∧ ((a0 == (3 : Int)) = true ∧ ((t11 = true → (True ∧ (True) ∧ (True) ∧ (0 ≤ (8 : Int)) ∧ (True) ∧ (True ∧ ((True) ∧ (True) ∧ (.tup [.one (.sc (.int .u32 (bits .or .u32 (shl .u32 (IntKind.wrap .u32 ((bits .or .i64 a1 (128 : Int)))) (8 : Int)) (127 : Int)))), .one (.err none)] : Tm) = status_Of.R r ∧ ([] : List Box) = [])))) ∧ (t11 = false → (True ∧ (True ∧ (True ∧ ((True) ∧ (True) ∧ (.tup [.one (.sc (.int .u32 (0 : Int))), .one (.err (some (22 : Int)))] : Tm) = status_Of.R r ∧ ([] : List Box) = [])))))))))) ∧ ((a0 == (3 : Int)) = false → ((a0 == (3 : Int)) = false ∧ ((a0 == (3 : Int)) = false ∧ (false = false ∧ (True ∧ (True ∧ (True ∧ ((True) ∧ (True) ∧ (.tup [.one (.sc (.int .u32 (0 : Int))), .one (.err (some (22 : Int)))] : Tm) = status_Of.R r ∧ ([] : List Box) = []))))))))))))))) ∧ ((a0 == (2 : Int)) = false → ((a0 == (2 : Int)) = false ∧ ((a0 == (2 : Int)) = false ∧ (false = false ∧ (True) ∧ (((a0 == (3 : Int)) = true → ((a0 == (3 : Int)) = true ∧ (∃ t14 : Bool, (Fun cfg 13 [.one (.sc (.int .i64 a1))] [] (status_signal.R t14) [] ∧ True) ∧ ((a0 == (3 : Int)) = true ∧ ((t14 = true → (True ∧ (True) ∧ (True) ∧ (0 ≤ (8 : Int)) ∧ (True) ∧ (True ∧ ((True) ∧ (True) ∧ (.tup [.one (.sc (.int .u32 (bits .or .u32 (shl .u32 (IntKind.wrap .u32 ((bits .or .i64 a1 (128 : Int)))) (8 : Int)) (127 : Int)))), .one (.err none)] : Tm) = status_Of.R r ∧ ([] : List Box) = [])))) ∧ (t14 = false → (True ∧ (True ∧ (True ∧ ((True) ∧ (True) ∧ (.tup [.one (.sc (.int .u32 (0 : Int))), .one (.err (some (22 : Int)))] : Tm) = status_Of.R r ∧ ([] : List Box) = [])))))))))) ∧ ((a0 == (3 : Int)) = false → ((a0 == (3 : Int)) = false ∧ ((a0 == (3 : Int)) = false ∧ (false = false ∧ (True ∧ (True ∧ (True ∧ ((True) ∧ (True) ∧ (.tup [.one (.sc (.int .u32 (0 : Int))), .one (.err (some (22 : Int)))] : Tm) = status_Of.R r ∧ ([] : List Box) = [])))))))))))))))))))) ∧ ((a0 == (1 : Int)) = false → ((a0 == (1 : Int)) = false ∧ ((a0 == (1 : Int)) = false ∧ (false = false ∧ (True) ∧ (((a0 == (2 : Int)) = true → ((a0 == (2 : Int)) = true ∧ (∃ t17 : Bool, (Fun cfg 13 [.one (.sc (.int .i64 a1))] [] (status_signal.R t17) [] ∧ True) ∧ ((a0 == (2 : Int)) = true ∧ ((t17 = true → (True ∧ (True) ∧ (0 ≤ (8 : Int)) ∧ (True) ∧ (True ∧ ((True) ∧ (True) ∧ (.tup [.one (.sc (.int .u32 (bits .or .u32 (shl .u32 (IntKind.wrap .u32 (a1)) (8 : Int)) (127 : Int)))), .one (.err none)] : Tm) = status_Of.R r ∧ ([] : List Box) = [])))) ∧ (t17 = false → (True) ∧ (((a0 == (3 : Int)) = true → ((a0 == (3 : Int)) = true ∧ (∃ t20 : Bool, (Fun cfg 13 [.one (.sc (.int .i64 a1))] [] (status_signal.R t20) [] ∧ True) ∧ ((a0 == (3 : Int)) = true ∧ ((t20 = true → (True ∧ (True) ∧ (True) ∧ (0 ≤ (8 : Int)) ∧ (True) ∧ (True ∧ ((True) ∧ (True) ∧ (.tup [.one (.sc (.int .u32 (bits .or .u32 (shl .u32 (IntKind.wrap .u32 ((bits .or .i64 a1 (128 : Int)))) (8 : Int)) (127 : Int)))), .one (.err none)] : Tm) = status_Of.R r ∧ ([] : List Box) = [])))) ∧ (t20 = false → (True ∧ (True ∧ (True ∧ ((True) ∧ (True) ∧ (.tup [.one (.sc (.int .u32 (0 : Int))), .one (.err (some (22 : Int)))] : Tm) = status_Of.R r ∧ ([] : List Box) = [])))))))))) ∧ ((a0 == (3 : Int)) = false → ((a0 == (3 : Int)) = false ∧ ((a0 == (3 : Int)) = false ∧ (false = false ∧ (True ∧ (True ∧ (True ∧ ((True) ∧ (True) ∧ (.tup [.one (.sc (.int .u32 (0 : Int))), .one (.err (some (22 : Int)))] : Tm) = status_Of.R r ∧ ([] : List Box) = []))))))))))))))) ∧ ((a0 == (2 : Int)) = false → ((a0 == (2 : Int)) = false ∧ ((a0 == (2 : Int)) = false ∧ (false = false ∧ (True) ∧ (((a0 == (3 : Int)) = true → ((a0 == (3 : Int)) = true ∧ (∃ t23 : Bool, (Fun cfg 13 [.one (.sc (.int .i64 a1))] [] (status_signal.R t23) [] ∧ True) ∧ ((a0 == (3 : Int)) = true ∧ ((t23 = true → (True ∧ (True) ∧ (True) ∧ (0 ≤ (8 : Int)) ∧ (True) ∧ (True ∧ ((True) ∧ (True) ∧ (.tup [.one (.sc (.int .u32 (bits .or .u32 (shl .u32 (IntKind.wrap .u32 ((bits .or .i64 a1 (128 : Int)))) (8 : Int)) (127 : Int)))), .one (.err none)] : Tm) = status_Of.R r ∧ ([] : List Box) = [])))) ∧ (t23 = false → (True ∧ (True ∧ (True ∧ ((True) ∧ (True) ∧ (.tup [.one (.sc (.int .u32 (0 : Int))), .one (.err (some (22 : Int)))] : Tm) = status_Of.R r ∧ ([] : List Box) = [])))))))))) ∧ ((a0 == (3 : Int)) = false → ((a0 == (3 : Int)) = false ∧ ((a0 == (3 : Int)) = false ∧ (false = false ∧ (True ∧ (True ∧ (True ∧ ((True) ∧ (True) ∧ (.tup [.one (.sc (.int .u32 (0 : Int))), .one (.err (some (22 : Int)))] : Tm) = status_Of.R r ∧ ([] : List Box) = [])))))))))))))))))))))))) ∧ ((decide (a1 ≥ (0 : Int))) = false → ((decide (a1 ≥ (0 : Int))) = false ∧ ((decide (a1 ≥ (0 : Int))) = false ∧ (false = false ∧ (True) ∧ (((a0 == (1 : Int)) = true → ((a0 == (1 : Int)) = true ∧ (∃ t26 : Bool, (Fun cfg 13 [.one (.sc (.int .i64 a1))] [] (status_signal.R t26) [] ∧ True) ∧ ((a0 == (1 : Int)) = true ∧ ((t26 = true → (True ∧ (True) ∧ (True ∧ ((True) ∧ (True) ∧ (.tup [.one (.sc (.int .u32 (IntKind.wrap .u32 (a1)))), .one (.err none)] : Tm) = status_Of.R r ∧ ([] : List Box) = [])))) ∧ (t26 = false → (True) ∧ (((a0 == (2 : Int)) = true → ((a0 == (2 : Int)) = true ∧ (∃ t29 : Bool, (Fun cfg 13 [.one (.sc (.int .i64 a1))] [] (status_signal.R t29) [] ∧ True) ∧ ((a0 == (2 : Int)) = true ∧ ((t29 = true → (True ∧ (True) ∧ (0 ≤ (8 : Int)) ∧ (True) ∧ (True ∧ ((True) ∧ (True) ∧ (.tup [.one (.sc (.int .u32 (bits .or .u32 (shl .u32 (IntKind.wrap .u32 (a1)) (8 : Int)) (127 : Int)))), .one (.err none)] : Tm) = status_Of.R r ∧ ([] : List Box) = [])))) ∧ (t29 = false → (True) ∧ (((a0 == (3 : Int)) = true → ((a0 == (3 : Int)) = true ∧ (∃ t32 : Bool, (Fun cfg 13 [.one (.sc (.int .i64 a1))] [] (status_signal.R t32) [] ∧ True) ∧ ((a0 == (3 : Int)) = true ∧ ((t32 = true → (True ∧ (True) ∧ (True) ∧ (0 ≤ (8 : Int)) ∧ (True) ∧ (True ∧ ((True) ∧ (True) ∧ (.tup [.one (.sc (.int .u32 (bits .or .u32 (shl .u32 (IntKind.wrap .u32 ((bits .or .i64 a1 (128 : Int)))) (8 : Int)) (127 : Int)))), .one (.err none)] : Tm) = status_Of.R r ∧ ([] : List Box) = [])))) ∧ (t32 = false → (True ∧ (True ∧ (True ∧ ((True) ∧ (True) ∧ (.tup [.one (.sc (.int .u32 (0 : Int))), .one (.err (some (22 : Int)))] : Tm) = status_Of.R r ∧ ([] : List Box) = [])))))))))) ∧ ((a0 == (3 : Int)) = false → ((a0 == (3 : Int)) = false ∧ ((a0 == (3 : Int)) = false ∧ (false = false ∧ (True ∧ (True ∧ (True ∧ ((True) ∧ (True) ∧ (.tup [.one (.sc (.int .u32 (0 : Int))), .one (.err (some (22 : Int)))] : Tm) = status_Of.R r ∧ ([] : List Box) = []))))))))))))))) ∧ ((a0 == (2 : Int)) = false → ((a0 == (2 : Int)) = false ∧ ((a0 == (2 : Int)) = false ∧ (false = false ∧ (True) ∧ (((a0 == (3 : Int)) = true → ((a0 == (3 : Int)) = true ∧ (∃ t35 : Bool, (Fun cfg 13 [.one (.sc (.int .i64 a1))] [] (status_signal.R t35) [] ∧ True) ∧ ((a0 == (3 : Int)) = true ∧ ((t35 = true → (True ∧ (True) ∧ (True) ∧ (0 ≤ (8 : Int)) ∧ (True) ∧ (True ∧ ((True) ∧ (True) ∧ (.tup [.one (.sc (.int .u32 (bits .or .u32 (shl .u32 (IntKind.wrap .u32 ((bits .or .i64 a1 (128 : Int)))) (8 : Int)) (127 : Int)))), .one (.err none)] : Tm) = status_Of.R r ∧ ([] : List Box) = [])))) ∧ (t35 = false → (True ∧ (True ∧ (True ∧ ((True) ∧ (True) ∧ (.tup [.one (.sc (.int .u32 (0 : Int))), .one (.err (some (22 : Int)))] : Tm) = status_Of.R r ∧ ([] : List Box) = [])))))))))) ∧ ((a0 == (3 : Int)) = false → ((a0 == (3 : Int)) = false ∧ ((a0 == (3 : Int)) = false ∧ (false = false ∧ (True ∧ (True ∧ (True ∧ ((True) ∧ (True) ∧ (.tup [.one (.sc (.int .u32 (0 : Int))), .one (.err (some (22 : Int)))] : Tm) = status_Of.R r ∧ ([] : List Box) = [])))))))))))))))))))) ∧ ((a0 == (1 : Int)) = false → ((a0 == (1 : Int)) = false ∧ ((a0 == (1 : Int)) = false ∧ (false = false ∧ (True) ∧ (((a0 == (2 : Int)) = true → ((a0 == (2 : Int)) = true ∧ (∃ t38 : Bool, (Fun cfg 13 [.one (.sc (.int .i64 a1))] [] (status_signal.R t38) [] ∧ True) ∧ ((a0 == (2 : Int)) = true ∧ ((t38 = true → (True ∧ (True) ∧ (0 ≤ (8 : Int)) ∧ (True) ∧ (True ∧ ((True) ∧ (True) ∧ (.tup [.one (.sc (.int .u32 (bits .or .u32 (shl .u32 (IntKind.wrap .u32 (a1)) (8 : Int)) (127 : Int)))), .one (.err none)] : Tm) = status_Of.R r ∧ ([] : List Box) = [])))) ∧ (t38 = false → (True) ∧ (((a0 == (3 : Int)) = true → ((a0 == (3 : Int)) = true ∧ (∃ t41 : Bool, (Fun cfg 13 [.one (.sc (.int .i64 a1))] [] (status_signal.R t41) [] ∧ True) ∧ ((a0 == (3 : Int)) = true ∧ ((t41 = true → (True ∧ (True) ∧ (True) ∧ (0 ≤ (8 : Int)) ∧ (True) ∧ (True ∧ ((True) ∧ (True) ∧ (.tup [.one (.sc (.int .u32 (bits .or .u32 (shl .u32 (IntKind.wrap .u32 ((bits .or .i64 a1 (128 : Int)))) (8 : Int)) (127 : Int)))), .one (.err none)] : Tm) = status_Of.R r ∧ ([] : List Box) = [])))) ∧ (t41 = false → (True ∧ (True ∧ (True ∧ ((True) ∧ (True) ∧ (.tup [.one (.sc (.int .u32 (0 : Int))), .one (.err (some (22 : Int)))] : Tm) = status_Of.R r ∧ ([] : List Box) = [])))))))))) ∧ ((a0 == (3 : Int)) = false → ((a0 == (3 : Int)) = false ∧ ((a0 == (3 : Int)) = false ∧ (false = false ∧ (True ∧ (True ∧ (True ∧ ((True) ∧ (True) ∧ (.tup [.one (.sc (.int .u32 (0 : Int))), .one (.err (some (22 : Int)))] : Tm) = status_Of.R r ∧ ([] : List Box) = []))))))))))))))) ∧ ((a0 == (2 : Int)) = false → ((a0 == (2 : Int)) = false ∧ ((a0 == (2 : Int)) = false ∧ (false = false ∧ (True) ∧ (((a0 == (3 : Int)) = true → ((a0 == (3 : Int)) = true ∧ (∃ t44 : Bool, (Fun cfg 13 [.one (.sc (.int .i64 a1))] [] (status_signal.R t44) [] ∧ True) ∧ ((a0 == (3 : Int)) = true ∧ ((t44 = true → (True ∧ (True) ∧ (True) ∧ (0 ≤ (8 : Int)) ∧ (True) ∧ (True ∧ ((True) ∧ (True) ∧ (.tup [.one (.sc (.int .u32 (bits .or .u32 (shl .u32 (IntKind.wrap .u32 ((bits .or .i64 a1 (128 : Int)))) (8 : Int)) (127 : Int)))), .one (.err none)] : Tm) = status_Of.R r ∧ ([] : List Box) = [])))) ∧ (t44 = false → (True ∧ (True ∧ (True ∧ ((True) ∧ (True) ∧ (.tup [.one (.sc (.int .u32 (0 : Int))), .one (.err (some (22 : Int)))] : Tm) = status_Of.R r ∧ ([] : List Box) = [])))))))))) ∧ ((a0 == (3 : Int)) = false → ((a0 == (3 : Int)) = false ∧ ((a0 == (3 : Int)) = false ∧ (false = false ∧ (True ∧ (True ∧ (True ∧ ((True) ∧ (True) ∧ (.tup [.one (.sc (.int .u32 (0 : Int))), .one (.err (some (22 : Int)))] : Tm) = status_Of.R r ∧ ([] : List Box) = []))))))))))))))))))))))))))) ∧ ((a0 == (0 : Int)) = false → ((a0 == (0 : Int)) = false ∧ ((a0 == (0 : Int)) = false ∧ (false = false ∧ (false = false ∧ (false = false ∧ (false = false ∧ (True) ∧ (((a0 == (1 : Int)) = true → ((a0 == (1 : Int)) = true ∧ (∃ t47 : Bool, (Fun cfg 13 [.one (.sc (.int .i64 a1))] [] (status_signal.R t47) [] ∧ True) ∧ ((a0 == (1 : Int)) = true ∧ ((t47 = true → (True ∧ (True) ∧ (True ∧ ((True) ∧ (True) ∧ (.tup [.one (.sc (.int .u32 (IntKind.wrap .u32 (a1)))), .one (.err none)] : Tm) = status_Of.R r ∧ ([] : List Box) = [])))) ∧ (t47 = false → (True) ∧ (((a0 == (2 : Int)) = true → ((a0 == (2 : Int)) = true ∧ (∃ t50 : Bool, (Fun cfg 13 [.one (.sc (.int .i64 a1))] [] (status_signal.R t50) [] ∧ True) ∧ ((a0 == (2 : Int)) = true ∧ ((t50 = true → (True ∧ (True) ∧ (0 ≤ (8 : Int)) ∧ (True) ∧ (True ∧ ((True) ∧ (True) ∧ (.tup [.one (.sc (.int .u32 (bits .or .u32 (shl .u32 (IntKind.wrap .u32 (a1)) (8 : Int)) (127 : Int)))), .one (.err none)] : Tm) = status_Of.R r ∧ ([] : List Box) = [])))) ∧ (t50 = false → (True) ∧ (((a0 == (3 : Int)) = true → ((a0 == (3 : Int)) = true ∧ (∃ t53 : Bool, (Fun cfg 13 [.one (.sc (.int .i64 a1))] [] (status_signal.R t53) [] ∧ True) ∧ ((a0 == (3 : Int)) = true ∧ ((t53 = true → (True ∧ (True) ∧ (True) ∧ (0 ≤ (8 : Int)) ∧ (True) ∧ (True ∧ ((True) ∧ (True) ∧ (.tup [.one (.sc (.int .u32 (bits .or .u32 (shl .u32 (IntKind.wrap .u32 ((bits .or .i64 a1 (128 : Int)))) (8 : Int)) (127 : Int)))), .one (.err none)] : Tm) = status_Of.R r ∧ ([] : List Box) = [])))) ∧ (t53 = false → (True ∧ (True ∧ (True ∧ ((True) ∧ (True) ∧ (.tup [.one (.sc (.int .u32 (0 : Int))), .one (.err (some (22 : Int)))] : Tm) = status_Of.R r ∧ ([] : List Box) = [])))))))))) ∧ ((a0 == (3 : Int)) = false → ((a0 == (3 : Int)) = false ∧ ((a0 == (3 : Int)) = false ∧ (false = false ∧ (True ∧ (True ∧ (True ∧ ((True) ∧ (True) ∧ (.tup [.one (.sc (.int .u32 (0 : Int))), .one (.err (some (22 : Int)))] : Tm) = status_Of.R r ∧ ([] : List Box) = []))))))))))))))) ∧ ((a0 == (2 : Int)) = false → ((a0 == (2 : Int)) = false ∧ ((a0 == (2 : Int)) = false ∧ (false = false ∧ (True) ∧ (((a0 == (3 : Int)) = true → ((a0 == (3 : Int)) = true ∧ (∃ t56 : Bool, (Fun cfg 13 [.one (.sc (.int .i64 a1))] [] (status_signal.R t56) [] ∧ True) ∧ ((a0 == (3 : Int)) = true ∧ ((t56 = true → (True ∧ (True) ∧ (True) ∧ (0 ≤ (8 : Int)) ∧ (True) ∧ (True ∧ ((True) ∧ (True) ∧ (.tup [.one (.sc (.int .u32 (bits .or .u32 (shl .u32 (IntKind.wrap .u32 ((bits .or .i64 a1 (128 : Int)))) (8 : Int)) (127 : Int)))), .one (.err none)] : Tm) = status_Of.R r ∧ ([] : List Box) = [])))) ∧ (t56 = false → (True ∧ (True ∧ (True ∧ ((True) ∧ (True) ∧ (.tup [.one (.sc (.int .u32 (0 : Int))), .one (.err (some (22 : Int)))] : Tm) = status_Of.R r ∧ ([] : List Box) = [])))))))))) ∧ ((a0 == (3 : Int)) = false → ((a0 == (3 : Int)) = false ∧ ((a0 == (3 : Int)) = false ∧ (false = false ∧ (True ∧ (True ∧ (True ∧ ((True) ∧ (True) ∧ (.tup [.one (.sc (.int .u32 (0 : Int))), .one (.err (some (22 : Int)))] : Tm) = status_Of.R r ∧ ([] : List Box) = [])))))))))))))))))))) ∧ ((a0 == (1 : Int)) = false → ((a0 == (1 : Int)) = false ∧ ((a0 == (1 : Int)) = false ∧ (false = false ∧ (True) ∧ (((a0 == (2 : Int)) = true → ((a0 == (2 : Int)) = true ∧ (∃ t59 : Bool, (Fun cfg 13 [.one (.sc (.int .i64 a1))] [] (status_signal.R t59) [] ∧ True) ∧ ((a0 == (2 : Int)) = true ∧ ((t59 = true → (True ∧ (True) ∧ (0 ≤ (8 : Int)) ∧ (True) ∧ (True ∧ ((True) ∧ (True) ∧ (.tup [.one (.sc (.int .u32 (bits .or .u32 (shl .u32 (IntKind.wrap .u32 (a1)) (8 : Int)) (127 : Int)))), .one (.err none)] : Tm) = status_Of.R r ∧ ([] : List Box) = [])))) ∧ (t59 = false → (True) ∧ (((a0 == (3 : Int)) = true → ((a0 == (3 : Int)) = true ∧ (∃ t62 : Bool, (Fun cfg 13 [.one (.sc (.int .i64 a1))] [] (status_signal.R t62) [] ∧ True) ∧ ((a0 == (3 : Int)) = true ∧ ((t62 = true → (True ∧ (True) ∧ (True) ∧ (0 ≤ (8 : Int)) ∧ (True) ∧ (True ∧ ((True) ∧ (True) ∧ (.tup [.one (.sc (.int .u32 (bits .or .u32 (shl .u32 (IntKind.wrap .u32 ((bits .or .i64 a1 (128 : Int)))) (8 : Int)) (127 : Int)))), .one (.err none)] : Tm) = status_Of.R r ∧ ([] : List Box) = [])))) ∧ (t62 = false → (True ∧ (True ∧ (True ∧ ((True) ∧ (True) ∧ (.tup [.one (.sc (.int .u32 (0 : Int))), .one (.err (some (22 : Int)))] : Tm) = status_Of.R r ∧ ([] : List Box) = [])))))))))) ∧ ((a0 == (3 : Int)) = false → ((a0 == (3 : Int)) = false ∧ ((a0 == (3 : Int)) = false ∧ (false = false ∧ (True ∧ (True ∧ (True ∧ ((True) ∧ (True) ∧ (.tup [.one (.sc (.int .u32 (0 : Int))), .one (.err (some (22 : Int)))] : Tm) = status_Of.R r ∧ ([] : List Box) = []))))))))))))))) ∧ ((a0 == (2 : Int)) = false → ((a0 == (2 : Int)) = false ∧ ((a0 == (2 : Int)) = false ∧ (false = false ∧ (True) ∧ (((a0 == (3 : Int)) = true → ((a0 == (3 : Int)) = true ∧ (∃ t65 : Bool, (Fun cfg 13 [.one (.sc (.int .i64 a1))] [] (status_signal.R t65) [] ∧ True) ∧ ((a0 == (3 : Int)) = true ∧ ((t65 = true → (True ∧ (True) ∧ (True) ∧ (0 ≤ (8 : Int)) ∧ (True) ∧ (True ∧ ((True) ∧ (True) ∧ (.tup [.one (.sc (.int .u32 (bits .or .u32 (shl .u32 (IntKind.wrap .u32 ((bits .or .i64 a1 (128 : Int)))) (8 : Int)) (127 : Int)))), .one (.err none)] : Tm) = status_Of.R r ∧ ([] : List Box) = [])))) ∧ (t65 = false → (True ∧ (True ∧ (True ∧ ((True) ∧ (True) ∧ (.tup [.one (.sc (.int .u32 (0 : Int))), .one (.err (some (22 : Int)))] : Tm) = status_Of.R r ∧ ([] : List Box) = [])))))))))) ∧ ((a0 == (3 : Int)) = false → ((a0 == (3 : Int)) = false ∧ ((a0 == (3 : Int)) = false ∧ (false = false ∧ (True ∧ (True ∧ (True ∧ ((True) ∧ (True) ∧ (.tup [.one (.sc (.int .u32 (0 : Int))), .one (.err (some (22 : Int)))] : Tm) = status_Of.R r ∧ ([] : List Box) = [])))))))))))))))))))))))))))) (by kernel_rfl) ?_)
  refine ⟨trivial, ?_⟩
  refine ⟨fun b1 => ?_, fun b1 => ?_⟩
  · rw [if_pos (beq_t b1)] at h
    refine ⟨b1, ?_⟩
    refine ⟨trivial, ?_⟩
    refine ⟨b1, ?_⟩
    refine ⟨fun b2 => ?_, fun b2 => ?_⟩
    · rw [if_pos (of_decide_eq_true b2)] at h
      refine ⟨b2, ?_⟩
      refine ⟨trivial, ?_⟩
      refine ⟨b2, ?_⟩
      refine ⟨fun b3 => ?_, fun b3 => ?_⟩
      · rw [if_pos (of_decide_eq_true b3)] at h
        refine ⟨trivial, ?_⟩
        refine ⟨trivial, ?_⟩
        refine ⟨(by decide), ?_⟩
        refine ⟨trivial, ?_⟩
        obtain rfl := Option.some.inj h
        exact ⟨trivial, trivial, rfl, rfl⟩
      · rw [if_neg (of_decide_eq_false b3)] at h
        refine ⟨trivial, ?_⟩
        refine ⟨fun b4 => ?_, fun b4 => ?_⟩
        · rw [if_pos (beq_t b4)] at h
          refine ⟨b4, ?_⟩
          obtain ⟨t5, ht5, h⟩ := of_bind h
          refine ⟨t5, ⟨status_signal.fun_ ht5, trivial⟩, ?_⟩
          refine ⟨b4, ?_⟩
          refine ⟨fun b6 => ?_, fun b6 => ?_⟩
          · rw [if_pos b6] at h
            refine ⟨trivial, ?_⟩
            refine ⟨trivial, ?_⟩
            refine ⟨trivial, ?_⟩
            obtain rfl := Option.some.inj h
            exact ⟨trivial, trivial, rfl, rfl⟩
          · rw [if_neg (ff b6)] at h
            refine ⟨trivial, ?_⟩
            refine ⟨fun b7 => ?_, fun b7 => ?_⟩
            · rw [if_pos (beq_t b7)] at h
              refine ⟨b7, ?_⟩
              obtain ⟨t8, ht8, h⟩ := of_bind h
              refine ⟨t8, ⟨status_signal.fun_ ht8, trivial⟩, ?_⟩
              refine ⟨b7, ?_⟩
              refine ⟨fun b9 => ?_, fun b9 => ?_⟩
              · rw [if_pos b9] at h
                refine ⟨trivial, ?_⟩
                refine ⟨trivial, ?_⟩
                refine ⟨(by decide), ?_⟩
                refine ⟨trivial, ?_⟩
                refine ⟨trivial, ?_⟩
                obtain rfl := Option.some.inj h
                exact ⟨trivial, trivial, rfl, rfl⟩
              · rw [if_neg (ff b9)] at h
                refine ⟨trivial, ?_⟩
                refine ⟨fun b10 => ?_, fun b10 => ?_⟩
                · rw [if_pos (beq_t b10)] at h
                  refine ⟨b10, ?_⟩
                  obtain ⟨t11, ht11, h⟩ := of_bind h
                  refine ⟨t11, ⟨status_signal.fun_ ht11, trivial⟩, ?_⟩
                  refine ⟨b10, ?_⟩
                  refine ⟨fun b12 => ?_, fun b12 => ?_⟩
                  · rw [if_pos b12] at h
                    refine ⟨trivial, ?_⟩
                    refine ⟨trivial, ?_⟩
                    refine ⟨trivial, ?_⟩
                    refine ⟨(by decide), ?_⟩
                    refine ⟨trivial, ?_⟩
                    refine ⟨trivial, ?_⟩
                    obtain rfl := Option.some.inj h
                    exact ⟨trivial, trivial, rfl, rfl⟩
                  · rw [if_neg (ff b12)] at h
                    refine ⟨trivial, ?_⟩
                    refine ⟨trivial, ?_⟩
                    refine ⟨trivial, ?_⟩
                    obtain rfl := Option.some.inj h
                    exact ⟨trivial, trivial, rfl, rfl⟩
                · rw [if_neg (beq_f b10)] at h
                  refine ⟨b10, ?_⟩
                  refine ⟨b10, ?_⟩
                  refine ⟨rfl, ?_⟩
                  refine ⟨trivial, ?_⟩
                  refine ⟨trivial, ?_⟩
                  refine ⟨trivial, ?_⟩
                  obtain rfl := Option.some.inj h
                  exact ⟨trivial, trivial, rfl, rfl⟩
            · rw [if_neg (beq_f b7)] at h
              refine ⟨b7, ?_⟩
              refine ⟨b7, ?_⟩
              refine ⟨rfl, ?_⟩
              refine ⟨trivial, ?_⟩
              refine ⟨fun b13 => ?_, fun b13 => ?_⟩
              · rw [if_pos (beq_t b13)] at h
                refine ⟨b13, ?_⟩
                obtain ⟨t14, ht14, h⟩ := of_bind h
                refine ⟨t14, ⟨status_signal.fun_ ht14, trivial⟩, ?_⟩
                refine ⟨b13, ?_⟩
                refine ⟨fun b15 => ?_, fun b15 => ?_⟩
                · rw [if_pos b15] at h
                  refine ⟨trivial, ?_⟩
                  refine ⟨trivial, ?_⟩
                  refine ⟨trivial, ?_⟩
                  refine ⟨(by decide), ?_⟩
                  refine ⟨trivial, ?_⟩
                  refine ⟨trivial, ?_⟩
                  obtain rfl := Option.some.inj h
                  exact ⟨trivial, trivial, rfl, rfl⟩
                · rw [if_neg (ff b15)] at h
                  refine ⟨trivial, ?_⟩
                  refine ⟨trivial, ?_⟩
                  refine ⟨trivial, ?_⟩
                  obtain rfl := Option.some.inj h
                  exact ⟨trivial, trivial, rfl, rfl⟩
              · rw [if_neg (beq_f b13)] at h
                refine ⟨b13, ?_⟩
                refine ⟨b13, ?_⟩
                refine ⟨rfl, ?_⟩
                refine ⟨trivial, ?_⟩
                refine ⟨trivial, ?_⟩
                refine ⟨trivial, ?_⟩
                obtain rfl := Option.some.inj h
                exact ⟨trivial, trivial, rfl, rfl⟩
        · rw [if_neg (beq_f b4)] at h
          refine ⟨b4, ?_⟩
          refine ⟨b4, ?_⟩
          refine ⟨rfl, ?_⟩
          refine ⟨trivial, ?_⟩
          refine ⟨fun b16 => ?_, fun b16 => ?_⟩
          · rw [if_pos (beq_t b16)] at h
            refine ⟨b16, ?_⟩
            obtain ⟨t17, ht17, h⟩ := of_bind h
            refine ⟨t17, ⟨status_signal.fun_ ht17, trivial⟩, ?_⟩
            refine ⟨b16, ?_⟩
            refine ⟨fun b18 => ?_, fun b18 => ?_⟩
            · rw [if_pos b18] at h
              refine ⟨trivial, ?_⟩
              refine ⟨trivial, ?_⟩
              refine ⟨(by decide), ?_⟩
              refine ⟨trivial, ?_⟩
              refine ⟨trivial, ?_⟩
              obtain rfl := Option.some.inj h
              exact ⟨trivial, trivial, rfl, rfl⟩
            · rw [if_neg (ff b18)] at h
              refine ⟨trivial, ?_⟩
              refine ⟨fun b19 => ?_, fun b19 => ?_⟩
              · rw [if_pos (beq_t b19)] at h
                refine ⟨b19, ?_⟩
                obtain ⟨t20, ht20, h⟩ := of_bind h
                refine ⟨t20, ⟨status_signal.fun_ ht20, trivial⟩, ?_⟩
                refine ⟨b19, ?_⟩
                refine ⟨fun b21 => ?_, fun b21 => ?_⟩
                · rw [if_pos b21] at h
                  refine ⟨trivial, ?_⟩
                  refine ⟨trivial, ?_⟩
                  refine ⟨trivial, ?_⟩
                  refine ⟨(by decide), ?_⟩
                  refine ⟨trivial, ?_⟩
                  refine ⟨trivial, ?_⟩
                  obtain rfl := Option.some.inj h
                  exact ⟨trivial, trivial, rfl, rfl⟩
                · rw [if_neg (ff b21)] at h
                  refine ⟨trivial, ?_⟩
                  refine ⟨trivial, ?_⟩
                  refine ⟨trivial, ?_⟩
                  obtain rfl := Option.some.inj h
                  exact ⟨trivial, trivial, rfl, rfl⟩
              · rw [if_neg (beq_f b19)] at h
                refine ⟨b19, ?_⟩
                refine ⟨b19, ?_⟩
                refine ⟨rfl, ?_⟩
                refine ⟨trivial, ?_⟩
                refine ⟨trivial, ?_⟩
                refine ⟨trivial, ?_⟩
                obtain rfl := Option.some.inj h
                exact ⟨trivial, trivial, rfl, rfl⟩
          · rw [if_neg (beq_f b16)] at h
            refine ⟨b16, ?_⟩
            refine ⟨b16, ?_⟩
            refine ⟨rfl, ?_⟩
            refine ⟨trivial, ?_⟩
            refine ⟨fun b22 => ?_, fun b22 => ?_⟩
            · rw [if_pos (beq_t b22)] at h
              refine ⟨b22, ?_⟩
              obtain ⟨t23, ht23, h⟩ := of_bind h
              refine ⟨t23, ⟨status_signal.fun_ ht23, trivial⟩, ?_⟩
              refine ⟨b22, ?_⟩
              refine ⟨fun b24 => ?_, fun b24 => ?_⟩
              · rw [if_pos b24] at h
                refine ⟨trivial, ?_⟩
                refine ⟨trivial, ?_⟩
                refine ⟨trivial, ?_⟩
                refine ⟨(by decide), ?_⟩
                refine ⟨trivial, ?_⟩
                refine ⟨trivial, ?_⟩
                obtain rfl := Option.some.inj h
                exact ⟨trivial, trivial, rfl, rfl⟩
              · rw [if_neg (ff b24)] at h
                refine ⟨trivial, ?_⟩
                refine ⟨trivial, ?_⟩
                refine ⟨trivial, ?_⟩
                obtain rfl := Option.some.inj h
                exact ⟨trivial, trivial, rfl, rfl⟩
            · rw [if_neg (beq_f b22)] at h
              refine ⟨b22, ?_⟩
              refine ⟨b22, ?_⟩
              refine ⟨rfl, ?_⟩
              refine ⟨trivial, ?_⟩
              refine ⟨trivial, ?_⟩
              refine ⟨trivial, ?_⟩
              obtain rfl := Option.some.inj h
              exact ⟨trivial, trivial, rfl, rfl⟩
    · rw [if_neg (of_decide_eq_false b2)] at h
      refine ⟨b2, ?_⟩
      refine ⟨b2, ?_⟩
      refine ⟨rfl, ?_⟩
      refine ⟨trivial, ?_⟩
      refine ⟨fun b25 => ?_, fun b25 => ?_⟩
      · rw [if_pos (beq_t b25)] at h
        refine ⟨b25, ?_⟩
        obtain ⟨t26, ht26, h⟩ := of_bind h
        refine ⟨t26, ⟨status_signal.fun_ ht26, trivial⟩, ?_⟩
        refine ⟨b25, ?_⟩
        refine ⟨fun b27 => ?_, fun b27 => ?_⟩
        · rw [if_pos b27] at h
          refine ⟨trivial, ?_⟩
          refine ⟨trivial, ?_⟩
          refine ⟨trivial, ?_⟩
          obtain rfl := Option.some.inj h
          exact ⟨trivial, trivial, rfl, rfl⟩
        · rw [if_neg (ff b27)] at h
          refine ⟨trivial, ?_⟩
          refine ⟨fun b28 => ?_, fun b28 => ?_⟩
          · rw [if_pos (beq_t b28)] at h
            refine ⟨b28, ?_⟩
            obtain ⟨t29, ht29, h⟩ := of_bind h
            refine ⟨t29, ⟨status_signal.fun_ ht29, trivial⟩, ?_⟩
            refine ⟨b28, ?_⟩
            refine ⟨fun b30 => ?_, fun b30 => ?_⟩
            · rw [if_pos b30] at h
              refine ⟨trivial, ?_⟩
              refine ⟨trivial, ?_⟩
              refine ⟨(by decide), ?_⟩
              refine ⟨trivial, ?_⟩
              refine ⟨trivial, ?_⟩
              obtain rfl := Option.some.inj h
              exact ⟨trivial, trivial, rfl, rfl⟩
            · rw [if_neg (ff b30)] at h
              refine ⟨trivial, ?_⟩
              refine ⟨fun b31 => ?_, fun b31 => ?_⟩
              · rw [if_pos (beq_t b31)] at h
                refine ⟨b31, ?_⟩
                obtain ⟨t32, ht32, h⟩ := of_bind h
                refine ⟨t32, ⟨status_signal.fun_ ht32, trivial⟩, ?_⟩
                refine ⟨b31, ?_⟩
                refine ⟨fun b33 => ?_, fun b33 => ?_⟩
                · rw [if_pos b33] at h
                  refine ⟨trivial, ?_⟩
                  refine ⟨trivial, ?_⟩
                  refine ⟨trivial, ?_⟩
                  refine ⟨(by decide), ?_⟩
                  refine ⟨trivial, ?_⟩
                  refine ⟨trivial, ?_⟩
                  obtain rfl := Option.some.inj h
                  exact ⟨trivial, trivial, rfl, rfl⟩
                · rw [if_neg (ff b33)] at h
                  refine ⟨trivial, ?_⟩
                  refine ⟨trivial, ?_⟩
                  refine ⟨trivial, ?_⟩
                  obtain rfl := Option.some.inj h
                  exact ⟨trivial, trivial, rfl, rfl⟩
              · rw [if_neg (beq_f b31)] at h
                refine ⟨b31, ?_⟩
                refine ⟨b31, ?_⟩
                refine ⟨rfl, ?_⟩
                refine ⟨trivial, ?_⟩
                refine ⟨trivial, ?_⟩
                refine ⟨trivial, ?_⟩
                obtain rfl := Option.some.inj h
                exact ⟨trivial, trivial, rfl, rfl⟩
          · rw [if_neg (beq_f b28)] at h
            refine ⟨b28, ?_⟩
            refine ⟨b28, ?_⟩
            refine ⟨rfl, ?_⟩
            refine ⟨trivial, ?_⟩
            refine ⟨fun b34 => ?_, fun b34 => ?_⟩
            · rw [if_pos (beq_t b34)] at h
              refine ⟨b34, ?_⟩
              obtain ⟨t35, ht35, h⟩ := of_bind h
              refine ⟨t35, ⟨status_signal.fun_ ht35, trivial⟩, ?_⟩
              refine ⟨b34, ?_⟩
              refine ⟨fun b36 => ?_, fun b36 => ?_⟩
              · rw [if_pos b36] at h
                refine ⟨trivial, ?_⟩
                refine ⟨trivial, ?_⟩
                refine ⟨trivial, ?_⟩
                refine ⟨(by decide), ?_⟩
                refine ⟨trivial, ?_⟩
                refine ⟨trivial, ?_⟩
                obtain rfl := Option.some.inj h
                exact ⟨trivial, trivial, rfl, rfl⟩
              · rw [if_neg (ff b36)] at h
                refine ⟨trivial, ?_⟩
                refine ⟨trivial, ?_⟩
                refine ⟨trivial, ?_⟩
                obtain rfl := Option.some.inj h
                exact ⟨trivial, trivial, rfl, rfl⟩
            · rw [if_neg (beq_f b34)] at h
              refine ⟨b34, ?_⟩
              refine ⟨b34, ?_⟩
              refine ⟨rfl, ?_⟩
              refine ⟨trivial, ?_⟩
              refine ⟨trivial, ?_⟩
              refine ⟨trivial, ?_⟩
              obtain rfl := Option.some.inj h
              exact ⟨trivial, trivial, rfl, rfl⟩
      · rw [if_neg (beq_f b25)] at h
        refine ⟨b25, ?_⟩
        refine ⟨b25, ?_⟩
        refine ⟨rfl, ?_⟩
        refine ⟨trivial, ?_⟩
        refine ⟨fun b37 => ?_, fun b37 => ?_⟩
        · rw [if_pos (beq_t b37)] at h
          refine ⟨b37, ?_⟩
          obtain ⟨t38, ht38, h⟩ := of_bind h
          refine ⟨t38, ⟨status_signal.fun_ ht38, trivial⟩, ?_⟩
          refine ⟨b37, ?_⟩
          refine ⟨fun b39 => ?_, fun b39 => ?_⟩
          · rw [if_pos b39] at h
            refine ⟨trivial, ?_⟩
            refine ⟨trivial, ?_⟩
            refine ⟨(by decide), ?_⟩
            refine ⟨trivial, ?_⟩
            refine ⟨trivial, ?_⟩
            obtain rfl := Option.some.inj h
            exact ⟨trivial, trivial, rfl, rfl⟩
          · rw [if_neg (ff b39)] at h
            refine ⟨trivial, ?_⟩
            refine ⟨fun b40 => ?_, fun b40 => ?_⟩
            · rw [if_pos (beq_t b40)] at h
              refine ⟨b40, ?_⟩
              obtain ⟨t41, ht41, h⟩ := of_bind h
              refine ⟨t41, ⟨status_signal.fun_ ht41, trivial⟩, ?_⟩
              refine ⟨b40, ?_⟩
              refine ⟨fun b42 => ?_, fun b42 => ?_⟩
              · rw [if_pos b42] at h
                refine ⟨trivial, ?_⟩
                refine ⟨trivial, ?_⟩
                refine ⟨trivial, ?_⟩
                refine ⟨(by decide), ?_⟩
                refine ⟨trivial, ?_⟩
                refine ⟨trivial, ?_⟩
                obtain rfl := Option.some.inj h
                exact ⟨trivial, trivial, rfl, rfl⟩
              · rw [if_neg (ff b42)] at h
                refine ⟨trivial, ?_⟩
                refine ⟨trivial, ?_⟩
                refine ⟨trivial, ?_⟩
                obtain rfl := Option.some.inj h
                exact ⟨trivial, trivial, rfl, rfl⟩
            · rw [if_neg (beq_f b40)] at h
              refine ⟨b40, ?_⟩
              refine ⟨b40, ?_⟩
              refine ⟨rfl, ?_⟩
              refine ⟨trivial, ?_⟩
              refine ⟨trivial, ?_⟩
              refine ⟨trivial, ?_⟩
              obtain rfl := Option.some.inj h
              exact ⟨trivial, trivial, rfl, rfl⟩
        · rw [if_neg (beq_f b37)] at h
          refine ⟨b37, ?_⟩
          refine ⟨b37, ?_⟩
          refine ⟨rfl, ?_⟩
          refine ⟨trivial, ?_⟩
          refine ⟨fun b43 => ?_, fun b43 => ?_⟩
          · rw [if_pos (beq_t b43)] at h
            refine ⟨b43, ?_⟩
            obtain ⟨t44, ht44, h⟩ := of_bind h
            refine ⟨t44, ⟨status_signal.fun_ ht44, trivial⟩, ?_⟩
            refine ⟨b43, ?_⟩
            refine ⟨fun b45 => ?_, fun b45 => ?_⟩
            · rw [if_pos b45] at h
              refine ⟨trivial, ?_⟩
              refine ⟨trivial, ?_⟩
              refine ⟨trivial, ?_⟩
              refine ⟨(by decide), ?_⟩
              refine ⟨trivial, ?_⟩
              refine ⟨trivial, ?_⟩
              obtain rfl := Option.some.inj h
              exact ⟨trivial, trivial, rfl, rfl⟩
            · rw [if_neg (ff b45)] at h
              refine ⟨trivial, ?_⟩
              refine ⟨trivial, ?_⟩
              refine ⟨trivial, ?_⟩
              obtain rfl := Option.some.inj h
              exact ⟨trivial, trivial, rfl, rfl⟩
          · rw [if_neg (beq_f b43)] at h
            refine ⟨b43, ?_⟩
            refine ⟨b43, ?_⟩
            refine ⟨rfl, ?_⟩
            refine ⟨trivial, ?_⟩
            refine ⟨trivial, ?_⟩
            refine ⟨trivial, ?_⟩
            obtain rfl := Option.some.inj h
            exact ⟨trivial, trivial, rfl, rfl⟩
  · rw [if_neg (beq_f b1)] at h
    refine ⟨b1, ?_⟩
    refine ⟨b1, ?_⟩
    refine ⟨rfl, ?_⟩
    refine ⟨rfl, ?_⟩
    refine ⟨rfl, ?_⟩
    refine ⟨rfl, ?_⟩
    refine ⟨trivial, ?_⟩
    refine ⟨fun b46 => ?_, fun b46 => ?_⟩
    · rw [if_pos (beq_t b46)] at h
      refine ⟨b46, ?_⟩
      obtain ⟨t47, ht47, h⟩ := of_bind h
      refine ⟨t47, ⟨status_signal.fun_ ht47, trivial⟩, ?_⟩
      refine ⟨b46, ?_⟩
      refine ⟨fun b48 => ?_, fun b48 => ?_⟩
      · rw [if_pos b48] at h
        refine ⟨trivial, ?_⟩
        refine ⟨trivial, ?_⟩
        refine ⟨trivial, ?_⟩
        obtain rfl := Option.some.inj h
        exact ⟨trivial, trivial, rfl, rfl⟩
      · rw [if_neg (ff b48)] at h
        refine ⟨trivial, ?_⟩
        refine ⟨fun b49 => ?_, fun b49 => ?_⟩
        · rw [if_pos (beq_t b49)] at h
          refine ⟨b49, ?_⟩
          obtain ⟨t50, ht50, h⟩ := of_bind h
          refine ⟨t50, ⟨status_signal.fun_ ht50, trivial⟩, ?_⟩
          refine ⟨b49, ?_⟩
          refine ⟨fun b51 => ?_, fun b51 => ?_⟩
          · rw [if_pos b51] at h
            refine ⟨trivial, ?_⟩
            refine ⟨trivial, ?_⟩
            refine ⟨(by decide), ?_⟩
            refine ⟨trivial, ?_⟩
            refine ⟨trivial, ?_⟩
            obtain rfl := Option.some.inj h
            exact ⟨trivial, trivial, rfl, rfl⟩
          · rw [if_neg (ff b51)] at h
            refine ⟨trivial, ?_⟩
            refine ⟨fun b52 => ?_, fun b52 => ?_⟩
            · rw [if_pos (beq_t b52)] at h
              refine ⟨b52, ?_⟩
              obtain ⟨t53, ht53, h⟩ := of_bind h
              refine ⟨t53, ⟨status_signal.fun_ ht53, trivial⟩, ?_⟩
              refine ⟨b52, ?_⟩
              refine ⟨fun b54 => ?_, fun b54 => ?_⟩
              · rw [if_pos b54] at h
                refine ⟨trivial, ?_⟩
                refine ⟨trivial, ?_⟩
                refine ⟨trivial, ?_⟩
                refine ⟨(by decide), ?_⟩
                refine ⟨trivial, ?_⟩
                refine ⟨trivial, ?_⟩
                obtain rfl := Option.some.inj h
                exact ⟨trivial, trivial, rfl, rfl⟩
              · rw [if_neg (ff b54)] at h
                refine ⟨trivial, ?_⟩
                refine ⟨trivial, ?_⟩
                refine ⟨trivial, ?_⟩
                obtain rfl := Option.some.inj h
                exact ⟨trivial, trivial, rfl, rfl⟩
            · rw [if_neg (beq_f b52)] at h
              refine ⟨b52, ?_⟩
              refine ⟨b52, ?_⟩
              refine ⟨rfl, ?_⟩
              refine ⟨trivial, ?_⟩
              refine ⟨trivial, ?_⟩
              refine ⟨trivial, ?_⟩
              obtain rfl := Option.some.inj h
              exact ⟨trivial, trivial, rfl, rfl⟩
        · rw [if_neg (beq_f b49)] at h
          refine ⟨b49, ?_⟩
          refine ⟨b49, ?_⟩
          refine ⟨rfl, ?_⟩
          refine ⟨trivial, ?_⟩
          refine ⟨fun b55 => ?_, fun b55 => ?_⟩
          · rw [if_pos (beq_t b55)] at h
            refine ⟨b55, ?_⟩
            obtain ⟨t56, ht56, h⟩ := of_bind h
            refine ⟨t56, ⟨status_signal.fun_ ht56, trivial⟩, ?_⟩
            refine ⟨b55, ?_⟩
            refine ⟨fun b57 => ?_, fun b57 => ?_⟩
            · rw [if_pos b57] at h
              refine ⟨trivial, ?_⟩
              refine ⟨trivial, ?_⟩
              refine ⟨trivial, ?_⟩
              refine ⟨(by decide), ?_⟩
              refine ⟨trivial, ?_⟩
              refine ⟨trivial, ?_⟩
              obtain rfl := Option.some.inj h
              exact ⟨trivial, trivial, rfl, rfl⟩
            · rw [if_neg (ff b57)] at h
              refine ⟨trivial, ?_⟩
              refine ⟨trivial, ?_⟩
              refine ⟨trivial, ?_⟩
              obtain rfl := Option.some.inj h
              exact ⟨trivial, trivial, rfl, rfl⟩
          · rw [if_neg (beq_f b55)] at h
            refine ⟨b55, ?_⟩
            refine ⟨b55, ?_⟩
            refine ⟨rfl, ?_⟩
            refine ⟨trivial, ?_⟩
            refine ⟨trivial, ?_⟩
            refine ⟨trivial, ?_⟩
            obtain rfl := Option.some.inj h
            exact ⟨trivial, trivial, rfl, rfl⟩
    · rw [if_neg (beq_f b46)] at h
      refine ⟨b46, ?_⟩
      refine ⟨b46, ?_⟩
      refine ⟨rfl, ?_⟩
      refine ⟨trivial, ?_⟩
      refine ⟨fun b58 => ?_, fun b58 => ?_⟩
      · rw [if_pos (beq_t b58)] at h
        refine ⟨b58, ?_⟩
        obtain ⟨t59, ht59, h⟩ := of_bind h
        refine ⟨t59, ⟨status_signal.fun_ ht59, trivial⟩, ?_⟩
        refine ⟨b58, ?_⟩
        refine ⟨fun b60 => ?_, fun b60 => ?_⟩
        · rw [if_pos b60] at h
          refine ⟨trivial, ?_⟩
          refine ⟨trivial, ?_⟩
          refine ⟨(by decide), ?_⟩
          refine ⟨trivial, ?_⟩
          refine ⟨trivial, ?_⟩
          obtain rfl := Option.some.inj h
          exact ⟨trivial, trivial, rfl, rfl⟩
        · rw [if_neg (ff b60)] at h
          refine ⟨trivial, ?_⟩
          refine ⟨fun b61 => ?_, fun b61 => ?_⟩
          · rw [if_pos (beq_t b61)] at h
            refine ⟨b61, ?_⟩
            obtain ⟨t62, ht62, h⟩ := of_bind h
            refine ⟨t62, ⟨status_signal.fun_ ht62, trivial⟩, ?_⟩
            refine ⟨b61, ?_⟩
            refine ⟨fun b63 => ?_, fun b63 => ?_⟩
            · rw [if_pos b63] at h
              refine ⟨trivial, ?_⟩
              refine ⟨trivial, ?_⟩
              refine ⟨trivial, ?_⟩
              refine ⟨(by decide), ?_⟩
              refine ⟨trivial, ?_⟩
              refine ⟨trivial, ?_⟩
              obtain rfl := Option.some.inj h
              exact ⟨trivial, trivial, rfl, rfl⟩
            · rw [if_neg (ff b63)] at h
              refine ⟨trivial, ?_⟩
              refine ⟨trivial, ?_⟩
              refine ⟨trivial, ?_⟩
              obtain rfl := Option.some.inj h
              exact ⟨trivial, trivial, rfl, rfl⟩
          · rw [if_neg (beq_f b61)] at h
            refine ⟨b61, ?_⟩
            refine ⟨b61, ?_⟩
            refine ⟨rfl, ?_⟩
            refine ⟨trivial, ?_⟩
            refine ⟨trivial, ?_⟩
            refine ⟨trivial, ?_⟩
            obtain rfl := Option.some.inj h
            exact ⟨trivial, trivial, rfl, rfl⟩
      · rw [if_neg (beq_f b58)] at h
        refine ⟨b58, ?_⟩
        refine ⟨b58, ?_⟩
        refine ⟨rfl, ?_⟩
        refine ⟨trivial, ?_⟩
        refine ⟨fun b64 => ?_, fun b64 => ?_⟩
        · rw [if_pos (beq_t b64)] at h
          refine ⟨b64, ?_⟩
          obtain ⟨t65, ht65, h⟩ := of_bind h
          refine ⟨t65, ⟨status_signal.fun_ ht65, trivial⟩, ?_⟩
          refine ⟨b64, ?_⟩
          refine ⟨fun b66 => ?_, fun b66 => ?_⟩
          · rw [if_pos b66] at h
            refine ⟨trivial, ?_⟩
            refine ⟨trivial, ?_⟩
            refine ⟨trivial, ?_⟩
            refine ⟨(by decide), ?_⟩
            refine ⟨trivial, ?_⟩
            refine ⟨trivial, ?_⟩
            obtain rfl := Option.some.inj h
            exact ⟨trivial, trivial, rfl, rfl⟩
          · rw [if_neg (ff b66)] at h
            refine ⟨trivial, ?_⟩
            refine ⟨trivial, ?_⟩
            refine ⟨trivial, ?_⟩
            obtain rfl := Option.some.inj h
            exact ⟨trivial, trivial, rfl, rfl⟩
        · rw [if_neg (beq_f b64)] at h
          refine ⟨b64, ?_⟩
          refine ⟨b64, ?_⟩
          refine ⟨rfl, ?_⟩
          refine ⟨trivial, ?_⟩
          refine ⟨trivial, ?_⟩
          refine ⟨trivial, ?_⟩
          obtain rfl := Option.some.inj h
          exact ⟨trivial, trivial, rfl, rfl⟩
/-! halter/halterref26.Of -/
def halterref26_Of.f (a0 : Int) (a1 : Int) : Option (Int × Int) :=
  if a0 = (0 : Int) then
    if a1 ≥ (0 : Int) then
      if a1 ≤ (255 : Int) then
        some ((IntKind.wrap .u32 ((IntKind.wrap .i64 ((256 : Int) * a1)))), (0 : Int))
      else
        if a0 < (1 : Int) then
          some ((0 : Int), (22 : Int))
        else
          if a0 > (3 : Int) then
            some ((0 : Int), (22 : Int))
          else
            if a1 < (1 : Int) then
              some ((0 : Int), (22 : Int))
            else
              if a1 > (31 : Int) then
                some ((0 : Int), (22 : Int))
              else
                if a0 = (1 : Int) then
                  some ((IntKind.wrap .u32 (a1)), (0 : Int))
                else
                  if a0 = (2 : Int) then
                    some ((IntKind.wrap .u32 ((IntKind.wrap .i64 ((IntKind.wrap .i64 ((256 : Int) * a1)) + (127 : Int))))), (0 : Int))
                  else
                    some ((IntKind.wrap .u32 ((IntKind.wrap .i64 ((IntKind.wrap .i64 ((256 : Int) * (IntKind.wrap .i64 (a1 + (128 : Int))))) + (127 : Int))))), (0 : Int))
    else
      if a0 < (1 : Int) then
        some ((0 : Int), (22 : Int))
      else
        if a0 > (3 : Int) then
          some ((0 : Int), (22 : Int))
        else
          if a1 < (1 : Int) then
            some ((0 : Int), (22 : Int))
          else
            if a1 > (31 : Int) then
              some ((0 : Int), (22 : Int))
            else
              if a0 = (1 : Int) then
                some ((IntKind.wrap .u32 (a1)), (0 : Int))
              else
                if a0 = (2 : Int) then
                  some ((IntKind.wrap .u32 ((IntKind.wrap .i64 ((IntKind.wrap .i64 ((256 : Int) * a1)) + (127 : Int))))), (0 : Int))
                else
                  some ((IntKind.wrap .u32 ((IntKind.wrap .i64 ((IntKind.wrap .i64 ((256 : Int) * (IntKind.wrap .i64 (a1 + (128 : Int))))) + (127 : Int))))), (0 : Int))
  else
    if a0 < (1 : Int) then
      some ((0 : Int), (22 : Int))
    else
      if a0 > (3 : Int) then
        some ((0 : Int), (22 : Int))
      else
        if a1 < (1 : Int) then
          some ((0 : Int), (22 : Int))
        else
          if a1 > (31 : Int) then
            some ((0 : Int), (22 : Int))
          else
            if a0 = (1 : Int) then
              some ((IntKind.wrap .u32 (a1)), (0 : Int))
            else
              if a0 = (2 : Int) then
                some ((IntKind.wrap .u32 ((IntKind.wrap .i64 ((IntKind.wrap .i64 ((256 : Int) * a1)) + (127 : Int))))), (0 : Int))
              else
                some ((IntKind.wrap .u32 ((IntKind.wrap .i64 ((IntKind.wrap .i64 ((256 : Int) * (IntKind.wrap .i64 (a1 + (128 : Int))))) + (127 : Int))))), (0 : Int))
def halterref26_Of.R (r : Int × Int) : Tm := .tup [.one (.sc (.int .u32 r.1)), .one (.sc (.int .i64 r.2))]
theorem halterref26_Of.fun_ {a0 : Int} {a1 : Int} {r : Int × Int} (h : halterref26_Of.f a0 a1 = some r) : Fun cfg 6 [.one (.sc (.int .i64 a0)), .one (.sc (.int .i64 a1))] [] (halterref26_Of.R r) [] := by
  unfold halterref26_Of.f at h
  refine fun_of_run cfg_ok (f := 6) (fn := Tryd.f6) Tryd.func6 rfl (by kernel_rfl) (rs := [.tmp 4, .tmp 5]) rfl (nt := 48) rfl (l := fin) (k := (.br (.one true (.one true (.br (.one true (.one true (.br (.adj [] (.adj [] (.adj [] .nil))) (.br (.one true (.one true (.one true (.one true (.one true (.one true (.one true (.one true (.one true (.adj [] (.adj [] (.adj [] .nil)))))))))))) (.one false (.one false (.br (.one true (.one true (.one true (.one true (.one true (.one true (.adj [] (.adj [] (.adj [] .nil))))))))) (.one false (.one false (.br (.one true (.one true (.one true (.adj [] (.adj [] (.adj [] .nil)))))) (.one false (.one false (.br (.adj [] (.adj [] (.adj [] .nil))) (.br (.adj [] (.adj [] (.adj [] .nil))) (.br (.adj [] (.adj [] (.adj [] .nil))) (.adj [] (.adj [] (.adj [] (.adj [] .nil))))))))))))))))))) (.one false (.one false (.one false (.br (.one true (.one true (.one true (.one true (.one true (.one true (.one true (.one true (.one true (.adj [] (.adj [] (.adj [] .nil)))))))))))) (.one false (.one false (.br (.one true (.one true (.one true (.one true (.one true (.one true (.adj [] (.adj [] (.adj [] .nil))))))))) (.one false (.one false (.br (.one true (.one true (.one true (.adj [] (.adj [] (.adj [] .nil)))))) (.one false (.one false (.br (.adj [] (.adj [] (.adj [] .nil))) (.br (.adj [] (.adj [] (.adj [] .nil))) (.br (.adj [] (.adj [] (.adj [] .nil))) (.adj [] (.adj [] (.adj [] (.adj [] .nil)))))))))))))))))))))) (.one false (.one false (.one false (.one false (.one false (.one false (.br (.one true (.one true (.one true (.one true (.one true (.one true (.one true (.one true (.one true (.adj [] (.adj [] (.adj [] .nil)))))))))))) (.one false (.one false (.br (.one true (.one true (.one true (.one true (.one true (.one true (.adj [] (.adj [] (.adj [] .nil))))))))) (.one false (.one false (.br (.one true (.one true (.one true (.adj [] (.adj [] (.adj [] .nil)))))) (.one false (.one false (.br (.adj [] (.adj [] (.adj [] .nil))) (.br (.adj [] (.adj [] (.adj [] .nil))) (.br (.adj [] (.adj [] (.adj [] .nil))) (.adj [] (.adj [] (.adj [] (.adj [] .nil)))))))))))))))))))))))) (to_goal (q := (True) ∧ (((a0 == (0 : Int)) = true → ((a0 == (0 : Int)) = true ∧ (True) ∧ ((a0 == (0 : Int)) = true ∧ (((decide (a1 ≥ (0 : Int))) = true → ((decide (a1 ≥ (0 : Int))) = true ∧ (True) ∧ ((decide (a1 ≥ (0 : Int))) = true ∧ (((decide (a1 ≤ (255 : Int))) = true → (True ∧ (True) ∧ (True) ∧ (True ∧ ((True) ∧ (True) ∧ (.tup [.one (.sc (.int .u32 (IntKind.wrap .u32 ((IntKind.wrap .i64 ((256 : Int) * a1)))))), .one (.sc (.int .i64 (0 : Int)))] : Tm) = halterref26_Of.R r ∧ ([] : List Box) = [])))) ∧ ((decide (a1 ≤ (255 : Int))) = false → (True) ∧ (((decide (a0 < (1 : Int))) = false → ((decide (a0 < (1 : Int))) = false ∧ (True) ∧ ((decide (a0 < (1 : Int))) = false ∧ (((decide (a0 > (3 : Int))) = false → ((decide (a0 > (3 : Int))) = false ∧ (True) ∧ ((decide (a0 > (3 : Int))) = false ∧ (((decide (a1 < (1 : Int))) = false → ((decide (a1 < (1 : Int))) = false ∧ (True) ∧ ((decide (a1 < (1 : Int))) = false ∧ (((decide (a1 > (31 : Int))) = true → (True ∧ (True ∧ ((True) ∧ (True) ∧ (.tup [.one (.sc (.int .u32 (0 : Int))), .one (.sc (.int .i64 (22 : Int)))] : Tm) = halterref26_Of.R r ∧ ([] : List Box) = [])))) ∧ ((decide (a1 > (31 : Int))) = false → (True) ∧ (((a0 == (1 : Int)) = true → (True ∧ (True) ∧ (True ∧ ((True) ∧ (True) ∧ (.tup [.one (.sc (.int .u32 (IntKind.wrap .u32 (a1)))), .one (.sc (.int .i64 (0 : Int)))] : Tm) = halterref26_Of.R r ∧ ([] : List Box) = [])))) ∧ ((a0 == (1 : Int)) = false → (True) ∧ (((a0 == (2 : Int)) = true → (True ∧ (True) ∧ (True) ∧ (True) ∧ (True ∧ ((True) ∧ (True) ∧ (.tup [.one (.sc (.int .u32 (IntKind.wrap .u32 ((IntKind.wrap .i64 ((IntKind.wrap .i64 ((256 : Int) * a1)) + (127 : Int))))))), .one (.sc (.int .i64 (0 : Int)))] : Tm) = halterref26_Of.R r ∧ ([] : List Box) = [])))) ∧ ((a0 == (2 : Int)) = false → (True ∧ (True ∧ (True) ∧ (True) ∧ (True) ∧ (True) ∧ (True ∧ ((True) ∧ (True) ∧ (.tup [.one (.sc (.int .u32 (IntKind.wrap .u32 ((IntKind.wrap .i64 ((IntKind.wrap .i64 ((256 : Int) * (IntKind.wrap .i64 (a1 + (128 : Int))))) + (127 : Int))))))), .one (.sc (.int .i64 (0 : Int)))] : Tm) = halterref26_Of.R r ∧ ([] : List Box) = []))))))))))))) ∧ ((decide (a1 < (1 : Int))) = true → ((decide (a1 < (1 : Int))) = true ∧ ((decide (a1 < (1 : Int))) = true ∧ (true = true ∧ (True ∧ (True ∧ ((True) ∧ (True) ∧ (.tup [.one (.sc (.int .u32 (0 : Int))), .one (.sc (.int .i64 (22 : Int)))] : Tm) = halterref26_Of.R r ∧ ([] : List Box) = []))))))))))) ∧ ((decide (a0 > (3 : Int))) = true → ((decide (a0 > (3 : Int))) = true ∧ ((decide (a0 > (3 : Int))) = true ∧ (true = true ∧ (true = true ∧ (true = true ∧ (true = true ∧ (True ∧ (True ∧ ((True) ∧ (True) ∧ (.tup [.one (.sc (.int .u32 (0 : Int))), .one (.sc (.int .i64 (22 : Int)))] : Tm) = halterref26_Of.R r ∧ ([] : List Box) = [])))))))))))))) ∧ ((decide (a0 < (1 : Int))) = true → ((decide (a0 < (1 : Int))) = true ∧ ((decide (a0 < (1 : Int))) = true ∧ (true = true ∧ (true = true ∧ (true = true ∧ (true = true ∧ (true = true ∧ (true = true ∧ (true = true ∧ (True ∧ (True ∧ ((True) ∧ (True) ∧ (.tup [.one (.sc (.int .u32 (0 : Int))), .one (.sc (.int .i64 (22 : Int)))] : Tm) = halterref26_Of.R r ∧ ([] : List Box) = []))))))))))))))))))) ∧ ((decide (a1 ≥ (0 : Int))) = false → ((decide (a1 ≥ (0 : Int))) = false ∧ ((decide (a1 ≥ (0 : Int))) = false ∧ (false = false ∧ (True) ∧ (((decide (a0 < (1 : Int))) = false → ((decide (a0 < (1 : Int))) = false ∧ (True) ∧ ((decide (a0 < (1 : Int))) = false ∧ (((decide (a0 > (3 : Int))) = false → ((decide (a0 > (3 : Int))) = false ∧ (True) ∧ ((decide (a0 > (3 : Int))) = false ∧ (((decide (a1 < (1 : Int))) = false → ((decide (a1 < (1 : Int))) = false ∧ (True) ∧ ((decide (a1 < (1 : Int))) = false ∧ (((decide (a1 > (31 : Int))) = true → (True ∧ (True ∧ ((True) ∧ (True) ∧ (.tup [.one (.sc (.int .u32 (0 : Int))), .one (.sc (.int .i64 (22 : Int)))] : Tm) = halterref26_Of.R r ∧ ([] : List Box) = [])))) ∧ ((decide (a1 > (31 : Int))) = false → (True) ∧ (((a0 == (1 : Int)) = true → (True ∧ (True) ∧ (True ∧ ((True) ∧ (True) ∧ (.tup [.one (.sc (.int .u32 (IntKind.wrap .u32 (a1)))), .one (.sc (.int .i64 (0 : Int)))] : Tm) = halterref26_Of.R r ∧ ([] : List Box) = [])))) ∧ ((a0 == (1 : Int)) = false → (True) ∧ (((a0 == (2 : Int)) = true → (True ∧ (True) ∧ (True) ∧ (True) ∧ (True ∧ ((True) ∧ (True) ∧ (.tup [.one (.sc (.int .u32 (IntKind.wrap .u32 ((IntKind.wrap .i64 ((IntKind.wrap .i64 ((256 : Int) * a1)) + (127 : Int))))))), .one (.sc (.int .i64 (0 : Int)))] : Tm) = halterref26_Of.R r ∧ ([] : List Box) = [])))) ∧ ((a0 == (2 : Int)) = false → (True ∧ (True ∧ (True) ∧ (True) ∧ (True) ∧ (True) ∧ (True ∧ ((True) ∧ (True) ∧ (.tup [.one (.sc (.int .u32 (IntKind.wrap .u32 ((IntKind.wrap .i64 ((IntKind.wrap .i64 ((256 : Int) * (IntKind.wrap .i64 (a1 + (128 : Int))))) + (127 : Int))))))), .one (.sc (.int .i64 (0 : Int)))] : Tm) = halterref26_Of.R r ∧ ([] : List Box) = []))))))))))))) ∧ ((decide (a1 < (1 : Int))) = true → ((decide (a1 < (1 : Int))) = true ∧ ((decide (a1 < (1 : Int))) = true ∧ (true = true ∧ (True ∧ (True ∧ ((True) ∧ (True) ∧ (.tup [.one (.sc (.int .u32 (0 : Int))), .one (.sc (.int .i64 (22 : Int)))] : Tm) = halterref26_Of.R r ∧ ([] : List Box) = []))))))))))) ∧ ((decide (a0 > (3 : Int))) = true → ((decide (a0 > (3 : Int))) = true ∧ ((decide (a0 > (3 : Int))) = true ∧ (true = true ∧ (true = true ∧ (true = true ∧ (true = true ∧ (True ∧ (True ∧ ((True) ∧ (True) ∧ (.tup [.one (.sc (.int .u32 (0 : Int))), .one (.sc (.int .i64 (22 : Int)))] : Tm) = halterref26_Of.R r ∧ ([] : List Box) = [])))))))))))))) ∧ ((decide (a0 < (1 : Int))) = true → ((decide (a0 < (1 : Int))) = true ∧ ((decide (a0 < (1 : Int))) = true ∧ (true = true ∧ (true = true ∧ (true = true ∧ (true = true ∧ (true = true ∧ (true = true ∧ (true = true ∧ (True ∧ (True ∧ ((True) ∧ (True) ∧ (.tup [.one (.sc (.int .u32 (0 : Int))), .one (.sc (.int .i64 (22 : Int)))] : Tm) = halterref26_Of.R r ∧ ([] : List Box) = [])))))))))))))))))))))) ∧ ((a0 == (0 : Int)) = false → ((a0 == (0 : Int)) = false ∧ ((a0 == (0 : Int)) = false ∧ (false = false ∧ (false = false ∧ (false = false ∧ (false = false ∧ (True) ∧ (((decide (a0 < (1 : Int))) = false → ((decide (a0 < (1 : Int))) = false ∧ (True) ∧ ((decide (a0 < (1 : Int))) = false ∧ (((decide (a0 > (3 : Int))) = false → ((decide (a0 > (3 : Int))) = false ∧ (True) ∧ ((decide (a0 > (3 : Int))) = false ∧ (((decide (a1 < (1 : Int))) = false → ((decide (a1 < (1 : Int))) = false ∧ (True) ∧ ((decide (a1 < (1 : Int))) = false ∧ (((decide (a1 > (31 : Int))) = true → (True ∧ (True ∧ ((True) ∧ (True) ∧ (.tup [.one (.sc (.int .u32 (0 : Int))), .one (.sc (.int .i64 (22 : Int)))] : Tm) = halterref26_Of.R r ∧ ([] : List Box) = [])))) ∧ ((decide (a1 > (31 : Int))) = false → (True) ∧ (((a0 == (1 : Int)) = true → (True ∧ (True) ∧ (True ∧ ((True) ∧ (True) ∧ (.tup [.one (.sc (.int .u32 (IntKind.wrap .u32 (a1)))), .one (.sc (.int .i64 (0 : Int)))] : Tm) = halterref26_Of.R r ∧ ([] : List Box) = [])))) ∧ ((a0 == (1 : Int)) = false → (True) ∧ (((a0 == (2 : Int)) = true → (True ∧ (True) ∧ (True) ∧ (True) ∧ (True ∧ ((True) ∧ (True) ∧ (.tup [.one (.sc (.int .u32 (IntKind.wrap .u32 ((IntKind.wrap .i64 ((IntKind.wrap .i64 ((256 : Int) * a1)) + (127 : Int))))))), .one (.sc (.int .i64 (0 : Int)))] : Tm) = halterref26_Of.R r ∧ ([] : List Box) = [])))) ∧ ((a0 == (2 : Int)) = false → (True ∧ (True ∧ (True) ∧ (True) ∧ (True) ∧ (True) ∧ (True ∧ ((True) ∧ (True) ∧ (.tup [.one (.sc (.int .u32 (IntKind.wrap .u32 ((IntKind.wrap .i64 ((IntKind.wrap .i64 ((256 : Int) * (IntKind.wrap .i64 (a1 + (128 : Int))))) + (127 : Int))))))), .one (.sc (.int .i64 (0 : Int)))] : Tm) = halterref26_Of.R r ∧ ([] : List Box) = []))))))))))))) ∧ ((decide (a1 < (1 : Int))) = true → ((decide (a1 < (1 : Int))) = true ∧ ((decide (a1 < (1 : Int))) = true ∧ (true = true ∧ (True ∧ (True ∧ ((True) ∧ (True) ∧ (.tup [.one (.sc (.int .u32 (0 : Int))), .one (.sc (.int .i64 (22 : Int)))] : Tm) = halterref26_Of.R r ∧ ([] : List Box) = []))))))))))) ∧ ((decide (a0 > (3 : Int))) = true → ((decide (a0 > (3 : Int))) = true ∧ ((decide (a0 > (3 : Int))) = true ∧ (true = true ∧ (true = true ∧ (true = true ∧ (true = true ∧ (True ∧ (True ∧ ((True) ∧ (True) ∧ (.tup [.one (.sc (.int .u32 (0 : Int))), .one (.sc (.int .i64 (22 : Int)))] : Tm) = halterref26_Of.R r ∧ ([] : List Box) = [])))))))))))))) ∧ ((decide (a0 < (1 : Int))) = true → ((decide (a0 < (1 : Int))) = true ∧ ((decide (a0 < (1 : Int))) = true ∧ (true = true ∧ (true = true ∧ (true = true ∧ (true = true ∧ (true = true ∧ (true = true ∧ (true = true ∧ (True ∧ (True ∧ ((True) ∧ (True) ∧ (.tup [.one (.sc (.int .u32 (0 : Int))), .one (.sc (.int .i64 (22 : Int)))] : Tm) = halterref26_Of.R r ∧ ([] : List Box) = []))))))))))))))))))))))) (by kernel_rfl) ?_)
  refine ⟨trivial, ?_⟩
  refine ⟨fun b1 => ?_, fun b1 => ?_⟩
  · rw [if_pos (beq_t b1)] at h
    refine ⟨b1, ?_⟩
    refine ⟨trivial, ?_⟩
    refine ⟨b1, ?_⟩
    refine ⟨fun b2 => ?_, fun b2 => ?_⟩
    · rw [if_pos (of_decide_eq_true b2)] at h
      refine ⟨b2, ?_⟩
      refine ⟨trivial, ?_⟩
      refine ⟨b2, ?_⟩
      refine ⟨fun b3 => ?_, fun b3 => ?_⟩
      · rw [if_pos (of_decide_eq_true b3)] at h
        refine ⟨trivial, ?_⟩
        refine ⟨trivial, ?_⟩
        refine ⟨trivial, ?_⟩
        refine ⟨trivial, ?_⟩
        obtain rfl := Option.some.inj h
        exact ⟨trivial, trivial, rfl, rfl⟩
      · rw [if_neg (of_decide_eq_false b3)] at h
        refine ⟨trivial, ?_⟩
        refine ⟨fun b4 => ?_, fun b4 => ?_⟩
        · rw [if_neg (of_decide_eq_false b4)] at h
          refine ⟨b4, ?_⟩
          refine ⟨trivial, ?_⟩
          refine ⟨b4, ?_⟩
          refine ⟨fun b5 => ?_, fun b5 => ?_⟩
          · rw [if_neg (of_decide_eq_false b5)] at h
            refine ⟨b5, ?_⟩
            refine ⟨trivial, ?_⟩
            refine ⟨b5, ?_⟩
            refine ⟨fun b6 => ?_, fun b6 => ?_⟩
            · rw [if_neg (of_decide_eq_false b6)] at h
              refine ⟨b6, ?_⟩
              refine ⟨trivial, ?_⟩
              refine ⟨b6, ?_⟩
              refine ⟨fun b7 => ?_, fun b7 => ?_⟩
              · rw [if_pos (of_decide_eq_true b7)] at h
                refine ⟨trivial, ?_⟩
                refine ⟨trivial, ?_⟩
                obtain rfl := Option.some.inj h
                exact ⟨trivial, trivial, rfl, rfl⟩
              · rw [if_neg (of_decide_eq_false b7)] at h
                refine ⟨trivial, ?_⟩
                refine ⟨fun b8 => ?_, fun b8 => ?_⟩
                · rw [if_pos (beq_t b8)] at h
                  refine ⟨trivial, ?_⟩
                  refine ⟨trivial, ?_⟩
                  refine ⟨trivial, ?_⟩
                  obtain rfl := Option.some.inj h
                  exact ⟨trivial, trivial, rfl, rfl⟩
                · rw [if_neg (beq_f b8)] at h
                  refine ⟨trivial, ?_⟩
                  refine ⟨fun b9 => ?_, fun b9 => ?_⟩
                  · rw [if_pos (beq_t b9)] at h
                    refine ⟨trivial, ?_⟩
                    refine ⟨trivial, ?_⟩
                    refine ⟨trivial, ?_⟩
                    refine ⟨trivial, ?_⟩
                    refine ⟨trivial, ?_⟩
                    obtain rfl := Option.some.inj h
                    exact ⟨trivial, trivial, rfl, rfl⟩
                  · rw [if_neg (beq_f b9)] at h
                    refine ⟨trivial, ?_⟩
                    refine ⟨trivial, ?_⟩
                    refine ⟨trivial, ?_⟩
                    refine ⟨trivial, ?_⟩
                    refine ⟨trivial, ?_⟩
                    refine ⟨trivial, ?_⟩
                    refine ⟨trivial, ?_⟩
                    obtain rfl := Option.some.inj h
                    exact ⟨trivial, trivial, rfl, rfl⟩
            · rw [if_pos (of_decide_eq_true b6)] at h
              refine ⟨b6, ?_⟩
              refine ⟨b6, ?_⟩
              refine ⟨rfl, ?_⟩
              refine ⟨trivial, ?_⟩
              refine ⟨trivial, ?_⟩
              obtain rfl := Option.some.inj h
              exact ⟨trivial, trivial, rfl, rfl⟩
          · rw [if_pos (of_decide_eq_true b5)] at h
            refine ⟨b5, ?_⟩
            refine ⟨b5, ?_⟩
            refine ⟨rfl, ?_⟩
            refine ⟨rfl, ?_⟩
            refine ⟨rfl, ?_⟩
            refine ⟨rfl, ?_⟩
            refine ⟨trivial, ?_⟩
            refine ⟨trivial, ?_⟩
            obtain rfl := Option.some.inj h
            exact ⟨trivial, trivial, rfl, rfl⟩
        · rw [if_pos (of_decide_eq_true b4)] at h
          refine ⟨b4, ?_⟩
          refine ⟨b4, ?_⟩
          refine ⟨rfl, ?_⟩
          refine ⟨rfl, ?_⟩
          refine ⟨rfl, ?_⟩
          refine ⟨rfl, ?_⟩
          refine ⟨rfl, ?_⟩
          refine ⟨rfl, ?_⟩
          refine ⟨rfl, ?_⟩
          refine ⟨trivial, ?_⟩
          refine ⟨trivial, ?_⟩
          obtain rfl := Option.some.inj h
          exact ⟨trivial, trivial, rfl, rfl⟩
    · rw [if_neg (of_decide_eq_false b2)] at h
      refine ⟨b2, ?_⟩
      refine ⟨b2, ?_⟩
      refine ⟨rfl, ?_⟩
      refine ⟨trivial, ?_⟩
      refine ⟨fun b10 => ?_, fun b10 => ?_⟩
      · rw [if_neg (of_decide_eq_false b10)] at h
        refine ⟨b10, ?_⟩
        refine ⟨trivial, ?_⟩
        refine ⟨b10, ?_⟩
        refine ⟨fun b11 => ?_, fun b11 => ?_⟩
        · rw [if_neg (of_decide_eq_false b11)] at h
          refine ⟨b11, ?_⟩
          refine ⟨trivial, ?_⟩
          refine ⟨b11, ?_⟩
          refine ⟨fun b12 => ?_, fun b12 => ?_⟩
          · rw [if_neg (of_decide_eq_false b12)] at h
            refine ⟨b12, ?_⟩
            refine ⟨trivial, ?_⟩
            refine ⟨b12, ?_⟩
            refine ⟨fun b13 => ?_, fun b13 => ?_⟩
            · rw [if_pos (of_decide_eq_true b13)] at h
              refine ⟨trivial, ?_⟩
              refine ⟨trivial, ?_⟩
              obtain rfl := Option.some.inj h
              exact ⟨trivial, trivial, rfl, rfl⟩
            · rw [if_neg (of_decide_eq_false b13)] at h
              refine ⟨trivial, ?_⟩
              refine ⟨fun b14 => ?_, fun b14 => ?_⟩
              · rw [if_pos (beq_t b14)] at h
                refine ⟨trivial, ?_⟩
                refine ⟨trivial, ?_⟩
                refine ⟨trivial, ?_⟩
                obtain rfl := Option.some.inj h
                exact ⟨trivial, trivial, rfl, rfl⟩
              · rw [if_neg (beq_f b14)] at h
                refine ⟨trivial, ?_⟩
                refine ⟨fun b15 => ?_, fun b15 => ?_⟩
                · rw [if_pos (beq_t b15)] at h
                  refine ⟨trivial, ?_⟩
                  refine ⟨trivial, ?_⟩
                  refine ⟨trivial, ?_⟩
                  refine ⟨trivial, ?_⟩
                  refine ⟨trivial, ?_⟩
                  obtain rfl := Option.some.inj h
                  exact ⟨trivial, trivial, rfl, rfl⟩
                · rw [if_neg (beq_f b15)] at h
                  refine ⟨trivial, ?_⟩
                  refine ⟨trivial, ?_⟩
                  refine ⟨trivial, ?_⟩
                  refine ⟨trivial, ?_⟩
                  refine ⟨trivial, ?_⟩
                  refine ⟨trivial, ?_⟩
                  refine ⟨trivial, ?_⟩
                  obtain rfl := Option.some.inj h
                  exact ⟨trivial, trivial, rfl, rfl⟩
          · rw [if_pos (of_decide_eq_true b12)] at h
            refine ⟨b12, ?_⟩
            refine ⟨b12, ?_⟩
            refine ⟨rfl, ?_⟩
            refine ⟨trivial, ?_⟩
            refine ⟨trivial, ?_⟩
            obtain rfl := Option.some.inj h
            exact ⟨trivial, trivial, rfl, rfl⟩
        · rw [if_pos (of_decide_eq_true b11)] at h
          refine ⟨b11, ?_⟩
          refine ⟨b11, ?_⟩
          refine ⟨rfl, ?_⟩
          refine ⟨rfl, ?_⟩
          refine ⟨rfl, ?_⟩
          refine ⟨rfl, ?_⟩
          refine ⟨trivial, ?_⟩
          refine ⟨trivial, ?_⟩
          obtain rfl := Option.some.inj h
          exact ⟨trivial, trivial, rfl, rfl⟩
      · rw [if_pos (of_decide_eq_true b10)] at h
        refine ⟨b10, ?_⟩
        refine ⟨b10, ?_⟩
        refine ⟨rfl, ?_⟩
        refine ⟨rfl, ?_⟩
        refine ⟨rfl, ?_⟩
        refine ⟨rfl, ?_⟩
        refine ⟨rfl, ?_⟩
        refine ⟨rfl, ?_⟩
        refine ⟨rfl, ?_⟩
        refine ⟨trivial, ?_⟩
        refine ⟨trivial, ?_⟩
        obtain rfl := Option.some.inj h
        exact ⟨trivial, trivial, rfl, rfl⟩
  · rw [if_neg (beq_f b1)] at h
    refine ⟨b1, ?_⟩
    refine ⟨b1, ?_⟩
    refine ⟨rfl, ?_⟩
    refine ⟨rfl, ?_⟩
    refine ⟨rfl, ?_⟩
    refine ⟨rfl, ?_⟩
    refine ⟨trivial, ?_⟩
    refine ⟨fun b16 => ?_, fun b16 => ?_⟩
    · rw [if_neg (of_decide_eq_false b16)] at h
      refine ⟨b16, ?_⟩
      refine ⟨trivial, ?_⟩
      refine ⟨b16, ?_⟩
      refine ⟨fun b17 => ?_, fun b17 => ?_⟩
      · rw [if_neg (of_decide_eq_false b17)] at h
        refine ⟨b17, ?_⟩
        refine ⟨trivial, ?_⟩
        refine ⟨b17, ?_⟩
        refine ⟨fun b18 => ?_, fun b18 => ?_⟩
        · rw [if_neg (of_decide_eq_false b18)] at h
          refine ⟨b18, ?_⟩
          refine ⟨trivial, ?_⟩
          refine ⟨b18, ?_⟩
          refine ⟨fun b19 => ?_, fun b19 => ?_⟩
          · rw [if_pos (of_decide_eq_true b19)] at h
            refine ⟨trivial, ?_⟩
            refine ⟨trivial, ?_⟩
            obtain rfl := Option.some.inj h
            exact ⟨trivial, trivial, rfl, rfl⟩
          · rw [if_neg (of_decide_eq_false b19)] at h
            refine ⟨trivial, ?_⟩
            refine ⟨fun b20 => ?_, fun b20 => ?_⟩
            · rw [if_pos (beq_t b20)] at h
              refine ⟨trivial, ?_⟩
              refine ⟨trivial, ?_⟩
              refine ⟨trivial, ?_⟩
              obtain rfl := Option.some.inj h
              exact ⟨trivial, trivial, rfl, rfl⟩
            · rw [if_neg (beq_f b20)] at h
              refine ⟨trivial, ?_⟩
              refine ⟨fun b21 => ?_, fun b21 => ?_⟩
              · rw [if_pos (beq_t b21)] at h
                refine ⟨trivial, ?_⟩
                refine ⟨trivial, ?_⟩
                refine ⟨trivial, ?_⟩
                refine ⟨trivial, ?_⟩
                refine ⟨trivial, ?_⟩
                obtain rfl := Option.some.inj h
                exact ⟨trivial, trivial, rfl, rfl⟩
              · rw [if_neg (beq_f b21)] at h
                refine ⟨trivial, ?_⟩
                refine ⟨trivial, ?_⟩
                refine ⟨trivial, ?_⟩
                refine ⟨trivial, ?_⟩
                refine ⟨trivial, ?_⟩
                refine ⟨trivial, ?_⟩
                refine ⟨trivial, ?_⟩
                obtain rfl := Option.some.inj h
                exact ⟨trivial, trivial, rfl, rfl⟩
        · rw [if_pos (of_decide_eq_true b18)] at h
          refine ⟨b18, ?_⟩
          refine ⟨b18, ?_⟩
          refine ⟨rfl, ?_⟩
          refine ⟨trivial, ?_⟩
          refine ⟨trivial, ?_⟩
          obtain rfl := Option.some.inj h
          exact ⟨trivial, trivial, rfl, rfl⟩
      · rw [if_pos (of_decide_eq_true b17)] at h
        refine ⟨b17, ?_⟩
        refine ⟨b17, ?_⟩
        refine ⟨rfl, ?_⟩
        refine ⟨rfl, ?_⟩
        refine ⟨rfl, ?_⟩
        refine ⟨rfl, ?_⟩
        refine ⟨trivial, ?_⟩
        refine ⟨trivial, ?_⟩
        obtain rfl := Option.some.inj h
        exact ⟨trivial, trivial, rfl, rfl⟩
    · rw [if_pos (of_decide_eq_true b16)] at h
      refine ⟨b16, ?_⟩
      refine ⟨b16, ?_⟩
      refine ⟨rfl, ?_⟩
      refine ⟨rfl, ?_⟩
      refine ⟨rfl, ?_⟩
      refine ⟨rfl, ?_⟩
      refine ⟨rfl, ?_⟩
      refine ⟨rfl, ?_⟩
      refine ⟨rfl, ?_⟩
      refine ⟨trivial, ?_⟩
      refine ⟨trivial, ?_⟩
      obtain rfl := Option.some.inj h
      exact ⟨trivial, trivial, rfl, rfl⟩
/-! halter/status.kind -/
def status_kind.f (a0 : Int) : Option (Int × Int) :=
  if (Int.tmod a0 (256 : Int)) = (0 : Int) then
    some ((0 : Int), (IntKind.wrap .i64 ((shr .u32 a0 (8 : Int)))))
  else
    if ¬ (Int.tmod a0 (256 : Int)) = (127 : Int) then
      some ((1 : Int), (IntKind.wrap .i64 (a0)))
    else
      if ¬ (bits .and .i64 (IntKind.wrap .i64 ((shr .u32 a0 (8 : Int)))) (128 : Int)) = (0 : Int) then
        some ((3 : Int), (bits .andNot .i64 (IntKind.wrap .i64 ((shr .u32 a0 (8 : Int)))) (128 : Int)))
      else
        some ((2 : Int), (IntKind.wrap .i64 ((shr .u32 a0 (8 : Int)))))
def status_kind.R (r : Int × Int) : Tm := .tup [.one (.sc (.int .i64 r.1)), .one (.sc (.int .i64 r.2))]
theorem status_kind.fun_ {a0 : Int} {r : Int × Int} (h : status_kind.f a0 = some r) : Fun cfg 14 [.one (.sc (.int .u32 a0))] [] (status_kind.R r) [] := by
  unfold status_kind.f at h
  refine fun_of_run cfg_ok (f := 14) (fn := Tryd.f14) Tryd.func14 rfl (by kernel_rfl) (rs := [.tmp 2, .tmp 3]) rfl (nt := 27) rfl (l := fin) (k := (.br (.adj [] (.adj [] (.adj [] .nil))) (.br (.adj [] (.adj [] (.adj [] .nil))) (.br (.adj [] (.adj [] (.adj [] .nil))) (.adj [] (.adj [] (.adj [] (.adj [] .nil)))))))) (to_goal (q := ((256 : Int) ≠ 0) ∧ (0 ≤ (8 : Int)) ∧ (True) ∧ (True) ∧ ((((Int.tmod a0 (256 : Int)) == (0 : Int)) = true → (True ∧ (True ∧ ((True) ∧ (True) ∧ (.tup [.one (.sc (.int .i64 (0 : Int))), .one (.sc (.int .i64 (IntKind.wrap .i64 ((shr .u32 a0 (8 : Int))))))] : Tm) = status_kind.R r ∧ ([] : List Box) = [])))) ∧ (((Int.tmod a0 (256 : Int)) == (0 : Int)) = false → (True) ∧ ((((Int.tmod a0 (256 : Int)) != (127 : Int)) = true → (True ∧ (True) ∧ (True ∧ ((True) ∧ (True) ∧ (.tup [.one (.sc (.int .i64 (1 : Int))), .one (.sc (.int .i64 (IntKind.wrap .i64 (a0))))] : Tm) = status_kind.R r ∧ ([] : List Box) = [])))) ∧ (((Int.tmod a0 (256 : Int)) != (127 : Int)) = false → (True) ∧ (True) ∧ ((((bits .and .i64 (IntKind.wrap .i64 ((shr .u32 a0 (8 : Int)))) (128 : Int)) != (0 : Int)) = true → (True ∧ (True) ∧ (True ∧ ((True) ∧ (True) ∧ (.tup [.one (.sc (.int .i64 (3 : Int))), .one (.sc (.int .i64 (bits .andNot .i64 (IntKind.wrap .i64 ((shr .u32 a0 (8 : Int)))) (128 : Int))))] : Tm) = status_kind.R r ∧ ([] : List Box) = [])))) ∧ (((bits .and .i64 (IntKind.wrap .i64 ((shr .u32 a0 (8 : Int)))) (128 : Int)) != (0 : Int)) = false → (True ∧ (True ∧ (True ∧ ((True) ∧ (True) ∧ (.tup [.one (.sc (.int .i64 (2 : Int))), .one (.sc (.int .i64 (IntKind.wrap .i64 ((shr .u32 a0 (8 : Int))))))] : Tm) = status_kind.R r ∧ ([] : List Box) = []))))))))))) (by kernel_rfl) ?_)
  refine ⟨(by decide), ?_⟩
  refine ⟨(by decide), ?_⟩
  refine ⟨trivial, ?_⟩
  refine ⟨trivial, ?_⟩
  refine ⟨fun b1 => ?_, fun b1 => ?_⟩
  · rw [if_pos (beq_t b1)] at h
    refine ⟨trivial, ?_⟩
    refine ⟨trivial, ?_⟩
    obtain rfl := Option.some.inj h
    exact ⟨trivial, trivial, rfl, rfl⟩
  · rw [if_neg (beq_f b1)] at h
    refine ⟨trivial, ?_⟩
    refine ⟨fun b2 => ?_, fun b2 => ?_⟩
    · rw [if_pos (bne_t b2)] at h
      refine ⟨trivial, ?_⟩
      refine ⟨trivial, ?_⟩
      refine ⟨trivial, ?_⟩
      obtain rfl := Option.some.inj h
      exact ⟨trivial, trivial, rfl, rfl⟩
    · rw [if_neg (not_not_intro (bne_f b2))] at h
      refine ⟨trivial, ?_⟩
      refine ⟨trivial, ?_⟩
      refine ⟨fun b3 => ?_, fun b3 => ?_⟩
      · rw [if_pos (bne_t b3)] at h
        refine ⟨trivial, ?_⟩
        refine ⟨trivial, ?_⟩
        refine ⟨trivial, ?_⟩
        obtain rfl := Option.some.inj h
        exact ⟨trivial, trivial, rfl, rfl⟩
      · rw [if_neg (not_not_intro (bne_f b3))] at h
        refine ⟨trivial, ?_⟩
        refine ⟨trivial, ?_⟩
        refine ⟨trivial, ?_⟩
        obtain rfl := Option.some.inj h
        exact ⟨trivial, trivial, rfl, rfl⟩
/-! halter/status.What -/
def status_What.f (a0 : Int) : Option (Int × Int × (Option Int)) :=
  (status_kind.f a0).bind fun t1 =>
  (status_Of.f t1.1 t1.2).bind fun t2 =>
  if ¬ (t2.2 = none) then
    some ((0 : Int), (0 : Int), (some (22 : Int)))
  else
    if ¬ t2.1 = a0 then
      some ((0 : Int), (0 : Int), (some (22 : Int)))
    else
      some (t1.1, t1.2, none)
def status_What.R (r : Int × Int × (Option Int)) : Tm := .tup [.one (.sc (.int .i64 r.1)), .one (.sc (.int .i64 r.2.1)), .one (.err r.2.2)]
theorem status_What.fun_ {a0 : Int} {r : Int × Int × (Option Int)} (h : status_What.f a0 = some r) : Fun cfg 7 [.one (.sc (.int .u32 a0))] [] (status_What.R r) [] := by
  unfold status_What.f at h
  refine fun_of_run cfg_ok (f := 7) (fn := Tryd.f7) Tryd.func7 rfl (by kernel_rfl) (rs := [.tmp 2, .tmp 3, .tmp 4]) rfl (nt := 30) rfl (l := fin) (k := (.call true [] (Int × Int) (fun t1 => status_kind.R t1) (fun t1 => (.call true [] (Int × (Option Int)) (fun t2 => status_Of.R t2) (fun t2 => (.br (.one true (.one true (.one true (.one true (.adj [] (.adj [] (.adj [] .nil))))))) (.one false (.one false (.one false (.br (.adj [] (.adj [] (.adj [] .nil))) (.adj [] (.adj [] (.adj [] (.adj [] .nil)))))))))))))) (to_goal (q := (∃ t1 : Int × Int, (Fun cfg 14 [.one (.sc (.int .u32 a0))] [] (status_kind.R t1) [] ∧ True) ∧ (∃ t2 : Int × (Option Int), (Fun cfg 5 [.one (.sc (.int .i64 t1.1)), .one (.sc (.int .i64 t1.2))] [] (status_Of.R t2) [] ∧ True) ∧ (True) ∧ (((!(Option.isNone t2.2)) = false → ((!(Option.isNone t2.2)) = false ∧ ((!(Option.isNone t2.2)) = false ∧ (True) ∧ ((!(Option.isNone t2.2)) = false ∧ (((t2.1 != a0) = true → (True ∧ (True ∧ ((True) ∧ (True) ∧ (.tup [.one (.sc (.int .i64 (0 : Int))), .one (.sc (.int .i64 (0 : Int))), .one (.err (some (22 : Int)))] : Tm) = status_What.R r ∧ ([] : List Box) = [])))) ∧ ((t2.1 != a0) = false → (True ∧ (True ∧ (True ∧ ((True) ∧ (True) ∧ (.tup [.one (.sc (.int .i64 t1.1)), .one (.sc (.int .i64 t1.2)), .one (.err none)] : Tm) = status_What.R r ∧ ([] : List Box) = [])))))))))) ∧ ((!(Option.isNone t2.2)) = true → ((!(Option.isNone t2.2)) = true ∧ ((!(Option.isNone t2.2)) = true ∧ ((!(Option.isNone t2.2)) = true ∧ (true = true ∧ (True ∧ (True ∧ ((True) ∧ (True) ∧ (.tup [.one (.sc (.int .i64 (0 : Int))), .one (.sc (.int .i64 (0 : Int))), .one (.err (some (22 : Int)))] : Tm) = status_What.R r ∧ ([] : List Box) = [])))))))))))) (by kernel_rfl) ?_)
  obtain ⟨t1, ht1, h⟩ := of_bind h
  refine ⟨t1, ⟨status_kind.fun_ ht1, trivial⟩, ?_⟩
  obtain ⟨t2, ht2, h⟩ := of_bind h
  refine ⟨t2, ⟨status_Of.fun_ ht2, trivial⟩, ?_⟩
  refine ⟨trivial, ?_⟩
  refine ⟨fun b3 => ?_, fun b3 => ?_⟩
  · rw [if_neg (not_not_intro (none_t (not_f b3)))] at h
    refine ⟨b3, ?_⟩
    refine ⟨b3, ?_⟩
    refine ⟨trivial, ?_⟩
    refine ⟨b3, ?_⟩
    refine ⟨fun b4 => ?_, fun b4 => ?_⟩
    · rw [if_pos (bne_t b4)] at h
      refine ⟨trivial, ?_⟩
      refine ⟨trivial, ?_⟩
      obtain rfl := Option.some.inj h
      exact ⟨trivial, trivial, rfl, rfl⟩
    · rw [if_neg (not_not_intro (bne_f b4))] at h
      refine ⟨trivial, ?_⟩
      refine ⟨trivial, ?_⟩
      refine ⟨trivial, ?_⟩
      obtain rfl := Option.some.inj h
      exact ⟨trivial, trivial, rfl, rfl⟩
  · rw [if_pos (none_f (not_t b3))] at h
    refine ⟨b3, ?_⟩
    refine ⟨b3, ?_⟩
    refine ⟨b3, ?_⟩
    refine ⟨rfl, ?_⟩
    refine ⟨trivial, ?_⟩
    refine ⟨trivial, ?_⟩
    obtain rfl := Option.some.inj h
    exact ⟨trivial, trivial, rfl, rfl⟩
/-! halter/halterref26.What -/
def halterref26_What.l1 (x1 : Int) (a0 : Int) : Nat → Int → Option ((Unit) ⊕ (Int))
  | 0, _ => none
  | n + 1, x17 =>
    if x17 < (256 : Int) then
      (halterref26_Of.f x1 x17).bind fun t25 =>
      if t25.2 = (0 : Int) then
        if t25.1 = a0 then
          some (.inr x17)
        else
          halterref26_What.l1 x1 a0 n (IntKind.wrap .i64 (x17 + (1 : Int)))
      else
        halterref26_What.l1 x1 a0 n (IntKind.wrap .i64 (x17 + (1 : Int)))
    else
      some (.inl ())
def halterref26_What.l1_S (x1 : Int) (a0 : Int) (x17 : Int) : St := ⟨[.v (.one (.sc (.int .u32 a0))), .any, .any, .any, .any, .v (.one (.sc (.int .i64 x1))), .v (.one (.sc (.int .i64 x17))), .any, .any, .any, .any, .any, .any, .any, .any, .any, .any, .any, .any, .any, .any, .any, .any, .any, .any, .any, .any, .any, .any, .any, .any, .any], [], 0⟩
def halterref26_What.l1_Q (x1 : Int) (a0 : Int) : (Unit) ⊕ (Int) → Exit → St → Prop
  | .inl t => fun e s => e = (.exit 2) ∧ s = ⟨[.v (.one (.sc (.int .u32 a0))), .any, .any, .any, .any, .v (.one (.sc (.int .i64 x1))), .any, .any, .any, .any, .any, .any, .any, .any, .any, .any, .any, .any, .any, .any, .any, .any, .any, .any, .any, .any, .any, .any, .any, .any, .any, .any], [], 0⟩
  | .inr t => fun e s => e = .ret ∧ s = ⟨[.any, .any, .v (.one (.sc (.int .i64 x1))), .v (.one (.sc (.int .i64 t))), .v (.one (.sc (.int .i64 (0 : Int)))), .any, .any, .any, .any, .any, .any, .any, .any, .any, .any, .any, .any, .any, .any, .any, .any, .any, .any, .any, .any, .any, .any, .any, .any, .any, .any, .any], [], 0⟩
theorem halterref26_What.l1_ok (x1 : Int) (a0 : Int) : ∀ (n : Nat) (x17 : Int) (r : (Unit) ⊕ (Int)), halterref26_What.l1 x1 a0 n x17 = some r → TripN cfg (cpath (Tryd.f8.body.getD .skip) [1, 0, 1, 0, 0, 1, 0, 0, 1, 0, 0]) n (halterref26_What.l1_S x1 a0 x17) (halterref26_What.l1_Q x1 a0 r) := by
  intro n
  induction n with
  | zero => intro x17 r h; cases h
  | succ n ih =>
    intro x17 r h
    rw [halterref26_What.l1] at h
    refine TripN.of_run cfg_ok (k := (.br (.call true [] (Int × Int) (fun t25 => halterref26_Of.R t25) (fun t25 => (.br (.one true (.one true (.one true (.br (.adj [] (.adj [.keep [2, 3, 4], .drop 0] .nil)) (.adj [] (.adj [] (.adj [.keep [0, 5, 6], .drop 0] .nil))))))) (.one false (.one false (.one false (.one false (.adj [] (.adj [] (.adj [.keep [0, 5, 6], .drop 0] .nil)))))))))) (.adj [.keep [0, 5], .drop 0] .nil))) (to_goal (q := (True) ∧ (((decide (x17 < (256 : Int))) = true → (∃ t25 : Int × Int, (Fun cfg 6 [.one (.sc (.int .i64 x1)), .one (.sc (.int .i64 x17))] [] (halterref26_Of.R t25) [] ∧ True) ∧ (True) ∧ (((t25.2 == (0 : Int)) = true → ((t25.2 == (0 : Int)) = true ∧ ((t25.2 == (0 : Int)) = true ∧ (True) ∧ ((t25.2 == (0 : Int)) = true ∧ (((t25.1 == a0) = true → (True ∧ (((True) ∧ (True) ∧ True) ∧ halterref26_What.l1_Q x1 a0 r .ret ⟨[.any, .any, .v (.one (.sc (.int .i64 x1))), .v (.one (.sc (.int .i64 x17))), .v (.one (.sc (.int .i64 (0 : Int)))), .any, .any, .any, .any, .any, .any, .any, .any, .any, .any, .any, .any, .any, .any, .any, .any, .any, .any, .any, .any, .any, .any, .any, .any, .any, .any, .any], [], 0⟩))) ∧ ((t25.1 == a0) = false → (True ∧ (True ∧ (True) ∧ (((True) ∧ (True) ∧ True) ∧ TripN cfg (cpath (Tryd.f8.body.getD .skip) [1, 0, 1, 0, 0, 1, 0, 0, 1, 0, 0]) n (halterref26_What.l1_S x1 a0 (IntKind.wrap .i64 (x17 + (1 : Int)))) (halterref26_What.l1_Q x1 a0 r)))))))))) ∧ ((t25.2 == (0 : Int)) = false → ((t25.2 == (0 : Int)) = false ∧ ((t25.2 == (0 : Int)) = false ∧ ((t25.2 == (0 : Int)) = false ∧ (false = false ∧ (True ∧ (True ∧ (True) ∧ (((True) ∧ (True) ∧ True) ∧ TripN cfg (cpath (Tryd.f8.body.getD .skip) [1, 0, 1, 0, 0, 1, 0, 0, 1, 0, 0]) n (halterref26_What.l1_S x1 a0 (IntKind.wrap .i64 (x17 + (1 : Int)))) (halterref26_What.l1_Q x1 a0 r)))))))))))) ∧ ((decide (x17 < (256 : Int))) = false → (((True) ∧ (True) ∧ True) ∧ halterref26_What.l1_Q x1 a0 r (.exit 2) ⟨[.v (.one (.sc (.int .u32 a0))), .any, .any, .any, .any, .v (.one (.sc (.int .i64 x1))), .any, .any, .any, .any, .any, .any, .any, .any, .any, .any, .any, .any, .any, .any, .any, .any, .any, .any, .any, .any, .any, .any, .any, .any, .any, .any], [], 0⟩)))) (by kernel_rfl) ?_)
    refine ⟨trivial, ?_⟩
    refine ⟨fun b24 => ?_, fun b24 => ?_⟩
    · rw [if_pos (of_decide_eq_true b24)] at h
      obtain ⟨t25, ht25, h⟩ := of_bind h
      refine ⟨t25, ⟨halterref26_Of.fun_ ht25, trivial⟩, ?_⟩
      refine ⟨trivial, ?_⟩
      refine ⟨fun b26 => ?_, fun b26 => ?_⟩
      · rw [if_pos (beq_t b26)] at h
        refine ⟨b26, ?_⟩
        refine ⟨b26, ?_⟩
        refine ⟨trivial, ?_⟩
        refine ⟨b26, ?_⟩
        refine ⟨fun b27 => ?_, fun b27 => ?_⟩
        · rw [if_pos (beq_t b27)] at h
          refine ⟨trivial, ?_⟩
          obtain rfl := Option.some.inj h
          exact ⟨⟨trivial, trivial, trivial⟩, rfl, rfl⟩
        · rw [if_neg (beq_f b27)] at h
          refine ⟨trivial, ?_⟩
          refine ⟨trivial, ?_⟩
          refine ⟨trivial, ?_⟩
          exact ⟨⟨trivial, trivial, trivial⟩, ih (IntKind.wrap .i64 (x17 + (1 : Int))) r h⟩
      · rw [if_neg (beq_f b26)] at h
        refine ⟨b26, ?_⟩
        refine ⟨b26, ?_⟩
        refine ⟨b26, ?_⟩
        refine ⟨rfl, ?_⟩
        refine ⟨trivial, ?_⟩
        refine ⟨trivial, ?_⟩
        refine ⟨trivial, ?_⟩
        exact ⟨⟨trivial, trivial, trivial⟩, ih (IntKind.wrap .i64 (x17 + (1 : Int))) r h⟩
    · rw [if_neg (of_decide_eq_false b24)] at h
      obtain rfl := Option.some.inj h
      exact ⟨⟨trivial, trivial, trivial⟩, rfl, rfl⟩
def halterref26_What.l0 (a0 : Int) : Nat → Int → Option ((Unit) ⊕ (Int × Int))
  | 0, _ => none
  | n + 1, x1 =>
    if x1 < (4 : Int) then
      (halterref26_What.l1 x1 a0 FUEL (0 : Int)).bind fun t23 =>
      match t23 with
      | .inl t29 =>
        halterref26_What.l0 a0 n (IntKind.wrap .i64 (x1 + (1 : Int)))
      | .inr t30 =>
        some (.inr (x1, t30))
    else
      some (.inl ())
def halterref26_What.l0_S (a0 : Int) (x1 : Int) : St := ⟨[.v (.one (.sc (.int .u32 a0))), .any, .any, .any, .any, .v (.one (.sc (.int .i64 x1))), .any, .any, .any, .any, .any, .any, .any, .any, .any, .any, .any, .any, .any, .any, .any, .any, .any, .any, .any, .any, .any, .any, .any, .any, .any, .any], [], 0⟩
def halterref26_What.l0_Q (a0 : Int) : (Unit) ⊕ (Int × Int) → Exit → St → Prop
  | .inl t => fun e s => e = (.exit 0) ∧ s = ⟨[.any, .any, .any, .any, .any, .any, .any, .any, .any, .any, .any, .any, .any, .any, .any, .any, .any, .any, .any, .any, .any, .any, .any, .any, .any, .any, .any, .any, .any, .any, .any, .any], [], 0⟩
  | .inr t => fun e s => e = .ret ∧ s = ⟨[.any, .any, .v (.one (.sc (.int .i64 t.1))), .v (.one (.sc (.int .i64 t.2))), .v (.one (.sc (.int .i64 (0 : Int)))), .any, .any, .any, .any, .any, .any, .any, .any, .any, .any, .any, .any, .any, .any, .any, .any, .any, .any, .any, .any, .any, .any, .any, .any, .any, .any, .any], [], 0⟩
theorem halterref26_What.l0_ok (a0 : Int) : ∀ (n : Nat) (x1 : Int) (r : (Unit) ⊕ (Int × Int)), halterref26_What.l0 a0 n x1 = some r → TripN cfg (cpath (Tryd.f8.body.getD .skip) [1, 0, 1, 0, 0]) n (halterref26_What.l0_S a0 x1) (halterref26_What.l0_Q a0 r) := by
  intro n
  induction n with
  | zero => intro x1 r h; cases h
  | succ n ih =>
    intro x1 r h
    rw [halterref26_What.l0] at h
    refine TripN.of_run cfg_ok (k := (.br (.adj [] (.adj [] (.adj [] (.adj [] (.adj [.keep [0, 5, 6]] (.alt (.sub (Unit) (fun _ => (.exit 2)) (fun t29 => ⟨[.v (.one (.sc (.int .u32 a0))), .any, .any, .any, .any, .v (.one (.sc (.int .i64 x1))), .any, .any, .any, .any, .any, .any, .any, .any, .any, .any, .any, .any, .any, .any, .any, .any, .any, .any, .any, .any, .any, .any, .any, .any, .any, .any], [], 0⟩) (fun t29 => (.adj [] (.adj [.keep [0, 5], .drop 0] .nil)))) (.sub (Int) (fun _ => .ret) (fun t30 => ⟨[.any, .any, .v (.one (.sc (.int .i64 x1))), .v (.one (.sc (.int .i64 t30))), .v (.one (.sc (.int .i64 (0 : Int)))), .any, .any, .any, .any, .any, .any, .any, .any, .any, .any, .any, .any, .any, .any, .any, .any, .any, .any, .any, .any, .any, .any, .any, .any, .any, .any, .any], [], 0⟩) (fun t30 => .nil)))))))) (.adj [.keep [], .drop 0] .nil))) (to_goal (q := (True) ∧ (((decide (x1 < (4 : Int))) = true → (True ∧ (True ∧ (True ∧ (True ∧ (((True) ∧ True) ∧ ((∃ t29 : Unit, Trip cfg (.loop (cpath (Tryd.f8.body.getD .skip) [1, 0, 1, 0, 0, 1, 0, 0, 1, 0, 0])) ⟨[.v (.one (.sc (.int .u32 a0))), .any, .any, .any, .any, .v (.one (.sc (.int .i64 x1))), .v (.one (.sc (.int .i64 (0 : Int)))), .any, .any, .any, .any, .any, .any, .any, .any, .any, .any, .any, .any, .any, .any, .any, .any, .any, .any, .any, .any, .any, .any, .any, .any, .any], [], 0⟩ (fun e s => e = (.exit 2) ∧ s = ⟨[.v (.one (.sc (.int .u32 a0))), .any, .any, .any, .any, .v (.one (.sc (.int .i64 x1))), .any, .any, .any, .any, .any, .any, .any, .any, .any, .any, .any, .any, .any, .any, .any, .any, .any, .any, .any, .any, .any, .any, .any, .any, .any, .any], [], 0⟩) ∧ (True ∧ (True) ∧ (((True) ∧ (True) ∧ True) ∧ TripN cfg (cpath (Tryd.f8.body.getD .skip) [1, 0, 1, 0, 0]) n (halterref26_What.l0_S a0 (IntKind.wrap .i64 (x1 + (1 : Int)))) (halterref26_What.l0_Q a0 r)))) ∨ (∃ t30 : Int, Trip cfg (.loop (cpath (Tryd.f8.body.getD .skip) [1, 0, 1, 0, 0, 1, 0, 0, 1, 0, 0])) ⟨[.v (.one (.sc (.int .u32 a0))), .any, .any, .any, .any, .v (.one (.sc (.int .i64 x1))), .v (.one (.sc (.int .i64 (0 : Int)))), .any, .any, .any, .any, .any, .any, .any, .any, .any, .any, .any, .any, .any, .any, .any, .any, .any, .any, .any, .any, .any, .any, .any, .any, .any], [], 0⟩ (fun e s => e = .ret ∧ s = ⟨[.any, .any, .v (.one (.sc (.int .i64 x1))), .v (.one (.sc (.int .i64 t30))), .v (.one (.sc (.int .i64 (0 : Int)))), .any, .any, .any, .any, .any, .any, .any, .any, .any, .any, .any, .any, .any, .any, .any, .any, .any, .any, .any, .any, .any, .any, .any, .any, .any, .any, .any], [], 0⟩) ∧ (halterref26_What.l0_Q a0 r .ret ⟨[.any, .any, .v (.one (.sc (.int .i64 x1))), .v (.one (.sc (.int .i64 t30))), .v (.one (.sc (.int .i64 (0 : Int)))), .any, .any, .any, .any, .any, .any, .any, .any, .any, .any, .any, .any, .any, .any, .any, .any, .any, .any, .any, .any, .any, .any, .any, .any, .any, .any, .any], [], 0⟩))))))))) ∧ ((decide (x1 < (4 : Int))) = false → (((True) ∧ (True) ∧ True) ∧ halterref26_What.l0_Q a0 r (.exit 0) ⟨[.any, .any, .any, .any, .any, .any, .any, .any, .any, .any, .any, .any, .any, .any, .any, .any, .any, .any, .any, .any, .any, .any, .any, .any, .any, .any, .any, .any, .any, .any, .any, .any], [], 0⟩)))) (by kernel_rfl) ?_)
    refine ⟨trivial, ?_⟩
    refine ⟨fun b16 => ?_, fun b16 => ?_⟩
    · rw [if_pos (of_decide_eq_true b16)] at h
      refine ⟨trivial, ?_⟩
      refine ⟨trivial, ?_⟩
      refine ⟨trivial, ?_⟩
      refine ⟨trivial, ?_⟩
      obtain ⟨t23, ht23, h⟩ := of_bind h
      refine ⟨⟨trivial, trivial⟩, ?_⟩
      rcases t23 with t29 | t30
      · dsimp only at h
        left
        refine ⟨t29, Trip.loop FUEL (halterref26_What.l1_ok x1 a0 FUEL (0 : Int) (.inl t29) ht23), ?_⟩
        refine ⟨trivial, ?_⟩
        refine ⟨trivial, ?_⟩
        exact ⟨⟨trivial, trivial, trivial⟩, ih (IntKind.wrap .i64 (x1 + (1 : Int))) r h⟩
      · dsimp only at h
        right
        refine ⟨t30, Trip.loop FUEL (halterref26_What.l1_ok x1 a0 FUEL (0 : Int) (.inr t30) ht23), ?_⟩
        obtain rfl := Option.some.inj h
        exact ⟨rfl, rfl⟩
    · rw [if_neg (of_decide_eq_false b16)] at h
      obtain rfl := Option.some.inj h
      exact ⟨⟨trivial, trivial, trivial⟩, rfl, rfl⟩
def halterref26_What.f (a0 : Int) : Option (Int × Int × Int) :=
  (halterref26_What.l0 a0 FUEL (0 : Int)).bind fun t15 =>
  match t15 with
  | .inl t34 =>
    some ((0 : Int), (0 : Int), (22 : Int))
  | .inr t35 =>
    some (t35.1, t35.2, (0 : Int))
def halterref26_What.R (r : Int × Int × Int) : Tm := .tup [.one (.sc (.int .i64 r.1)), .one (.sc (.int .i64 r.2.1)), .one (.sc (.int .i64 r.2.2))]
theorem halterref26_What.fun_ {a0 : Int} {r : Int × Int × Int} (h : halterref26_What.f a0 = some r) : Fun cfg 8 [.one (.sc (.int .u32 a0))] [] (halterref26_What.R r) [] := by
  unfold halterref26_What.f at h
  refine fun_of_run cfg_ok (f := 8) (fn := Tryd.f8) Tryd.func8 rfl (by kernel_rfl) (rs := [.tmp 2, .tmp 3, .tmp 4]) rfl (nt := 32) rfl (l := fin) (k := (.adj [] (.adj [] (.adj [] (.adj [.keep [0, 5]] (.alt (.sub (Unit) (fun _ => (.exit 0)) (fun t34 => ⟨[.any, .any, .any, .any, .any, .any, .any, .any, .any, .any, .any, .any, .any, .any, .any, .any, .any, .any, .any, .any, .any, .any, .any, .any, .any, .any, .any, .any, .any, .any, .any, .any], [], 0⟩) (fun t34 => (.adj [] (.adj [] (.adj [] .nil))))) (.sub (Int × Int) (fun _ => .ret) (fun t35 => ⟨[.any, .any, .v (.one (.sc (.int .i64 t35.1))), .v (.one (.sc (.int .i64 t35.2))), .v (.one (.sc (.int .i64 (0 : Int)))), .any, .any, .any, .any, .any, .any, .any, .any, .any, .any, .any, .any, .any, .any, .any, .any, .any, .any, .any, .any, .any, .any, .any, .any, .any, .any, .any], [], 0⟩) (fun t35 => (.adj [] .nil))))))))) (to_goal (q := (True ∧ (True ∧ (True ∧ (((True) ∧ True) ∧ ((∃ t34 : Unit, Trip cfg (.loop (cpath (Tryd.f8.body.getD .skip) [1, 0, 1, 0, 0])) ⟨[.v (.one (.sc (.int .u32 a0))), .any, .any, .any, .any, .v (.one (.sc (.int .i64 (0 : Int)))), .any, .any, .any, .any, .any, .any, .any, .any, .any, .any, .any, .any, .any, .any, .any, .any, .any, .any, .any, .any, .any, .any, .any, .any, .any, .any], [], 0⟩ (fun e s => e = (.exit 0) ∧ s = ⟨[.any, .any, .any, .any, .any, .any, .any, .any, .any, .any, .any, .any, .any, .any, .any, .any, .any, .any, .any, .any, .any, .any, .any, .any, .any, .any, .any, .any, .any, .any, .any, .any], [], 0⟩) ∧ (True ∧ (True ∧ ((True) ∧ (True) ∧ (.tup [.one (.sc (.int .i64 (0 : Int))), .one (.sc (.int .i64 (0 : Int))), .one (.sc (.int .i64 (22 : Int)))] : Tm) = halterref26_What.R r ∧ ([] : List Box) = [])))) ∨ (∃ t35 : Int × Int, Trip cfg (.loop (cpath (Tryd.f8.body.getD .skip) [1, 0, 1, 0, 0])) ⟨[.v (.one (.sc (.int .u32 a0))), .any, .any, .any, .any, .v (.one (.sc (.int .i64 (0 : Int)))), .any, .any, .any, .any, .any, .any, .any, .any, .any, .any, .any, .any, .any, .any, .any, .any, .any, .any, .any, .any, .any, .any, .any, .any, .any, .any], [], 0⟩ (fun e s => e = .ret ∧ s = ⟨[.any, .any, .v (.one (.sc (.int .i64 t35.1))), .v (.one (.sc (.int .i64 t35.2))), .v (.one (.sc (.int .i64 (0 : Int)))), .any, .any, .any, .any, .any, .any, .any, .any, .any, .any, .any, .any, .any, .any, .any, .any, .any, .any, .any, .any, .any, .any, .any, .any, .any, .any, .any], [], 0⟩) ∧ ((True) ∧ (True) ∧ (.tup [.one (.sc (.int .i64 t35.1)), .one (.sc (.int .i64 t35.2)), .one (.sc (.int .i64 (0 : Int)))] : Tm) = halterref26_What.R r ∧ ([] : List Box) = [])))))))) (by kernel_rfl) ?_)
  refine ⟨trivial, ?_⟩
  refine ⟨trivial, ?_⟩
  refine ⟨trivial, ?_⟩
  obtain ⟨t15, ht15, h⟩ := of_bind h
  refine ⟨⟨trivial, trivial⟩, ?_⟩
  rcases t15 with t34 | t35
  · dsimp only at h
    left
    refine ⟨t34, Trip.loop FUEL (halterref26_What.l0_ok a0 FUEL (0 : Int) (.inl t34) ht15), ?_⟩
    refine ⟨trivial, ?_⟩
    refine ⟨trivial, ?_⟩
    obtain rfl := Option.some.inj h
    exact ⟨trivial, trivial, rfl, rfl⟩
  · dsimp only at h
    right
    refine ⟨t35, Trip.loop FUEL (halterref26_What.l0_ok a0 FUEL (0 : Int) (.inr t35) ht15), ?_⟩
    obtain rfl := Option.some.inj h
    exact ⟨trivial, trivial, rfl, rfl⟩
/-! internal/strconv.small -/
def internal_strconv_small.f (a0 : Int) : Option ByteArray :=
  if a0 < (10 : Int) then
    if ((0 ≤ (IntKind.wrap .i64 (a0 + (1 : Int))) ∧ (IntKind.wrap .i64 (a0 + (1 : Int))) ≤ (((ByteArray.size (⟨#[48, 49, 50, 51, 52, 53, 54, 55, 56, 57, 97, 98, 99, 100, 101, 102, 103, 104, 105, 106, 107, 108, 109, 110, 111, 112, 113, 114, 115, 116, 117, 118, 119, 120, 121, 122]⟩ : ByteArray)) : Nat) : Int))) ∧ ((0 ≤ a0 ∧ a0 ≤ (((Int.toNat (IntKind.wrap .i64 (a0 + (1 : Int)))) : Nat) : Int))) then
      some (ByteArray.extract (⟨#[48, 49, 50, 51, 52, 53, 54, 55, 56, 57, 97, 98, 99, 100, 101, 102, 103, 104, 105, 106, 107, 108, 109, 110, 111, 112, 113, 114, 115, 116, 117, 118, 119, 120, 121, 122]⟩ : ByteArray) (Int.toNat a0) (Int.toNat (IntKind.wrap .i64 (a0 + (1 : Int)))))
    else none
  else
    if ((0 ≤ (IntKind.wrap .i64 ((IntKind.wrap .i64 (a0 * (2 : Int))) + (2 : Int))) ∧ (IntKind.wrap .i64 ((IntKind.wrap .i64 (a0 * (2 : Int))) + (2 : Int))) ≤ (((ByteArray.size (⟨#[48, 48, 48, 49, 48, 50, 48, 51, 48, 52, 48, 53, 48, 54, 48, 55, 48, 56, 48, 57, 49, 48, 49, 49, 49, 50, 49, 51, 49, 52, 49, 53, 49, 54, 49, 55, 49, 56, 49, 57, 50, 48, 50, 49, 50, 50, 50, 51, 50, 52, 50, 53, 50, 54, 50, 55, 50, 56, 50, 57, 51, 48, 51, 49, 51, 50, 51, 51, 51, 52, 51, 53, 51, 54, 51, 55, 51, 56, 51, 57, 52, 48, 52, 49, 52, 50, 52, 51, 52, 52, 52, 53, 52, 54, 52, 55, 52, 56, 52, 57, 53, 48, 53, 49, 53, 50, 53, 51, 53, 52, 53, 53, 53, 54, 53, 55, 53, 56, 53, 57, 54, 48, 54, 49, 54, 50, 54, 51, 54, 52, 54, 53, 54, 54, 54, 55, 54, 56, 54, 57, 55, 48, 55, 49, 55, 50, 55, 51, 55, 52, 55, 53, 55, 54, 55, 55, 55, 56, 55, 57, 56, 48, 56, 49, 56, 50, 56, 51, 56, 52, 56, 53, 56, 54, 56, 55, 56, 56, 56, 57, 57, 48, 57, 49, 57, 50, 57, 51, 57, 52, 57, 53, 57, 54, 57, 55, 57, 56, 57, 57]⟩ : ByteArray)) : Nat) : Int))) ∧ ((0 ≤ (IntKind.wrap .i64 (a0 * (2 : Int))) ∧ (IntKind.wrap .i64 (a0 * (2 : Int))) ≤ (((Int.toNat (IntKind.wrap .i64 ((IntKind.wrap .i64 (a0 * (2 : Int))) + (2 : Int)))) : Nat) : Int))) then
      some (ByteArray.extract (⟨#[48, 48, 48, 49, 48, 50, 48, 51, 48, 52, 48, 53, 48, 54, 48, 55, 48, 56, 48, 57, 49, 48, 49, 49, 49, 50, 49, 51, 49, 52, 49, 53, 49, 54, 49, 55, 49, 56, 49, 57, 50, 48, 50, 49, 50, 50, 50, 51, 50, 52, 50, 53, 50, 54, 50, 55, 50, 56, 50, 57, 51, 48, 51, 49, 51, 50, 51, 51, 51, 52, 51, 53, 51, 54, 51, 55, 51, 56, 51, 57, 52, 48, 52, 49, 52, 50, 52, 51, 52, 52, 52, 53, 52, 54, 52, 55, 52, 56, 52, 57, 53, 48, 53, 49, 53, 50, 53, 51, 53, 52, 53, 53, 53, 54, 53, 55, 53, 56, 53, 57, 54, 48, 54, 49, 54, 50, 54, 51, 54, 52, 54, 53, 54, 54, 54, 55, 54, 56, 54, 57, 55, 48, 55, 49, 55, 50, 55, 51, 55, 52, 55, 53, 55, 54, 55, 55, 55, 56, 55, 57, 56, 48, 56, 49, 56, 50, 56, 51, 56, 52, 56, 53, 56, 54, 56, 55, 56, 56, 56, 57, 57, 48, 57, 49, 57, 50, 57, 51, 57, 52, 57, 53, 57, 54, 57, 55, 57, 56, 57, 57]⟩ : ByteArray) (Int.toNat (IntKind.wrap .i64 (a0 * (2 : Int)))) (Int.toNat (IntKind.wrap .i64 ((IntKind.wrap .i64 (a0 * (2 : Int))) + (2 : Int)))))
    else none
def internal_strconv_small.R (r : ByteArray) : Tm := .v (.one (.sc (.string r)))
theorem internal_strconv_small.fun_ {a0 : Int} {r : ByteArray} (h : internal_strconv_small.f a0 = some r) : Fun cfg 27 [.one (.sc (.int .i64 a0))] [] (internal_strconv_small.R r) [] := by
  unfold internal_strconv_small.f at h
  refine fun_of_run cfg_ok (f := 27) (fn := Tryd.f27) Tryd.func27 rfl (by kernel_rfl) (rs := [.tmp 2]) rfl (nt := 15) rfl (l := fin) (k := (.br (.adj [] (.adj [] (.adj [] .nil))) (.adj [] (.adj [] (.adj [] (.adj [] .nil)))))) (to_goal (q := (True) ∧ (((decide (a0 < (10 : Int))) = true → (True ∧ (True) ∧ (((0 ≤ (IntKind.wrap .i64 (a0 + (1 : Int))) ∧ (IntKind.wrap .i64 (a0 + (1 : Int))) ≤ (((ByteArray.size (⟨#[48, 49, 50, 51, 52, 53, 54, 55, 56, 57, 97, 98, 99, 100, 101, 102, 103, 104, 105, 106, 107, 108, 109, 110, 111, 112, 113, 114, 115, 116, 117, 118, 119, 120, 121, 122]⟩ : ByteArray)) : Nat) : Int))) ∧ ((0 ≤ a0 ∧ a0 ≤ (((Int.toNat (IntKind.wrap .i64 (a0 + (1 : Int)))) : Nat) : Int)))) ∧ (True ∧ ((True) ∧ (True) ∧ (.v (.one (.sc (.string (ByteArray.extract (⟨#[48, 49, 50, 51, 52, 53, 54, 55, 56, 57, 97, 98, 99, 100, 101, 102, 103, 104, 105, 106, 107, 108, 109, 110, 111, 112, 113, 114, 115, 116, 117, 118, 119, 120, 121, 122]⟩ : ByteArray) (Int.toNat a0) (Int.toNat (IntKind.wrap .i64 (a0 + (1 : Int)))))))) : Tm) = internal_strconv_small.R r ∧ ([] : List Box) = [])))) ∧ ((decide (a0 < (10 : Int))) = false → (True ∧ (True ∧ (True) ∧ (True) ∧ (True) ∧ (((0 ≤ (IntKind.wrap .i64 ((IntKind.wrap .i64 (a0 * (2 : Int))) + (2 : Int))) ∧ (IntKind.wrap .i64 ((IntKind.wrap .i64 (a0 * (2 : Int))) + (2 : Int))) ≤ (((ByteArray.size (⟨#[48, 48, 48, 49, 48, 50, 48, 51, 48, 52, 48, 53, 48, 54, 48, 55, 48, 56, 48, 57, 49, 48, 49, 49, 49, 50, 49, 51, 49, 52, 49, 53, 49, 54, 49, 55, 49, 56, 49, 57, 50, 48, 50, 49, 50, 50, 50, 51, 50, 52, 50, 53, 50, 54, 50, 55, 50, 56, 50, 57, 51, 48, 51, 49, 51, 50, 51, 51, 51, 52, 51, 53, 51, 54, 51, 55, 51, 56, 51, 57, 52, 48, 52, 49, 52, 50, 52, 51, 52, 52, 52, 53, 52, 54, 52, 55, 52, 56, 52, 57, 53, 48, 53, 49, 53, 50, 53, 51, 53, 52, 53, 53, 53, 54, 53, 55, 53, 56, 53, 57, 54, 48, 54, 49, 54, 50, 54, 51, 54, 52, 54, 53, 54, 54, 54, 55, 54, 56, 54, 57, 55, 48, 55, 49, 55, 50, 55, 51, 55, 52, 55, 53, 55, 54, 55, 55, 55, 56, 55, 57, 56, 48, 56, 49, 56, 50, 56, 51, 56, 52, 56, 53, 56, 54, 56, 55, 56, 56, 56, 57, 57, 48, 57, 49, 57, 50, 57, 51, 57, 52, 57, 53, 57, 54, 57, 55, 57, 56, 57, 57]⟩ : ByteArray)) : Nat) : Int))) ∧ ((0 ≤ (IntKind.wrap .i64 (a0 * (2 : Int))) ∧ (IntKind.wrap .i64 (a0 * (2 : Int))) ≤ (((Int.toNat (IntKind.wrap .i64 ((IntKind.wrap .i64 (a0 * (2 : Int))) + (2 : Int)))) : Nat) : Int)))) ∧ (True ∧ ((True) ∧ (True) ∧ (.v (.one (.sc (.string (ByteArray.extract (⟨#[48, 48, 48, 49, 48, 50, 48, 51, 48, 52, 48, 53, 48, 54, 48, 55, 48, 56, 48, 57, 49, 48, 49, 49, 49, 50, 49, 51, 49, 52, 49, 53, 49, 54, 49, 55, 49, 56, 49, 57, 50, 48, 50, 49, 50, 50, 50, 51, 50, 52, 50, 53, 50, 54, 50, 55, 50, 56, 50, 57, 51, 48, 51, 49, 51, 50, 51, 51, 51, 52, 51, 53, 51, 54, 51, 55, 51, 56, 51, 57, 52, 48, 52, 49, 52, 50, 52, 51, 52, 52, 52, 53, 52, 54, 52, 55, 52, 56, 52, 57, 53, 48, 53, 49, 53, 50, 53, 51, 53, 52, 53, 53, 53, 54, 53, 55, 53, 56, 53, 57, 54, 48, 54, 49, 54, 50, 54, 51, 54, 52, 54, 53, 54, 54, 54, 55, 54, 56, 54, 57, 55, 48, 55, 49, 55, 50, 55, 51, 55, 52, 55, 53, 55, 54, 55, 55, 55, 56, 55, 57, 56, 48, 56, 49, 56, 50, 56, 51, 56, 52, 56, 53, 56, 54, 56, 55, 56, 56, 56, 57, 57, 48, 57, 49, 57, 50, 57, 51, 57, 52, 57, 53, 57, 54, 57, 55, 57, 56, 57, 57]⟩ : ByteArray) (Int.toNat (IntKind.wrap .i64 (a0 * (2 : Int)))) (Int.toNat (IntKind.wrap .i64 ((IntKind.wrap .i64 (a0 * (2 : Int))) + (2 : Int)))))))) : Tm) = internal_strconv_small.R r ∧ ([] : List Box) = []))))))) (by kernel_rfl) ?_)
  refine ⟨trivial, ?_⟩
  refine ⟨fun b1 => ?_, fun b1 => ?_⟩
  · rw [if_pos (of_decide_eq_true b1)] at h
    refine ⟨trivial, ?_⟩
    refine ⟨trivial, ?_⟩
    obtain ⟨g2, h⟩ := of_guard h
    refine ⟨g2, ?_⟩
    refine ⟨trivial, ?_⟩
    obtain rfl := Option.some.inj h
    exact ⟨trivial, trivial, rfl, rfl⟩
  · rw [if_neg (of_decide_eq_false b1)] at h
    refine ⟨trivial, ?_⟩
    refine ⟨trivial, ?_⟩
    refine ⟨trivial, ?_⟩
    refine ⟨trivial, ?_⟩
    refine ⟨trivial, ?_⟩
    obtain ⟨g3, h⟩ := of_guard h
    refine ⟨g3, ?_⟩
    refine ⟨trivial, ?_⟩
    obtain rfl := Option.some.inj h
    exact ⟨trivial, trivial, rfl, rfl⟩
/-! math/bits.Len64 -/
def math_bits_Len64.f (a0 : Int) : Option Int :=
  if a0 ≥ (4294967296 : Int) then
    if (shr .u64 a0 (32 : Int)) ≥ (65536 : Int) then
      if (shr .u64 (shr .u64 a0 (32 : Int)) (16 : Int)) ≥ (256 : Int) then
        if 0 ≤ (IntKind.wrap .u8 ((shr .u64 (shr .u64 (shr .u64 a0 (32 : Int)) (16 : Int)) (8 : Int)))) ∧ (IntKind.wrap .u8 ((shr .u64 (shr .u64 (shr .u64 a0 (32 : Int)) (16 : Int)) (8 : Int)))) < (((ByteArray.size (⟨#[0, 1, 2, 2, 3, 3, 3, 3, 4, 4, 4, 4, 4, 4, 4, 4, 5, 5, 5, 5, 5, 5, 5, 5, 5, 5, 5, 5, 5, 5, 5, 5, 6, 6, 6, 6, 6, 6, 6, 6, 6, 6, 6, 6, 6, 6, 6, 6, 6, 6, 6, 6, 6, 6, 6, 6, 6, 6, 6, 6, 6, 6, 6, 6, 7, 7, 7, 7, 7, 7, 7, 7, 7, 7, 7, 7, 7, 7, 7, 7, 7, 7, 7, 7, 7, 7, 7, 7, 7, 7, 7, 7, 7, 7, 7, 7, 7, 7, 7, 7, 7, 7, 7, 7, 7, 7, 7, 7, 7, 7, 7, 7, 7, 7, 7, 7, 7, 7, 7, 7, 7, 7, 7, 7, 7, 7, 7, 7, 8, 8, 8, 8, 8, 8, 8, 8, 8, 8, 8, 8, 8, 8, 8, 8, 8, 8, 8, 8, 8, 8, 8, 8, 8, 8, 8, 8, 8, 8, 8, 8, 8, 8, 8, 8, 8, 8, 8, 8, 8, 8, 8, 8, 8, 8, 8, 8, 8, 8, 8, 8, 8, 8, 8, 8, 8, 8, 8, 8, 8, 8, 8, 8, 8, 8, 8, 8, 8, 8, 8, 8, 8, 8, 8, 8, 8, 8, 8, 8, 8, 8, 8, 8, 8, 8, 8, 8, 8, 8, 8, 8, 8, 8, 8, 8, 8, 8, 8, 8, 8, 8, 8, 8, 8, 8, 8, 8, 8, 8, 8, 8, 8, 8, 8, 8, 8, 8, 8, 8, 8, 8, 8, 8, 8, 8, 8, 8]⟩ : ByteArray)) : Nat) : Int) then
          some (IntKind.wrap .i64 ((56 : Int) + (IntKind.wrap .i64 ((bt (⟨#[0, 1, 2, 2, 3, 3, 3, 3, 4, 4, 4, 4, 4, 4, 4, 4, 5, 5, 5, 5, 5, 5, 5, 5, 5, 5, 5, 5, 5, 5, 5, 5, 6, 6, 6, 6, 6, 6, 6, 6, 6, 6, 6, 6, 6, 6, 6, 6, 6, 6, 6, 6, 6, 6, 6, 6, 6, 6, 6, 6, 6, 6, 6, 6, 7, 7, 7, 7, 7, 7, 7, 7, 7, 7, 7, 7, 7, 7, 7, 7, 7, 7, 7, 7, 7, 7, 7, 7, 7, 7, 7, 7, 7, 7, 7, 7, 7, 7, 7, 7, 7, 7, 7, 7, 7, 7, 7, 7, 7, 7, 7, 7, 7, 7, 7, 7, 7, 7, 7, 7, 7, 7, 7, 7, 7, 7, 7, 7, 8, 8, 8, 8, 8, 8, 8, 8, 8, 8, 8, 8, 8, 8, 8, 8, 8, 8, 8, 8, 8, 8, 8, 8, 8, 8, 8, 8, 8, 8, 8, 8, 8, 8, 8, 8, 8, 8, 8, 8, 8, 8, 8, 8, 8, 8, 8, 8, 8, 8, 8, 8, 8, 8, 8, 8, 8, 8, 8, 8, 8, 8, 8, 8, 8, 8, 8, 8, 8, 8, 8, 8, 8, 8, 8, 8, 8, 8, 8, 8, 8, 8, 8, 8, 8, 8, 8, 8, 8, 8, 8, 8, 8, 8, 8, 8, 8, 8, 8, 8, 8, 8, 8, 8, 8, 8, 8, 8, 8, 8, 8, 8, 8, 8, 8, 8, 8, 8, 8, 8, 8, 8, 8, 8, 8, 8, 8, 8]⟩ : ByteArray) (IntKind.wrap .u8 ((shr .u64 (shr .u64 (shr .u64 a0 (32 : Int)) (16 : Int)) (8 : Int)))))))))
        else none
      else
        if 0 ≤ (IntKind.wrap .u8 ((shr .u64 (shr .u64 a0 (32 : Int)) (16 : Int)))) ∧ (IntKind.wrap .u8 ((shr .u64 (shr .u64 a0 (32 : Int)) (16 : Int)))) < (((ByteArray.size (⟨#[0, 1, 2, 2, 3, 3, 3, 3, 4, 4, 4, 4, 4, 4, 4, 4, 5, 5, 5, 5, 5, 5, 5, 5, 5, 5, 5, 5, 5, 5, 5, 5, 6, 6, 6, 6, 6, 6, 6, 6, 6, 6, 6, 6, 6, 6, 6, 6, 6, 6, 6, 6, 6, 6, 6, 6, 6, 6, 6, 6, 6, 6, 6, 6, 7, 7, 7, 7, 7, 7, 7, 7, 7, 7, 7, 7, 7, 7, 7, 7, 7, 7, 7, 7, 7, 7, 7, 7, 7, 7, 7, 7, 7, 7, 7, 7, 7, 7, 7, 7, 7, 7, 7, 7, 7, 7, 7, 7, 7, 7, 7, 7, 7, 7, 7, 7, 7, 7, 7, 7, 7, 7, 7, 7, 7, 7, 7, 7, 8, 8, 8, 8, 8, 8, 8, 8, 8, 8, 8, 8, 8, 8, 8, 8, 8, 8, 8, 8, 8, 8, 8, 8, 8, 8, 8, 8, 8, 8, 8, 8, 8, 8, 8, 8, 8, 8, 8, 8, 8, 8, 8, 8, 8, 8, 8, 8, 8, 8, 8, 8, 8, 8, 8, 8, 8, 8, 8, 8, 8, 8, 8, 8, 8, 8, 8, 8, 8, 8, 8, 8, 8, 8, 8, 8, 8, 8, 8, 8, 8, 8, 8, 8, 8, 8, 8, 8, 8, 8, 8, 8, 8, 8, 8, 8, 8, 8, 8, 8, 8, 8, 8, 8, 8, 8, 8, 8, 8, 8, 8, 8, 8, 8, 8, 8, 8, 8, 8, 8, 8, 8, 8, 8, 8, 8, 8, 8]⟩ : ByteArray)) : Nat) : Int) then
          some (IntKind.wrap .i64 ((48 : Int) + (IntKind.wrap .i64 ((bt (⟨#[0, 1, 2, 2, 3, 3, 3, 3, 4, 4, 4, 4, 4, 4, 4, 4, 5, 5, 5, 5, 5, 5, 5, 5, 5, 5, 5, 5, 5, 5, 5, 5, 6, 6, 6, 6, 6, 6, 6, 6, 6, 6, 6, 6, 6, 6, 6, 6, 6, 6, 6, 6, 6, 6, 6, 6, 6, 6, 6, 6, 6, 6, 6, 6, 7, 7, 7, 7, 7, 7, 7, 7, 7, 7, 7, 7, 7, 7, 7, 7, 7, 7, 7, 7, 7, 7, 7, 7, 7, 7, 7, 7, 7, 7, 7, 7, 7, 7, 7, 7, 7, 7, 7, 7, 7, 7, 7, 7, 7, 7, 7, 7, 7, 7, 7, 7, 7, 7, 7, 7, 7, 7, 7, 7, 7, 7, 7, 7, 8, 8, 8, 8, 8, 8, 8, 8, 8, 8, 8, 8, 8, 8, 8, 8, 8, 8, 8, 8, 8, 8, 8, 8, 8, 8, 8, 8, 8, 8, 8, 8, 8, 8, 8, 8, 8, 8, 8, 8, 8, 8, 8, 8, 8, 8, 8, 8, 8, 8, 8, 8, 8, 8, 8, 8, 8, 8, 8, 8, 8, 8, 8, 8, 8, 8, 8, 8, 8, 8, 8, 8, 8, 8, 8, 8, 8, 8, 8, 8, 8, 8, 8, 8, 8, 8, 8, 8, 8, 8, 8, 8, 8, 8, 8, 8, 8, 8, 8, 8, 8, 8, 8, 8, 8, 8, 8, 8, 8, 8, 8, 8, 8, 8, 8, 8, 8, 8, 8, 8, 8, 8, 8, 8, 8, 8, 8, 8]⟩ : ByteArray) (IntKind.wrap .u8 ((shr .u64 (shr .u64 a0 (32 : Int)) (16 : Int)))))))))
        else none
    else
      if (shr .u64 a0 (32 : Int)) ≥ (256 : Int) then
        if 0 ≤ (IntKind.wrap .u8 ((shr .u64 (shr .u64 a0 (32 : Int)) (8 : Int)))) ∧ (IntKind.wrap .u8 ((shr .u64 (shr .u64 a0 (32 : Int)) (8 : Int)))) < (((ByteArray.size (⟨#[0, 1, 2, 2, 3, 3, 3, 3, 4, 4, 4, 4, 4, 4, 4, 4, 5, 5, 5, 5, 5, 5, 5, 5, 5, 5, 5, 5, 5, 5, 5, 5, 6, 6, 6, 6, 6, 6, 6, 6, 6, 6, 6, 6, 6, 6, 6, 6, 6, 6, 6, 6, 6, 6, 6, 6, 6, 6, 6, 6, 6, 6, 6, 6, 7, 7, 7, 7, 7, 7, 7, 7, 7, 7, 7, 7, 7, 7, 7, 7, 7, 7, 7, 7, 7, 7, 7, 7, 7, 7, 7, 7, 7, 7, 7, 7, 7, 7, 7, 7, 7, 7, 7, 7, 7, 7, 7, 7, 7, 7, 7, 7, 7, 7, 7, 7, 7, 7, 7, 7, 7, 7, 7, 7, 7, 7, 7, 7, 8, 8, 8, 8, 8, 8, 8, 8, 8, 8, 8, 8, 8, 8, 8, 8, 8, 8, 8, 8, 8, 8, 8, 8, 8, 8, 8, 8, 8, 8, 8, 8, 8, 8, 8, 8, 8, 8, 8, 8, 8, 8, 8, 8, 8, 8, 8, 8, 8, 8, 8, 8, 8, 8, 8, 8, 8, 8, 8, 8, 8, 8, 8, 8, 8, 8, 8, 8, 8, 8, 8, 8, 8, 8, 8, 8, 8, 8, 8, 8, 8, 8, 8, 8, 8, 8, 8, 8, 8, 8, 8, 8, 8, 8, 8, 8, 8, 8, 8, 8, 8, 8, 8, 8, 8, 8, 8, 8, 8, 8, 8, 8, 8, 8, 8, 8, 8, 8, 8, 8, 8, 8, 8, 8, 8, 8, 8, 8]⟩ : ByteArray)) : Nat) : Int) then
          some (IntKind.wrap .i64 ((40 : Int) + (IntKind.wrap .i64 ((bt (⟨#[0, 1, 2, 2, 3, 3, 3, 3, 4, 4, 4, 4, 4, 4, 4, 4, 5, 5, 5, 5, 5, 5, 5, 5, 5, 5, 5, 5, 5, 5, 5, 5, 6, 6, 6, 6, 6, 6, 6, 6, 6, 6, 6, 6, 6, 6, 6, 6, 6, 6, 6, 6, 6, 6, 6, 6, 6, 6, 6, 6, 6, 6, 6, 6, 7, 7, 7, 7, 7, 7, 7, 7, 7, 7, 7, 7, 7, 7, 7, 7, 7, 7, 7, 7, 7, 7, 7, 7, 7, 7, 7, 7, 7, 7, 7, 7, 7, 7, 7, 7, 7, 7, 7, 7, 7, 7, 7, 7, 7, 7, 7, 7, 7, 7, 7, 7, 7, 7, 7, 7, 7, 7, 7, 7, 7, 7, 7, 7, 8, 8, 8, 8, 8, 8, 8, 8, 8, 8, 8, 8, 8, 8, 8, 8, 8, 8, 8, 8, 8, 8, 8, 8, 8, 8, 8, 8, 8, 8, 8, 8, 8, 8, 8, 8, 8, 8, 8, 8, 8, 8, 8, 8, 8, 8, 8, 8, 8, 8, 8, 8, 8, 8, 8, 8, 8, 8, 8, 8, 8, 8, 8, 8, 8, 8, 8, 8, 8, 8, 8, 8, 8, 8, 8, 8, 8, 8, 8, 8, 8, 8, 8, 8, 8, 8, 8, 8, 8, 8, 8, 8, 8, 8, 8, 8, 8, 8, 8, 8, 8, 8, 8, 8, 8, 8, 8, 8, 8, 8, 8, 8, 8, 8, 8, 8, 8, 8, 8, 8, 8, 8, 8, 8, 8, 8, 8, 8]⟩ : ByteArray) (IntKind.wrap .u8 ((shr .u64 (shr .u64 a0 (32 : Int)) (8 : Int)))))))))
        else none
      else
        if 0 ≤ (IntKind.wrap .u8 ((shr .u64 a0 (32 : Int)))) ∧ (IntKind.wrap .u8 ((shr .u64 a0 (32 : Int)))) < (((ByteArray.size (⟨#[0, 1, 2, 2, 3, 3, 3, 3, 4, 4, 4, 4, 4, 4, 4, 4, 5, 5, 5, 5, 5, 5, 5, 5, 5, 5, 5, 5, 5, 5, 5, 5, 6, 6, 6, 6, 6, 6, 6, 6, 6, 6, 6, 6, 6, 6, 6, 6, 6, 6, 6, 6, 6, 6, 6, 6, 6, 6, 6, 6, 6, 6, 6, 6, 7, 7, 7, 7, 7, 7, 7, 7, 7, 7, 7, 7, 7, 7, 7, 7, 7, 7, 7, 7, 7, 7, 7, 7, 7, 7, 7, 7, 7, 7, 7, 7, 7, 7, 7, 7, 7, 7, 7, 7, 7, 7, 7, 7, 7, 7, 7, 7, 7, 7, 7, 7, 7, 7, 7, 7, 7, 7, 7, 7, 7, 7, 7, 7, 8, 8, 8, 8, 8, 8, 8, 8, 8, 8, 8, 8, 8, 8, 8, 8, 8, 8, 8, 8, 8, 8, 8, 8, 8, 8, 8, 8, 8, 8, 8, 8, 8, 8, 8, 8, 8, 8, 8, 8, 8, 8, 8, 8, 8, 8, 8, 8, 8, 8, 8, 8, 8, 8, 8, 8, 8, 8, 8, 8, 8, 8, 8, 8, 8, 8, 8, 8, 8, 8, 8, 8, 8, 8, 8, 8, 8, 8, 8, 8, 8, 8, 8, 8, 8, 8, 8, 8, 8, 8, 8, 8, 8, 8, 8, 8, 8, 8, 8, 8, 8, 8, 8, 8, 8, 8, 8, 8, 8, 8, 8, 8, 8, 8, 8, 8, 8, 8, 8, 8, 8, 8, 8, 8, 8, 8, 8, 8]⟩ : ByteArray)) : Nat) : Int) then
          some (IntKind.wrap .i64 ((32 : Int) + (IntKind.wrap .i64 ((bt (⟨#[0, 1, 2, 2, 3, 3, 3, 3, 4, 4, 4, 4, 4, 4, 4, 4, 5, 5, 5, 5, 5, 5, 5, 5, 5, 5, 5, 5, 5, 5, 5, 5, 6, 6, 6, 6, 6, 6, 6, 6, 6, 6, 6, 6, 6, 6, 6, 6, 6, 6, 6, 6, 6, 6, 6, 6, 6, 6, 6, 6, 6, 6, 6, 6, 7, 7, 7, 7, 7, 7, 7, 7, 7, 7, 7, 7, 7, 7, 7, 7, 7, 7, 7, 7, 7, 7, 7, 7, 7, 7, 7, 7, 7, 7, 7, 7, 7, 7, 7, 7, 7, 7, 7, 7, 7, 7, 7, 7, 7, 7, 7, 7, 7, 7, 7, 7, 7, 7, 7, 7, 7, 7, 7, 7, 7, 7, 7, 7, 8, 8, 8, 8, 8, 8, 8, 8, 8, 8, 8, 8, 8, 8, 8, 8, 8, 8, 8, 8, 8, 8, 8, 8, 8, 8, 8, 8, 8, 8, 8, 8, 8, 8, 8, 8, 8, 8, 8, 8, 8, 8, 8, 8, 8, 8, 8, 8, 8, 8, 8, 8, 8, 8, 8, 8, 8, 8, 8, 8, 8, 8, 8, 8, 8, 8, 8, 8, 8, 8, 8, 8, 8, 8, 8, 8, 8, 8, 8, 8, 8, 8, 8, 8, 8, 8, 8, 8, 8, 8, 8, 8, 8, 8, 8, 8, 8, 8, 8, 8, 8, 8, 8, 8, 8, 8, 8, 8, 8, 8, 8, 8, 8, 8, 8, 8, 8, 8, 8, 8, 8, 8, 8, 8, 8, 8, 8, 8]⟩ : ByteArray) (IntKind.wrap .u8 ((shr .u64 a0 (32 : Int)))))))))
        else none
  else
    if a0 ≥ (65536 : Int) then
      if (shr .u64 a0 (16 : Int)) ≥ (256 : Int) then
        if 0 ≤ (IntKind.wrap .u8 ((shr .u64 (shr .u64 a0 (16 : Int)) (8 : Int)))) ∧ (IntKind.wrap .u8 ((shr .u64 (shr .u64 a0 (16 : Int)) (8 : Int)))) < (((ByteArray.size (⟨#[0, 1, 2, 2, 3, 3, 3, 3, 4, 4, 4, 4, 4, 4, 4, 4, 5, 5, 5, 5, 5, 5, 5, 5, 5, 5, 5, 5, 5, 5, 5, 5, 6, 6, 6, 6, 6, 6, 6, 6, 6, 6, 6, 6, 6, 6, 6, 6, 6, 6, 6, 6, 6, 6, 6, 6, 6, 6, 6, 6, 6, 6, 6, 6, 7, 7, 7, 7, 7, 7, 7, 7, 7, 7, 7, 7, 7, 7, 7, 7, 7, 7, 7, 7, 7, 7, 7, 7, 7, 7, 7, 7, 7, 7, 7, 7, 7, 7, 7, 7, 7, 7, 7, 7, 7, 7, 7, 7, 7, 7, 7, 7, 7, 7, 7, 7, 7, 7, 7, 7, 7, 7, 7, 7, 7, 7, 7, 7, 8, 8, 8, 8, 8, 8, 8, 8, 8, 8, 8, 8, 8, 8, 8, 8, 8, 8, 8, 8, 8, 8, 8, 8, 8, 8, 8, 8, 8, 8, 8, 8, 8, 8, 8, 8, 8, 8, 8, 8, 8, 8, 8, 8, 8, 8, 8, 8, 8, 8, 8, 8, 8, 8, 8, 8, 8, 8, 8, 8, 8, 8, 8, 8, 8, 8, 8, 8, 8, 8, 8, 8, 8, 8, 8, 8, 8, 8, 8, 8, 8, 8, 8, 8, 8, 8, 8, 8, 8, 8, 8, 8, 8, 8, 8, 8, 8, 8, 8, 8, 8, 8, 8, 8, 8, 8, 8, 8, 8, 8, 8, 8, 8, 8, 8, 8, 8, 8, 8, 8, 8, 8, 8, 8, 8, 8, 8, 8]⟩ : ByteArray)) : Nat) : Int) then
          some (IntKind.wrap .i64 ((24 : Int) + (IntKind.wrap .i64 ((bt (⟨#[0, 1, 2, 2, 3, 3, 3, 3, 4, 4, 4, 4, 4, 4, 4, 4, 5, 5, 5, 5, 5, 5, 5, 5, 5, 5, 5, 5, 5, 5, 5, 5, 6, 6, 6, 6, 6, 6, 6, 6, 6, 6, 6, 6, 6, 6, 6, 6, 6, 6, 6, 6, 6, 6, 6, 6, 6, 6, 6, 6, 6, 6, 6, 6, 7, 7, 7, 7, 7, 7, 7, 7, 7, 7, 7, 7, 7, 7, 7, 7, 7, 7, 7, 7, 7, 7, 7, 7, 7, 7, 7, 7, 7, 7, 7, 7, 7, 7, 7, 7, 7, 7, 7, 7, 7, 7, 7, 7, 7, 7, 7, 7, 7, 7, 7, 7, 7, 7, 7, 7, 7, 7, 7, 7, 7, 7, 7, 7, 8, 8, 8, 8, 8, 8, 8, 8, 8, 8, 8, 8, 8, 8, 8, 8, 8, 8, 8, 8, 8, 8, 8, 8, 8, 8, 8, 8, 8, 8, 8, 8, 8, 8, 8, 8, 8, 8, 8, 8, 8, 8, 8, 8, 8, 8, 8, 8, 8, 8, 8, 8, 8, 8, 8, 8, 8, 8, 8, 8, 8, 8, 8, 8, 8, 8, 8, 8, 8, 8, 8, 8, 8, 8, 8, 8, 8, 8, 8, 8, 8, 8, 8, 8, 8, 8, 8, 8, 8, 8, 8, 8, 8, 8, 8, 8, 8, 8, 8, 8, 8, 8, 8, 8, 8, 8, 8, 8, 8, 8, 8, 8, 8, 8, 8, 8, 8, 8, 8, 8, 8, 8, 8, 8, 8, 8, 8, 8]⟩ : ByteArray) (IntKind.wrap .u8 ((shr .u64 (shr .u64 a0 (16 : Int)) (8 : Int)))))))))
        else none
      else
        if 0 ≤ (IntKind.wrap .u8 ((shr .u64 a0 (16 : Int)))) ∧ (IntKind.wrap .u8 ((shr .u64 a0 (16 : Int)))) < (((ByteArray.size (⟨#[0, 1, 2, 2, 3, 3, 3, 3, 4, 4, 4, 4, 4, 4, 4, 4, 5, 5, 5, 5, 5, 5, 5, 5, 5, 5, 5, 5, 5, 5, 5, 5, 6, 6, 6, 6, 6, 6, 6, 6, 6, 6, 6, 6, 6, 6, 6, 6, 6, 6, 6, 6, 6, 6, 6, 6, 6, 6, 6, 6, 6, 6, 6, 6, 7, 7, 7, 7, 7, 7, 7, 7, 7, 7, 7, 7, 7, 7, 7, 7, 7, 7, 7, 7, 7, 7, 7, 7, 7, 7, 7, 7, 7, 7, 7, 7, 7, 7, 7, 7, 7, 7, 7, 7, 7, 7, 7, 7, 7, 7, 7, 7, 7, 7, 7, 7, 7, 7, 7, 7, 7, 7, 7, 7, 7, 7, 7, 7, 8, 8, 8, 8, 8, 8, 8, 8, 8, 8, 8, 8, 8, 8, 8, 8, 8, 8, 8, 8, 8, 8, 8, 8, 8, 8, 8, 8, 8, 8, 8, 8, 8, 8, 8, 8, 8, 8, 8, 8, 8, 8, 8, 8, 8, 8, 8, 8, 8, 8, 8, 8, 8, 8, 8, 8, 8, 8, 8, 8, 8, 8, 8, 8, 8, 8, 8, 8, 8, 8, 8, 8, 8, 8, 8, 8, 8, 8, 8, 8, 8, 8, 8, 8, 8, 8, 8, 8, 8, 8, 8, 8, 8, 8, 8, 8, 8, 8, 8, 8, 8, 8, 8, 8, 8, 8, 8, 8, 8, 8, 8, 8, 8, 8, 8, 8, 8, 8, 8, 8, 8, 8, 8, 8, 8, 8, 8, 8]⟩ : ByteArray)) : Nat) : Int) then
          some (IntKind.wrap .i64 ((16 : Int) + (IntKind.wrap .i64 ((bt (⟨#[0, 1, 2, 2, 3, 3, 3, 3, 4, 4, 4, 4, 4, 4, 4, 4, 5, 5, 5, 5, 5, 5, 5, 5, 5, 5, 5, 5, 5, 5, 5, 5, 6, 6, 6, 6, 6, 6, 6, 6, 6, 6, 6, 6, 6, 6, 6, 6, 6, 6, 6, 6, 6, 6, 6, 6, 6, 6, 6, 6, 6, 6, 6, 6, 7, 7, 7, 7, 7, 7, 7, 7, 7, 7, 7, 7, 7, 7, 7, 7, 7, 7, 7, 7, 7, 7, 7, 7, 7, 7, 7, 7, 7, 7, 7, 7, 7, 7, 7, 7, 7, 7, 7, 7, 7, 7, 7, 7, 7, 7, 7, 7, 7, 7, 7, 7, 7, 7, 7, 7, 7, 7, 7, 7, 7, 7, 7, 7, 8, 8, 8, 8, 8, 8, 8, 8, 8, 8, 8, 8, 8, 8, 8, 8, 8, 8, 8, 8, 8, 8, 8, 8, 8, 8, 8, 8, 8, 8, 8, 8, 8, 8, 8, 8, 8, 8, 8, 8, 8, 8, 8, 8, 8, 8, 8, 8, 8, 8, 8, 8, 8, 8, 8, 8, 8, 8, 8, 8, 8, 8, 8, 8, 8, 8, 8, 8, 8, 8, 8, 8, 8, 8, 8, 8, 8, 8, 8, 8, 8, 8, 8, 8, 8, 8, 8, 8, 8, 8, 8, 8, 8, 8, 8, 8, 8, 8, 8, 8, 8, 8, 8, 8, 8, 8, 8, 8, 8, 8, 8, 8, 8, 8, 8, 8, 8, 8, 8, 8, 8, 8, 8, 8, 8, 8, 8, 8]⟩ : ByteArray) (IntKind.wrap .u8 ((shr .u64 a0 (16 : Int)))))))))
        else none
    else
      if a0 ≥ (256 : Int) then
        if 0 ≤ (IntKind.wrap .u8 ((shr .u64 a0 (8 : Int)))) ∧ (IntKind.wrap .u8 ((shr .u64 a0 (8 : Int)))) < (((ByteArray.size (⟨#[0, 1, 2, 2, 3, 3, 3, 3, 4, 4, 4, 4, 4, 4, 4, 4, 5, 5, 5, 5, 5, 5, 5, 5, 5, 5, 5, 5, 5, 5, 5, 5, 6, 6, 6, 6, 6, 6, 6, 6, 6, 6, 6, 6, 6, 6, 6, 6, 6, 6, 6, 6, 6, 6, 6, 6, 6, 6, 6, 6, 6, 6, 6, 6, 7, 7, 7, 7, 7, 7, 7, 7, 7, 7, 7, 7, 7, 7, 7, 7, 7, 7, 7, 7, 7, 7, 7, 7, 7, 7, 7, 7, 7, 7, 7, 7, 7, 7, 7, 7, 7, 7, 7, 7, 7, 7, 7, 7, 7, 7, 7, 7, 7, 7, 7, 7, 7, 7, 7, 7, 7, 7, 7, 7, 7, 7, 7, 7, 8, 8, 8, 8, 8, 8, 8, 8, 8, 8, 8, 8, 8, 8, 8, 8, 8, 8, 8, 8, 8, 8, 8, 8, 8, 8, 8, 8, 8, 8, 8, 8, 8, 8, 8, 8, 8, 8, 8, 8, 8, 8, 8, 8, 8, 8, 8, 8, 8, 8, 8, 8, 8, 8, 8, 8, 8, 8, 8, 8, 8, 8, 8, 8, 8, 8, 8, 8, 8, 8, 8, 8, 8, 8, 8, 8, 8, 8, 8, 8, 8, 8, 8, 8, 8, 8, 8, 8, 8, 8, 8, 8, 8, 8, 8, 8, 8, 8, 8, 8, 8, 8, 8, 8, 8, 8, 8, 8, 8, 8, 8, 8, 8, 8, 8, 8, 8, 8, 8, 8, 8, 8, 8, 8, 8, 8, 8, 8]⟩ : ByteArray)) : Nat) : Int) then
          some (IntKind.wrap .i64 ((8 : Int) + (IntKind.wrap .i64 ((bt (⟨#[0, 1, 2, 2, 3, 3, 3, 3, 4, 4, 4, 4, 4, 4, 4, 4, 5, 5, 5, 5, 5, 5, 5, 5, 5, 5, 5, 5, 5, 5, 5, 5, 6, 6, 6, 6, 6, 6, 6, 6, 6, 6, 6, 6, 6, 6, 6, 6, 6, 6, 6, 6, 6, 6, 6, 6, 6, 6, 6, 6, 6, 6, 6, 6, 7, 7, 7, 7, 7, 7, 7, 7, 7, 7, 7, 7, 7, 7, 7, 7, 7, 7, 7, 7, 7, 7, 7, 7, 7, 7, 7, 7, 7, 7, 7, 7, 7, 7, 7, 7, 7, 7, 7, 7, 7, 7, 7, 7, 7, 7, 7, 7, 7, 7, 7, 7, 7, 7, 7, 7, 7, 7, 7, 7, 7, 7, 7, 7, 8, 8, 8, 8, 8, 8, 8, 8, 8, 8, 8, 8, 8, 8, 8, 8, 8, 8, 8, 8, 8, 8, 8, 8, 8, 8, 8, 8, 8, 8, 8, 8, 8, 8, 8, 8, 8, 8, 8, 8, 8, 8, 8, 8, 8, 8, 8, 8, 8, 8, 8, 8, 8, 8, 8, 8, 8, 8, 8, 8, 8, 8, 8, 8, 8, 8, 8, 8, 8, 8, 8, 8, 8, 8, 8, 8, 8, 8, 8, 8, 8, 8, 8, 8, 8, 8, 8, 8, 8, 8, 8, 8, 8, 8, 8, 8, 8, 8, 8, 8, 8, 8, 8, 8, 8, 8, 8, 8, 8, 8, 8, 8, 8, 8, 8, 8, 8, 8, 8, 8, 8, 8, 8, 8, 8, 8, 8, 8]⟩ : ByteArray) (IntKind.wrap .u8 ((shr .u64 a0 (8 : Int)))))))))
        else none
      else
        if 0 ≤ (IntKind.wrap .u8 (a0)) ∧ (IntKind.wrap .u8 (a0)) < (((ByteArray.size (⟨#[0, 1, 2, 2, 3, 3, 3, 3, 4, 4, 4, 4, 4, 4, 4, 4, 5, 5, 5, 5, 5, 5, 5, 5, 5, 5, 5, 5, 5, 5, 5, 5, 6, 6, 6, 6, 6, 6, 6, 6, 6, 6, 6, 6, 6, 6, 6, 6, 6, 6, 6, 6, 6, 6, 6, 6, 6, 6, 6, 6, 6, 6, 6, 6, 7, 7, 7, 7, 7, 7, 7, 7, 7, 7, 7, 7, 7, 7, 7, 7, 7, 7, 7, 7, 7, 7, 7, 7, 7, 7, 7, 7, 7, 7, 7, 7, 7, 7, 7, 7, 7, 7, 7, 7, 7, 7, 7, 7, 7, 7, 7, 7, 7, 7, 7, 7, 7, 7, 7, 7, 7, 7, 7, 7, 7, 7, 7, 7, 8, 8, 8, 8, 8, 8, 8, 8, 8, 8, 8, 8, 8, 8, 8, 8, 8, 8, 8, 8, 8, 8, 8, 8, 8, 8, 8, 8, 8, 8, 8, 8, 8, 8, 8, 8, 8, 8, 8, 8, 8, 8, 8, 8, 8, 8, 8, 8, 8, 8, 8, 8, 8, 8, 8, 8, 8, 8, 8, 8, 8, 8, 8, 8, 8, 8, 8, 8, 8, 8, 8, 8, 8, 8, 8, 8, 8, 8, 8, 8, 8, 8, 8, 8, 8, 8, 8, 8, 8, 8, 8, 8, 8, 8, 8, 8, 8, 8, 8, 8, 8, 8, 8, 8, 8, 8, 8, 8, 8, 8, 8, 8, 8, 8, 8, 8, 8, 8, 8, 8, 8, 8, 8, 8, 8, 8, 8, 8]⟩ : ByteArray)) : Nat) : Int) then
          some (IntKind.wrap .i64 ((0 : Int) + (IntKind.wrap .i64 ((bt (⟨#[0, 1, 2, 2, 3, 3, 3, 3, 4, 4, 4, 4, 4, 4, 4, 4, 5, 5, 5, 5, 5, 5, 5, 5, 5, 5, 5, 5, 5, 5, 5, 5, 6, 6, 6, 6, 6, 6, 6, 6, 6, 6, 6, 6, 6, 6, 6, 6, 6, 6, 6, 6, 6, 6, 6, 6, 6, 6, 6, 6, 6, 6, 6, 6, 7, 7, 7, 7, 7, 7, 7, 7, 7, 7, 7, 7, 7, 7, 7, 7, 7, 7, 7, 7, 7, 7, 7, 7, 7, 7, 7, 7, 7, 7, 7, 7, 7, 7, 7, 7, 7, 7, 7, 7, 7, 7, 7, 7, 7, 7, 7, 7, 7, 7, 7, 7, 7, 7, 7, 7, 7, 7, 7, 7, 7, 7, 7, 7, 8, 8, 8, 8, 8, 8, 8, 8, 8, 8, 8, 8, 8, 8, 8, 8, 8, 8, 8, 8, 8, 8, 8, 8, 8, 8, 8, 8, 8, 8, 8, 8, 8, 8, 8, 8, 8, 8, 8, 8, 8, 8, 8, 8, 8, 8, 8, 8, 8, 8, 8, 8, 8, 8, 8, 8, 8, 8, 8, 8, 8, 8, 8, 8, 8, 8, 8, 8, 8, 8, 8, 8, 8, 8, 8, 8, 8, 8, 8, 8, 8, 8, 8, 8, 8, 8, 8, 8, 8, 8, 8, 8, 8, 8, 8, 8, 8, 8, 8, 8, 8, 8, 8, 8, 8, 8, 8, 8, 8, 8, 8, 8, 8, 8, 8, 8, 8, 8, 8, 8, 8, 8, 8, 8, 8, 8, 8, 8]⟩ : ByteArray) (IntKind.wrap .u8 (a0)))))))
        else none
def math_bits_Len64.R (r : Int) : Tm := .v (.one (.sc (.int .i64 r)))
theorem math_bits_Len64.fun_ {a0 : Int} {r : Int} (h : math_bits_Len64.f a0 = some r) : Fun cfg 32 [.one (.sc (.int .u64 a0))] [] (math_bits_Len64.R r) [] := by
  unfold math_bits_Len64.f at h
  refine fun_of_run cfg_ok (f := 32) (fn := Tryd.f32) Tryd.func32 rfl (by kernel_rfl) (rs := [.tmp 2]) rfl (nt := 25) rfl (l := fin) (k := (.br (.br (.br (.adj [] (.adj [] (.adj [] (.adj [] (.adj [] .nil))))) (.adj [] (.adj [] (.adj [] (.adj [] .nil))))) (.br (.adj [] (.adj [] (.adj [] (.adj [] (.adj [] .nil))))) (.adj [] (.adj [] (.adj [] (.adj [] .nil)))))) (.br (.br (.adj [] (.adj [] (.adj [] (.adj [] (.adj [] .nil))))) (.adj [] (.adj [] (.adj [] (.adj [] .nil))))) (.br (.adj [] (.adj [] (.adj [] (.adj [] (.adj [] .nil))))) (.adj [] (.adj [] (.adj [] (.adj [] .nil)))))))) (to_goal (q := (True) ∧ (((decide (a0 ≥ (4294967296 : Int))) = true → (0 ≤ (32 : Int)) ∧ (True) ∧ (((decide ((shr .u64 a0 (32 : Int)) ≥ (65536 : Int))) = true → (0 ≤ (16 : Int)) ∧ (True) ∧ (True) ∧ (((decide ((shr .u64 (shr .u64 a0 (32 : Int)) (16 : Int)) ≥ (256 : Int))) = true → (True ∧ (0 ≤ (8 : Int)) ∧ (True ∧ (True) ∧ (True ∧ (True) ∧ (0 ≤ (IntKind.wrap .u8 ((shr .u64 (shr .u64 (shr .u64 a0 (32 : Int)) (16 : Int)) (8 : Int)))) ∧ (IntKind.wrap .u8 ((shr .u64 (shr .u64 (shr .u64 a0 (32 : Int)) (16 : Int)) (8 : Int)))) < (((ByteArray.size (⟨#[0, 1, 2, 2, 3, 3, 3, 3, 4, 4, 4, 4, 4, 4, 4, 4, 5, 5, 5, 5, 5, 5, 5, 5, 5, 5, 5, 5, 5, 5, 5, 5, 6, 6, 6, 6, 6, 6, 6, 6, 6, 6, 6, 6, 6, 6, 6, 6, 6, 6, 6, 6, 6, 6, 6, 6, 6, 6, 6, 6, 6, 6, 6, 6, 7, 7, 7, 7, 7, 7, 7, 7, 7, 7, 7, 7, 7, 7, 7, 7, 7, 7, 7, 7, 7, 7, 7, 7, 7, 7, 7, 7, 7, 7, 7, 7, 7, 7, 7, 7, 7, 7, 7, 7, 7, 7, 7, 7, 7, 7, 7, 7, 7, 7, 7, 7, 7, 7, 7, 7, 7, 7, 7, 7, 7, 7, 7, 7, 8, 8, 8, 8, 8, 8, 8, 8, 8, 8, 8, 8, 8, 8, 8, 8, 8, 8, 8, 8, 8, 8, 8, 8, 8, 8, 8, 8, 8, 8, 8, 8, 8, 8, 8, 8, 8, 8, 8, 8, 8, 8, 8, 8, 8, 8, 8, 8, 8, 8, 8, 8, 8, 8, 8, 8, 8, 8, 8, 8, 8, 8, 8, 8, 8, 8, 8, 8, 8, 8, 8, 8, 8, 8, 8, 8, 8, 8, 8, 8, 8, 8, 8, 8, 8, 8, 8, 8, 8, 8, 8, 8, 8, 8, 8, 8, 8, 8, 8, 8, 8, 8, 8, 8, 8, 8, 8, 8, 8, 8, 8, 8, 8, 8, 8, 8, 8, 8, 8, 8, 8, 8, 8, 8, 8, 8, 8, 8]⟩ : ByteArray)) : Nat) : Int)) ∧ (True) ∧ (True) ∧ (True ∧ ((True) ∧ (True) ∧ (.v (.one (.sc (.int .i64 (IntKind.wrap .i64 ((56 : Int) + (IntKind.wrap .i64 ((bt (⟨#[0, 1, 2, 2, 3, 3, 3, 3, 4, 4, 4, 4, 4, 4, 4, 4, 5, 5, 5, 5, 5, 5, 5, 5, 5, 5, 5, 5, 5, 5, 5, 5, 6, 6, 6, 6, 6, 6, 6, 6, 6, 6, 6, 6, 6, 6, 6, 6, 6, 6, 6, 6, 6, 6, 6, 6, 6, 6, 6, 6, 6, 6, 6, 6, 7, 7, 7, 7, 7, 7, 7, 7, 7, 7, 7, 7, 7, 7, 7, 7, 7, 7, 7, 7, 7, 7, 7, 7, 7, 7, 7, 7, 7, 7, 7, 7, 7, 7, 7, 7, 7, 7, 7, 7, 7, 7, 7, 7, 7, 7, 7, 7, 7, 7, 7, 7, 7, 7, 7, 7, 7, 7, 7, 7, 7, 7, 7, 7, 8, 8, 8, 8, 8, 8, 8, 8, 8, 8, 8, 8, 8, 8, 8, 8, 8, 8, 8, 8, 8, 8, 8, 8, 8, 8, 8, 8, 8, 8, 8, 8, 8, 8, 8, 8, 8, 8, 8, 8, 8, 8, 8, 8, 8, 8, 8, 8, 8, 8, 8, 8, 8, 8, 8, 8, 8, 8, 8, 8, 8, 8, 8, 8, 8, 8, 8, 8, 8, 8, 8, 8, 8, 8, 8, 8, 8, 8, 8, 8, 8, 8, 8, 8, 8, 8, 8, 8, 8, 8, 8, 8, 8, 8, 8, 8, 8, 8, 8, 8, 8, 8, 8, 8, 8, 8, 8, 8, 8, 8, 8, 8, 8, 8, 8, 8, 8, 8, 8, 8, 8, 8, 8, 8, 8, 8, 8, 8]⟩ : ByteArray) (IntKind.wrap .u8 ((shr .u64 (shr .u64 (shr .u64 a0 (32 : Int)) (16 : Int)) (8 : Int)))))))))))) : Tm) = math_bits_Len64.R r ∧ ([] : List Box) = [])))))) ∧ ((decide ((shr .u64 (shr .u64 a0 (32 : Int)) (16 : Int)) ≥ (256 : Int))) = false → (True ∧ (True ∧ (True) ∧ (0 ≤ (IntKind.wrap .u8 ((shr .u64 (shr .u64 a0 (32 : Int)) (16 : Int)))) ∧ (IntKind.wrap .u8 ((shr .u64 (shr .u64 a0 (32 : Int)) (16 : Int)))) < (((ByteArray.size (⟨#[0, 1, 2, 2, 3, 3, 3, 3, 4, 4, 4, 4, 4, 4, 4, 4, 5, 5, 5, 5, 5, 5, 5, 5, 5, 5, 5, 5, 5, 5, 5, 5, 6, 6, 6, 6, 6, 6, 6, 6, 6, 6, 6, 6, 6, 6, 6, 6, 6, 6, 6, 6, 6, 6, 6, 6, 6, 6, 6, 6, 6, 6, 6, 6, 7, 7, 7, 7, 7, 7, 7, 7, 7, 7, 7, 7, 7, 7, 7, 7, 7, 7, 7, 7, 7, 7, 7, 7, 7, 7, 7, 7, 7, 7, 7, 7, 7, 7, 7, 7, 7, 7, 7, 7, 7, 7, 7, 7, 7, 7, 7, 7, 7, 7, 7, 7, 7, 7, 7, 7, 7, 7, 7, 7, 7, 7, 7, 7, 8, 8, 8, 8, 8, 8, 8, 8, 8, 8, 8, 8, 8, 8, 8, 8, 8, 8, 8, 8, 8, 8, 8, 8, 8, 8, 8, 8, 8, 8, 8, 8, 8, 8, 8, 8, 8, 8, 8, 8, 8, 8, 8, 8, 8, 8, 8, 8, 8, 8, 8, 8, 8, 8, 8, 8, 8, 8, 8, 8, 8, 8, 8, 8, 8, 8, 8, 8, 8, 8, 8, 8, 8, 8, 8, 8, 8, 8, 8, 8, 8, 8, 8, 8, 8, 8, 8, 8, 8, 8, 8, 8, 8, 8, 8, 8, 8, 8, 8, 8, 8, 8, 8, 8, 8, 8, 8, 8, 8, 8, 8, 8, 8, 8, 8, 8, 8, 8, 8, 8, 8, 8, 8, 8, 8, 8, 8, 8]⟩ : ByteArray)) : Nat) : Int)) ∧ (True) ∧ (True) ∧ (True ∧ ((True) ∧ (True) ∧ (.v (.one (.sc (.int .i64 (IntKind.wrap .i64 ((48 : Int) + (IntKind.wrap .i64 ((bt (⟨#[0, 1, 2, 2, 3, 3, 3, 3, 4, 4, 4, 4, 4, 4, 4, 4, 5, 5, 5, 5, 5, 5, 5, 5, 5, 5, 5, 5, 5, 5, 5, 5, 6, 6, 6, 6, 6, 6, 6, 6, 6, 6, 6, 6, 6, 6, 6, 6, 6, 6, 6, 6, 6, 6, 6, 6, 6, 6, 6, 6, 6, 6, 6, 6, 7, 7, 7, 7, 7, 7, 7, 7, 7, 7, 7, 7, 7, 7, 7, 7, 7, 7, 7, 7, 7, 7, 7, 7, 7, 7, 7, 7, 7, 7, 7, 7, 7, 7, 7, 7, 7, 7, 7, 7, 7, 7, 7, 7, 7, 7, 7, 7, 7, 7, 7, 7, 7, 7, 7, 7, 7, 7, 7, 7, 7, 7, 7, 7, 8, 8, 8, 8, 8, 8, 8, 8, 8, 8, 8, 8, 8, 8, 8, 8, 8, 8, 8, 8, 8, 8, 8, 8, 8, 8, 8, 8, 8, 8, 8, 8, 8, 8, 8, 8, 8, 8, 8, 8, 8, 8, 8, 8, 8, 8, 8, 8, 8, 8, 8, 8, 8, 8, 8, 8, 8, 8, 8, 8, 8, 8, 8, 8, 8, 8, 8, 8, 8, 8, 8, 8, 8, 8, 8, 8, 8, 8, 8, 8, 8, 8, 8, 8, 8, 8, 8, 8, 8, 8, 8, 8, 8, 8, 8, 8, 8, 8, 8, 8, 8, 8, 8, 8, 8, 8, 8, 8, 8, 8, 8, 8, 8, 8, 8, 8, 8, 8, 8, 8, 8, 8, 8, 8, 8, 8, 8, 8]⟩ : ByteArray) (IntKind.wrap .u8 ((shr .u64 (shr .u64 a0 (32 : Int)) (16 : Int)))))))))))) : Tm) = math_bits_Len64.R r ∧ ([] : List Box) = []))))))) ∧ ((decide ((shr .u64 a0 (32 : Int)) ≥ (65536 : Int))) = false → (True) ∧ (((decide ((shr .u64 a0 (32 : Int)) ≥ (256 : Int))) = true → (True ∧ (0 ≤ (8 : Int)) ∧ (True ∧ (True) ∧ (True ∧ (True) ∧ (0 ≤ (IntKind.wrap .u8 ((shr .u64 (shr .u64 a0 (32 : Int)) (8 : Int)))) ∧ (IntKind.wrap .u8 ((shr .u64 (shr .u64 a0 (32 : Int)) (8 : Int)))) < (((ByteArray.size (⟨#[0, 1, 2, 2, 3, 3, 3, 3, 4, 4, 4, 4, 4, 4, 4, 4, 5, 5, 5, 5, 5, 5, 5, 5, 5, 5, 5, 5, 5, 5, 5, 5, 6, 6, 6, 6, 6, 6, 6, 6, 6, 6, 6, 6, 6, 6, 6, 6, 6, 6, 6, 6, 6, 6, 6, 6, 6, 6, 6, 6, 6, 6, 6, 6, 7, 7, 7, 7, 7, 7, 7, 7, 7, 7, 7, 7, 7, 7, 7, 7, 7, 7, 7, 7, 7, 7, 7, 7, 7, 7, 7, 7, 7, 7, 7, 7, 7, 7, 7, 7, 7, 7, 7, 7, 7, 7, 7, 7, 7, 7, 7, 7, 7, 7, 7, 7, 7, 7, 7, 7, 7, 7, 7, 7, 7, 7, 7, 7, 8, 8, 8, 8, 8, 8, 8, 8, 8, 8, 8, 8, 8, 8, 8, 8, 8, 8, 8, 8, 8, 8, 8, 8, 8, 8, 8, 8, 8, 8, 8, 8, 8, 8, 8, 8, 8, 8, 8, 8, 8, 8, 8, 8, 8, 8, 8, 8, 8, 8, 8, 8, 8, 8, 8, 8, 8, 8, 8, 8, 8, 8, 8, 8, 8, 8, 8, 8, 8, 8, 8, 8, 8, 8, 8, 8, 8, 8, 8, 8, 8, 8, 8, 8, 8, 8, 8, 8, 8, 8, 8, 8, 8, 8, 8, 8, 8, 8, 8, 8, 8, 8, 8, 8, 8, 8, 8, 8, 8, 8, 8, 8, 8, 8, 8, 8, 8, 8, 8, 8, 8, 8, 8, 8, 8, 8, 8, 8]⟩ : ByteArray)) : Nat) : Int)) ∧ (True) ∧ (True) ∧ (True ∧ ((True) ∧ (True) ∧ (.v (.one (.sc (.int .i64 (IntKind.wrap .i64 ((40 : Int) + (IntKind.wrap .i64 ((bt (⟨#[0, 1, 2, 2, 3, 3, 3, 3, 4, 4, 4, 4, 4, 4, 4, 4, 5, 5, 5, 5, 5, 5, 5, 5, 5, 5, 5, 5, 5, 5, 5, 5, 6, 6, 6, 6, 6, 6, 6, 6, 6, 6, 6, 6, 6, 6, 6, 6, 6, 6, 6, 6, 6, 6, 6, 6, 6, 6, 6, 6, 6, 6, 6, 6, 7, 7, 7, 7, 7, 7, 7, 7, 7, 7, 7, 7, 7, 7, 7, 7, 7, 7, 7, 7, 7, 7, 7, 7, 7, 7, 7, 7, 7, 7, 7, 7, 7, 7, 7, 7, 7, 7, 7, 7, 7, 7, 7, 7, 7, 7, 7, 7, 7, 7, 7, 7, 7, 7, 7, 7, 7, 7, 7, 7, 7, 7, 7, 7, 8, 8, 8, 8, 8, 8, 8, 8, 8, 8, 8, 8, 8, 8, 8, 8, 8, 8, 8, 8, 8, 8, 8, 8, 8, 8, 8, 8, 8, 8, 8, 8, 8, 8, 8, 8, 8, 8, 8, 8, 8, 8, 8, 8, 8, 8, 8, 8, 8, 8, 8, 8, 8, 8, 8, 8, 8, 8, 8, 8, 8, 8, 8, 8, 8, 8, 8, 8, 8, 8, 8, 8, 8, 8, 8, 8, 8, 8, 8, 8, 8, 8, 8, 8, 8, 8, 8, 8, 8, 8, 8, 8, 8, 8, 8, 8, 8, 8, 8, 8, 8, 8, 8, 8, 8, 8, 8, 8, 8, 8, 8, 8, 8, 8, 8, 8, 8, 8, 8, 8, 8, 8, 8, 8, 8, 8, 8, 8]⟩ : ByteArray) (IntKind.wrap .u8 ((shr .u64 (shr .u64 a0 (32 : Int)) (8 : Int)))))))))))) : Tm) = math_bits_Len64.R r ∧ ([] : List Box) = [])))))) ∧ ((decide ((shr .u64 a0 (32 : Int)) ≥ (256 : Int))) = false → (True ∧ (True ∧ (True) ∧ (0 ≤ (IntKind.wrap .u8 ((shr .u64 a0 (32 : Int)))) ∧ (IntKind.wrap .u8 ((shr .u64 a0 (32 : Int)))) < (((ByteArray.size (⟨#[0, 1, 2, 2, 3, 3, 3, 3, 4, 4, 4, 4, 4, 4, 4, 4, 5, 5, 5, 5, 5, 5, 5, 5, 5, 5, 5, 5, 5, 5, 5, 5, 6, 6, 6, 6, 6, 6, 6, 6, 6, 6, 6, 6, 6, 6, 6, 6, 6, 6, 6, 6, 6, 6, 6, 6, 6, 6, 6, 6, 6, 6, 6, 6, 7, 7, 7, 7, 7, 7, 7, 7, 7, 7, 7, 7, 7, 7, 7, 7, 7, 7, 7, 7, 7, 7, 7, 7, 7, 7, 7, 7, 7, 7, 7, 7, 7, 7, 7, 7, 7, 7, 7, 7, 7, 7, 7, 7, 7, 7, 7, 7, 7, 7, 7, 7, 7, 7, 7, 7, 7, 7, 7, 7, 7, 7, 7, 7, 8, 8, 8, 8, 8, 8, 8, 8, 8, 8, 8, 8, 8, 8, 8, 8, 8, 8, 8, 8, 8, 8, 8, 8, 8, 8, 8, 8, 8, 8, 8, 8, 8, 8, 8, 8, 8, 8, 8, 8, 8, 8, 8, 8, 8, 8, 8, 8, 8, 8, 8, 8, 8, 8, 8, 8, 8, 8, 8, 8, 8, 8, 8, 8, 8, 8, 8, 8, 8, 8, 8, 8, 8, 8, 8, 8, 8, 8, 8, 8, 8, 8, 8, 8, 8, 8, 8, 8, 8, 8, 8, 8, 8, 8, 8, 8, 8, 8, 8, 8, 8, 8, 8, 8, 8, 8, 8, 8, 8, 8, 8, 8, 8, 8, 8, 8, 8, 8, 8, 8, 8, 8, 8, 8, 8, 8, 8, 8]⟩ : ByteArray)) : Nat) : Int)) ∧ (True) ∧ (True) ∧ (True ∧ ((True) ∧ (True) ∧ (.v (.one (.sc (.int .i64 (IntKind.wrap .i64 ((32 : Int) + (IntKind.wrap .i64 ((bt (⟨#[0, 1, 2, 2, 3, 3, 3, 3, 4, 4, 4, 4, 4, 4, 4, 4, 5, 5, 5, 5, 5, 5, 5, 5, 5, 5, 5, 5, 5, 5, 5, 5, 6, 6, 6, 6, 6, 6, 6, 6, 6, 6, 6, 6, 6, 6, 6, 6, 6, 6, 6, 6, 6, 6, 6, 6, 6, 6, 6, 6, 6, 6, 6, 6, 7, 7, 7, 7, 7, 7, 7, 7, 7, 7, 7, 7, 7, 7, 7, 7, 7, 7, 7, 7, 7, 7, 7, 7, 7, 7, 7, 7, 7, 7, 7, 7, 7, 7, 7, 7, 7, 7, 7, 7, 7, 7, 7, 7, 7, 7, 7, 7, 7, 7, 7, 7, 7, 7, 7, 7, 7, 7, 7, 7, 7, 7, 7, 7, 8, 8, 8, 8, 8, 8, 8, 8, 8, 8, 8, 8, 8, 8, 8, 8, 8, 8, 8, 8, 8, 8, 8, 8, 8, 8, 8, 8, 8, 8, 8, 8, 8, 8, 8, 8, 8, 8, 8, 8, 8, 8, 8, 8, 8, 8, 8, 8, 8, 8, 8, 8, 8, 8, 8, 8, 8, 8, 8, 8, 8, 8, 8, 8, 8, 8, 8, 8, 8, 8, 8, 8, 8, 8, 8, 8, 8, 8, 8, 8, 8, 8, 8, 8, 8, 8, 8, 8, 8, 8, 8, 8, 8, 8, 8, 8, 8, 8, 8, 8, 8, 8, 8, 8, 8, 8, 8, 8, 8, 8, 8, 8, 8, 8, 8, 8, 8, 8, 8, 8, 8, 8, 8, 8, 8, 8, 8, 8]⟩ : ByteArray) (IntKind.wrap .u8 ((shr .u64 a0 (32 : Int)))))))))))) : Tm) = math_bits_Len64.R r ∧ ([] : List Box) = []))))))))) ∧ ((decide (a0 ≥ (4294967296 : Int))) = false → (True) ∧ (((decide (a0 ≥ (65536 : Int))) = true → (0 ≤ (16 : Int)) ∧ (True) ∧ (True) ∧ (((decide ((shr .u64 a0 (16 : Int)) ≥ (256 : Int))) = true → (True ∧ (0 ≤ (8 : Int)) ∧ (True ∧ (True) ∧ (True ∧ (True) ∧ (0 ≤ (IntKind.wrap .u8 ((shr .u64 (shr .u64 a0 (16 : Int)) (8 : Int)))) ∧ (IntKind.wrap .u8 ((shr .u64 (shr .u64 a0 (16 : Int)) (8 : Int)))) < (((ByteArray.size (⟨#[0, 1, 2, 2, 3, 3, 3, 3, 4, 4, 4, 4, 4, 4, 4, 4, 5, 5, 5, 5, 5, 5, 5, 5, 5, 5, 5, 5, 5, 5, 5, 5, 6, 6, 6, 6, 6, 6, 6, 6, 6, 6, 6, 6, 6, 6, 6, 6, 6, 6, 6, 6, 6, 6, 6, 6, 6, 6, 6, 6, 6, 6, 6, 6, 7, 7, 7, 7, 7, 7, 7, 7, 7, 7, 7, 7, 7, 7, 7, 7, 7, 7, 7, 7, 7, 7, 7, 7, 7, 7, 7, 7, 7, 7, 7, 7, 7, 7, 7, 7, 7, 7, 7, 7, 7, 7, 7, 7, 7, 7, 7, 7, 7, 7, 7, 7, 7, 7, 7, 7, 7, 7, 7, 7, 7, 7, 7, 7, 8, 8, 8, 8, 8, 8, 8, 8, 8, 8, 8, 8, 8, 8, 8, 8, 8, 8, 8, 8, 8, 8, 8, 8, 8, 8, 8, 8, 8, 8, 8, 8, 8, 8, 8, 8, 8, 8, 8, 8, 8, 8, 8, 8, 8, 8, 8, 8, 8, 8, 8, 8, 8, 8, 8, 8, 8, 8, 8, 8, 8, 8, 8, 8, 8, 8, 8, 8, 8, 8, 8, 8, 8, 8, 8, 8, 8, 8, 8, 8, 8, 8, 8, 8, 8, 8, 8, 8, 8, 8, 8, 8, 8, 8, 8, 8, 8, 8, 8, 8, 8, 8, 8, 8, 8, 8, 8, 8, 8, 8, 8, 8, 8, 8, 8, 8, 8, 8, 8, 8, 8, 8, 8, 8, 8, 8, 8, 8]⟩ : ByteArray)) : Nat) : Int)) ∧ (True) ∧ (True) ∧ (True ∧ ((True) ∧ (True) ∧ (.v (.one (.sc (.int .i64 (IntKind.wrap .i64 ((24 : Int) + (IntKind.wrap .i64 ((bt (⟨#[0, 1, 2, 2, 3, 3, 3, 3, 4, 4, 4, 4, 4, 4, 4, 4, 5, 5, 5, 5, 5, 5, 5, 5, 5, 5, 5, 5, 5, 5, 5, 5, 6, 6, 6, 6, 6, 6, 6, 6, 6, 6, 6, 6, 6, 6, 6, 6, 6, 6, 6, 6, 6, 6, 6, 6, 6, 6, 6, 6, 6, 6, 6, 6, 7, 7, 7, 7, 7, 7, 7, 7, 7, 7, 7, 7, 7, 7, 7, 7, 7, 7, 7, 7, 7, 7, 7, 7, 7, 7, 7, 7, 7, 7, 7, 7, 7, 7, 7, 7, 7, 7, 7, 7, 7, 7, 7, 7, 7, 7, 7, 7, 7, 7, 7, 7, 7, 7, 7, 7, 7, 7, 7, 7, 7, 7, 7, 7, 8, 8, 8, 8, 8, 8, 8, 8, 8, 8, 8, 8, 8, 8, 8, 8, 8, 8, 8, 8, 8, 8, 8, 8, 8, 8, 8, 8, 8, 8, 8, 8, 8, 8, 8, 8, 8, 8, 8, 8, 8, 8, 8, 8, 8, 8, 8, 8, 8, 8, 8, 8, 8, 8, 8, 8, 8, 8, 8, 8, 8, 8, 8, 8, 8, 8, 8, 8, 8, 8, 8, 8, 8, 8, 8, 8, 8, 8, 8, 8, 8, 8, 8, 8, 8, 8, 8, 8, 8, 8, 8, 8, 8, 8, 8, 8, 8, 8, 8, 8, 8, 8, 8, 8, 8, 8, 8, 8, 8, 8, 8, 8, 8, 8, 8, 8, 8, 8, 8, 8, 8, 8, 8, 8, 8, 8, 8, 8]⟩ : ByteArray) (IntKind.wrap .u8 ((shr .u64 (shr .u64 a0 (16 : Int)) (8 : Int)))))))))))) : Tm) = math_bits_Len64.R r ∧ ([] : List Box) = [])))))) ∧ ((decide ((shr .u64 a0 (16 : Int)) ≥ (256 : Int))) = false → (True ∧ (True ∧ (True) ∧ (0 ≤ (IntKind.wrap .u8 ((shr .u64 a0 (16 : Int)))) ∧ (IntKind.wrap .u8 ((shr .u64 a0 (16 : Int)))) < (((ByteArray.size (⟨#[0, 1, 2, 2, 3, 3, 3, 3, 4, 4, 4, 4, 4, 4, 4, 4, 5, 5, 5, 5, 5, 5, 5, 5, 5, 5, 5, 5, 5, 5, 5, 5, 6, 6, 6, 6, 6, 6, 6, 6, 6, 6, 6, 6, 6, 6, 6, 6, 6, 6, 6, 6, 6, 6, 6, 6, 6, 6, 6, 6, 6, 6, 6, 6, 7, 7, 7, 7, 7, 7, 7, 7, 7, 7, 7, 7, 7, 7, 7, 7, 7, 7, 7, 7, 7, 7, 7, 7, 7, 7, 7, 7, 7, 7, 7, 7, 7, 7, 7, 7, 7, 7, 7, 7, 7, 7, 7, 7, 7, 7, 7, 7, 7, 7, 7, 7, 7, 7, 7, 7, 7, 7, 7, 7, 7, 7, 7, 7, 8, 8, 8, 8, 8, 8, 8, 8, 8, 8, 8, 8, 8, 8, 8, 8, 8, 8, 8, 8, 8, 8, 8, 8, 8, 8, 8, 8, 8, 8, 8, 8, 8, 8, 8, 8, 8, 8, 8, 8, 8, 8, 8, 8, 8, 8, 8, 8, 8, 8, 8, 8, 8, 8, 8, 8, 8, 8, 8, 8, 8, 8, 8, 8, 8, 8, 8, 8, 8, 8, 8, 8, 8, 8, 8, 8, 8, 8, 8, 8, 8, 8, 8, 8, 8, 8, 8, 8, 8, 8, 8, 8, 8, 8, 8, 8, 8, 8, 8, 8, 8, 8, 8, 8, 8, 8, 8, 8, 8, 8, 8, 8, 8, 8, 8, 8, 8, 8, 8, 8, 8, 8, 8, 8, 8, 8, 8, 8]⟩ : ByteArray)) : Nat) : Int)) ∧ (True) ∧ (True) ∧ (True ∧ ((True) ∧ (True) ∧ (.v (.one (.sc (.int .i64 (IntKind.wrap .i64 ((16 : Int) + (IntKind.wrap .i64 ((bt (⟨#[0, 1, 2, 2, 3, 3, 3, 3, 4, 4, 4, 4, 4, 4, 4, 4, 5, 5, 5, 5, 5, 5, 5, 5, 5, 5, 5, 5, 5, 5, 5, 5, 6, 6, 6, 6, 6, 6, 6, 6, 6, 6, 6, 6, 6, 6, 6, 6, 6, 6, 6, 6, 6, 6, 6, 6, 6, 6, 6, 6, 6, 6, 6, 6, 7, 7, 7, 7, 7, 7, 7, 7, 7, 7, 7, 7, 7, 7, 7, 7, 7, 7, 7, 7, 7, 7, 7, 7, 7, 7, 7, 7, 7, 7, 7, 7, 7, 7, 7, 7, 7, 7, 7, 7, 7, 7, 7, 7, 7, 7, 7, 7, 7, 7, 7, 7, 7, 7, 7, 7, 7, 7, 7, 7, 7, 7, 7, 7, 8, 8, 8, 8, 8, 8, 8, 8, 8, 8, 8, 8, 8, 8, 8, 8, 8, 8, 8, 8, 8, 8, 8, 8, 8, 8, 8, 8, 8, 8, 8, 8, 8, 8, 8, 8, 8, 8, 8, 8, 8, 8, 8, 8, 8, 8, 8, 8, 8, 8, 8, 8, 8, 8, 8, 8, 8, 8, 8, 8, 8, 8, 8, 8, 8, 8, 8, 8, 8, 8, 8, 8, 8, 8, 8, 8, 8, 8, 8, 8, 8, 8, 8, 8, 8, 8, 8, 8, 8, 8, 8, 8, 8, 8, 8, 8, 8, 8, 8, 8, 8, 8, 8, 8, 8, 8, 8, 8, 8, 8, 8, 8, 8, 8, 8, 8, 8, 8, 8, 8, 8, 8, 8, 8, 8, 8, 8, 8]⟩ : ByteArray) (IntKind.wrap .u8 ((shr .u64 a0 (16 : Int)))))))))))) : Tm) = math_bits_Len64.R r ∧ ([] : List Box) = []))))))) ∧ ((decide (a0 ≥ (65536 : Int))) = false → (True) ∧ (((decide (a0 ≥ (256 : Int))) = true → (True ∧ (0 ≤ (8 : Int)) ∧ (True ∧ (True) ∧ (True ∧ (True) ∧ (0 ≤ (IntKind.wrap .u8 ((shr .u64 a0 (8 : Int)))) ∧ (IntKind.wrap .u8 ((shr .u64 a0 (8 : Int)))) < (((ByteArray.size (⟨#[0, 1, 2, 2, 3, 3, 3, 3, 4, 4, 4, 4, 4, 4, 4, 4, 5, 5, 5, 5, 5, 5, 5, 5, 5, 5, 5, 5, 5, 5, 5, 5, 6, 6, 6, 6, 6, 6, 6, 6, 6, 6, 6, 6, 6, 6, 6, 6, 6, 6, 6, 6, 6, 6, 6, 6, 6, 6, 6, 6, 6, 6, 6, 6, 7, 7, 7, 7, 7, 7, 7, 7, 7, 7, 7, 7, 7, 7, 7, 7, 7, 7, 7, 7, 7, 7, 7, 7, 7, 7, 7, 7, 7, 7, 7, 7, 7, 7, 7, 7, 7, 7, 7, 7, 7, 7, 7, 7, 7, 7, 7, 7, 7, 7, 7, 7, 7, 7, 7, 7, 7, 7, 7, 7, 7, 7, 7, 7, 8, 8, 8, 8, 8, 8, 8, 8, 8, 8, 8, 8, 8, 8, 8, 8, 8, 8, 8, 8, 8, 8, 8, 8, 8, 8, 8, 8, 8, 8, 8, 8, 8, 8, 8, 8, 8, 8, 8, 8, 8, 8, 8, 8, 8, 8, 8, 8, 8, 8, 8, 8, 8, 8, 8, 8, 8, 8, 8, 8, 8, 8, 8, 8, 8, 8, 8, 8, 8, 8, 8, 8, 8, 8, 8, 8, 8, 8, 8, 8, 8, 8, 8, 8, 8, 8, 8, 8, 8, 8, 8, 8, 8, 8, 8, 8, 8, 8, 8, 8, 8, 8, 8, 8, 8, 8, 8, 8, 8, 8, 8, 8, 8, 8, 8, 8, 8, 8, 8, 8, 8, 8, 8, 8, 8, 8, 8, 8]⟩ : ByteArray)) : Nat) : Int)) ∧ (True) ∧ (True) ∧ (True ∧ ((True) ∧ (True) ∧ (.v (.one (.sc (.int .i64 (IntKind.wrap .i64 ((8 : Int) + (IntKind.wrap .i64 ((bt (⟨#[0, 1, 2, 2, 3, 3, 3, 3, 4, 4, 4, 4, 4, 4, 4, 4, 5, 5, 5, 5, 5, 5, 5, 5, 5, 5, 5, 5, 5, 5, 5, 5, 6, 6, 6, 6, 6, 6, 6, 6, 6, 6, 6, 6, 6, 6, 6, 6, 6, 6, 6, 6, 6, 6, 6, 6, 6, 6, 6, 6, 6, 6, 6, 6, 7, 7, 7, 7, 7, 7, 7, 7, 7, 7, 7, 7, 7, 7, 7, 7, 7, 7, 7, 7, 7, 7, 7, 7, 7, 7, 7, 7, 7, 7, 7, 7, 7, 7, 7, 7, 7, 7, 7, 7, 7, 7, 7, 7, 7, 7, 7, 7, 7, 7, 7, 7, 7, 7, 7, 7, 7, 7, 7, 7, 7, 7, 7, 7, 8, 8, 8, 8, 8, 8, 8, 8, 8, 8, 8, 8, 8, 8, 8, 8, 8, 8, 8, 8, 8, 8, 8, 8, 8, 8, 8, 8, 8, 8, 8, 8, 8, 8, 8, 8, 8, 8, 8, 8, 8, 8, 8, 8, 8, 8, 8, 8, 8, 8, 8, 8, 8, 8, 8, 8, 8, 8, 8, 8, 8, 8, 8, 8, 8, 8, 8, 8, 8, 8, 8, 8, 8, 8, 8, 8, 8, 8, 8, 8, 8, 8, 8, 8, 8, 8, 8, 8, 8, 8, 8, 8, 8, 8, 8, 8, 8, 8, 8, 8, 8, 8, 8, 8, 8, 8, 8, 8, 8, 8, 8, 8, 8, 8, 8, 8, 8, 8, 8, 8, 8, 8, 8, 8, 8, 8, 8, 8]⟩ : ByteArray) (IntKind.wrap .u8 ((shr .u64 a0 (8 : Int)))))))))))) : Tm) = math_bits_Len64.R r ∧ ([] : List Box) = [])))))) ∧ ((decide (a0 ≥ (256 : Int))) = false → (True ∧ (True ∧ (True) ∧ (0 ≤ (IntKind.wrap .u8 (a0)) ∧ (IntKind.wrap .u8 (a0)) < (((ByteArray.size (⟨#[0, 1, 2, 2, 3, 3, 3, 3, 4, 4, 4, 4, 4, 4, 4, 4, 5, 5, 5, 5, 5, 5, 5, 5, 5, 5, 5, 5, 5, 5, 5, 5, 6, 6, 6, 6, 6, 6, 6, 6, 6, 6, 6, 6, 6, 6, 6, 6, 6, 6, 6, 6, 6, 6, 6, 6, 6, 6, 6, 6, 6, 6, 6, 6, 7, 7, 7, 7, 7, 7, 7, 7, 7, 7, 7, 7, 7, 7, 7, 7, 7, 7, 7, 7, 7, 7, 7, 7, 7, 7, 7, 7, 7, 7, 7, 7, 7, 7, 7, 7, 7, 7, 7, 7, 7, 7, 7, 7, 7, 7, 7, 7, 7, 7, 7, 7, 7, 7, 7, 7, 7, 7, 7, 7, 7, 7, 7, 7, 8, 8, 8, 8, 8, 8, 8, 8, 8, 8, 8, 8, 8, 8, 8, 8, 8, 8, 8, 8, 8, 8, 8, 8, 8, 8, 8, 8, 8, 8, 8, 8, 8, 8, 8, 8, 8, 8, 8, 8, 8, 8, 8, 8, 8, 8, 8, 8, 8, 8, 8, 8, 8, 8, 8, 8, 8, 8, 8, 8, 8, 8, 8, 8, 8, 8, 8, 8, 8, 8, 8, 8, 8, 8, 8, 8, 8, 8, 8, 8, 8, 8, 8, 8, 8, 8, 8, 8, 8, 8, 8, 8, 8, 8, 8, 8, 8, 8, 8, 8, 8, 8, 8, 8, 8, 8, 8, 8, 8, 8, 8, 8, 8, 8, 8, 8, 8, 8, 8, 8, 8, 8, 8, 8, 8, 8, 8, 8]⟩ : ByteArray)) : Nat) : Int)) ∧ (True) ∧ (True) ∧ (True ∧ ((True) ∧ (True) ∧ (.v (.one (.sc (.int .i64 (IntKind.wrap .i64 ((0 : Int) + (IntKind.wrap .i64 ((bt (⟨#[0, 1, 2, 2, 3, 3, 3, 3, 4, 4, 4, 4, 4, 4, 4, 4, 5, 5, 5, 5, 5, 5, 5, 5, 5, 5, 5, 5, 5, 5, 5, 5, 6, 6, 6, 6, 6, 6, 6, 6, 6, 6, 6, 6, 6, 6, 6, 6, 6, 6, 6, 6, 6, 6, 6, 6, 6, 6, 6, 6, 6, 6, 6, 6, 7, 7, 7, 7, 7, 7, 7, 7, 7, 7, 7, 7, 7, 7, 7, 7, 7, 7, 7, 7, 7, 7, 7, 7, 7, 7, 7, 7, 7, 7, 7, 7, 7, 7, 7, 7, 7, 7, 7, 7, 7, 7, 7, 7, 7, 7, 7, 7, 7, 7, 7, 7, 7, 7, 7, 7, 7, 7, 7, 7, 7, 7, 7, 7, 8, 8, 8, 8, 8, 8, 8, 8, 8, 8, 8, 8, 8, 8, 8, 8, 8, 8, 8, 8, 8, 8, 8, 8, 8, 8, 8, 8, 8, 8, 8, 8, 8, 8, 8, 8, 8, 8, 8, 8, 8, 8, 8, 8, 8, 8, 8, 8, 8, 8, 8, 8, 8, 8, 8, 8, 8, 8, 8, 8, 8, 8, 8, 8, 8, 8, 8, 8, 8, 8, 8, 8, 8, 8, 8, 8, 8, 8, 8, 8, 8, 8, 8, 8, 8, 8, 8, 8, 8, 8, 8, 8, 8, 8, 8, 8, 8, 8, 8, 8, 8, 8, 8, 8, 8, 8, 8, 8, 8, 8, 8, 8, 8, 8, 8, 8, 8, 8, 8, 8, 8, 8, 8, 8, 8, 8, 8, 8]⟩ : ByteArray) (IntKind.wrap .u8 (a0)))))))))) : Tm) = math_bits_Len64.R r ∧ ([] : List Box) = []))))))))))) (by kernel_rfl) ?_)
  refine ⟨trivial, ?_⟩
  refine ⟨fun b1 => ?_, fun b1 => ?_⟩
  · rw [if_pos (of_decide_eq_true b1)] at h
    refine ⟨(by decide), ?_⟩
    refine ⟨trivial, ?_⟩
    refine ⟨fun b2 => ?_, fun b2 => ?_⟩
    · rw [if_pos (of_decide_eq_true b2)] at h
      refine ⟨(by decide), ?_⟩
      refine ⟨trivial, ?_⟩
      refine ⟨trivial, ?_⟩
      refine ⟨fun b3 => ?_, fun b3 => ?_⟩
      · rw [if_pos (of_decide_eq_true b3)] at h
        refine ⟨trivial, ?_⟩
        refine ⟨(by decide), ?_⟩
        refine ⟨trivial, ?_⟩
        refine ⟨trivial, ?_⟩
        refine ⟨trivial, ?_⟩
        refine ⟨trivial, ?_⟩
        obtain ⟨g4, h⟩ := of_guard h
        refine ⟨g4, ?_⟩
        refine ⟨trivial, ?_⟩
        refine ⟨trivial, ?_⟩
        refine ⟨trivial, ?_⟩
        obtain rfl := Option.some.inj h
        exact ⟨trivial, trivial, rfl, rfl⟩
      · rw [if_neg (of_decide_eq_false b3)] at h
        refine ⟨trivial, ?_⟩
        refine ⟨trivial, ?_⟩
        refine ⟨trivial, ?_⟩
        obtain ⟨g5, h⟩ := of_guard h
        refine ⟨g5, ?_⟩
        refine ⟨trivial, ?_⟩
        refine ⟨trivial, ?_⟩
        refine ⟨trivial, ?_⟩
        obtain rfl := Option.some.inj h
        exact ⟨trivial, trivial, rfl, rfl⟩
    · rw [if_neg (of_decide_eq_false b2)] at h
      refine ⟨trivial, ?_⟩
      refine ⟨fun b6 => ?_, fun b6 => ?_⟩
      · rw [if_pos (of_decide_eq_true b6)] at h
        refine ⟨trivial, ?_⟩
        refine ⟨(by decide), ?_⟩
        refine ⟨trivial, ?_⟩
        refine ⟨trivial, ?_⟩
        refine ⟨trivial, ?_⟩
        refine ⟨trivial, ?_⟩
        obtain ⟨g7, h⟩ := of_guard h
        refine ⟨g7, ?_⟩
        refine ⟨trivial, ?_⟩
        refine ⟨trivial, ?_⟩
        refine ⟨trivial, ?_⟩
        obtain rfl := Option.some.inj h
        exact ⟨trivial, trivial, rfl, rfl⟩
      · rw [if_neg (of_decide_eq_false b6)] at h
        refine ⟨trivial, ?_⟩
        refine ⟨trivial, ?_⟩
        refine ⟨trivial, ?_⟩
        obtain ⟨g8, h⟩ := of_guard h
        refine ⟨g8, ?_⟩
        refine ⟨trivial, ?_⟩
        refine ⟨trivial, ?_⟩
        refine ⟨trivial, ?_⟩
        obtain rfl := Option.some.inj h
        exact ⟨trivial, trivial, rfl, rfl⟩
  · rw [if_neg (of_decide_eq_false b1)] at h
    refine ⟨trivial, ?_⟩
    refine ⟨fun b9 => ?_, fun b9 => ?_⟩
    · rw [if_pos (of_decide_eq_true b9)] at h
      refine ⟨(by decide), ?_⟩
      refine ⟨trivial, ?_⟩
      refine ⟨trivial, ?_⟩
      refine ⟨fun b10 => ?_, fun b10 => ?_⟩
      · rw [if_pos (of_decide_eq_true b10)] at h
        refine ⟨trivial, ?_⟩
        refine ⟨(by decide), ?_⟩
        refine ⟨trivial, ?_⟩
        refine ⟨trivial, ?_⟩
        refine ⟨trivial, ?_⟩
        refine ⟨trivial, ?_⟩
        obtain ⟨g11, h⟩ := of_guard h
        refine ⟨g11, ?_⟩
        refine ⟨trivial, ?_⟩
        refine ⟨trivial, ?_⟩
        refine ⟨trivial, ?_⟩
        obtain rfl := Option.some.inj h
        exact ⟨trivial, trivial, rfl, rfl⟩
      · rw [if_neg (of_decide_eq_false b10)] at h
        refine ⟨trivial, ?_⟩
        refine ⟨trivial, ?_⟩
        refine ⟨trivial, ?_⟩
        obtain ⟨g12, h⟩ := of_guard h
        refine ⟨g12, ?_⟩
        refine ⟨trivial, ?_⟩
        refine ⟨trivial, ?_⟩
        refine ⟨trivial, ?_⟩
        obtain rfl := Option.some.inj h
        exact ⟨trivial, trivial, rfl, rfl⟩
    · rw [if_neg (of_decide_eq_false b9)] at h
      refine ⟨trivial, ?_⟩
      refine ⟨fun b13 => ?_, fun b13 => ?_⟩
      · rw [if_pos (of_decide_eq_true b13)] at h
        refine ⟨trivial, ?_⟩
        refine ⟨(by decide), ?_⟩
        refine ⟨trivial, ?_⟩
        refine ⟨trivial, ?_⟩
        refine ⟨trivial, ?_⟩
        refine ⟨trivial, ?_⟩
        obtain ⟨g14, h⟩ := of_guard h
        refine ⟨g14, ?_⟩
        refine ⟨trivial, ?_⟩
        refine ⟨trivial, ?_⟩
        refine ⟨trivial, ?_⟩
        obtain rfl := Option.some.inj h
        exact ⟨trivial, trivial, rfl, rfl⟩
      · rw [if_neg (of_decide_eq_false b13)] at h
        refine ⟨trivial, ?_⟩
        refine ⟨trivial, ?_⟩
        refine ⟨trivial, ?_⟩
        obtain ⟨g15, h⟩ := of_guard h
        refine ⟨g15, ?_⟩
        refine ⟨trivial, ?_⟩
        refine ⟨trivial, ?_⟩
        refine ⟨trivial, ?_⟩
        obtain rfl := Option.some.inj h
        exact ⟨trivial, trivial, rfl, rfl⟩
/-! internal/strconv.log10Pow2 -/
def internal_strconv_log10Pow2.f (a0 : Int) : Option Int :=
  some (shr .i64 (IntKind.wrap .i64 (a0 * (78913 : Int))) (18 : Int))
def internal_strconv_log10Pow2.R (r : Int) : Tm := .v (.one (.sc (.int .i64 r)))
theorem internal_strconv_log10Pow2.fun_ {a0 : Int} {r : Int} (h : internal_strconv_log10Pow2.f a0 = some r) : Fun cfg 31 [.one (.sc (.int .i64 a0))] [] (internal_strconv_log10Pow2.R r) [] := by
  unfold internal_strconv_log10Pow2.f at h
  refine fun_of_run cfg_ok (f := 31) (fn := Tryd.f31) Tryd.func31 rfl (by kernel_rfl) (rs := [.tmp 2]) rfl (nt := 6) rfl (l := fin) (k := (.adj [] (.adj [] (.adj [] (.adj [] .nil))))) (to_goal (q := (True ∧ (True ∧ (True) ∧ (0 ≤ (18 : Int)) ∧ (True ∧ ((True) ∧ (True) ∧ (.v (.one (.sc (.int .i64 (shr .i64 (IntKind.wrap .i64 (a0 * (78913 : Int))) (18 : Int))))) : Tm) = internal_strconv_log10Pow2.R r ∧ ([] : List Box) = []))))) (by kernel_rfl) ?_)
  refine ⟨trivial, ?_⟩
  refine ⟨trivial, ?_⟩
  refine ⟨trivial, ?_⟩
  refine ⟨(by decide), ?_⟩
  refine ⟨trivial, ?_⟩
  obtain rfl := Option.some.inj h
  exact ⟨trivial, trivial, rfl, rfl⟩
/-! internal/strconv.bool2[int] -/
def internal_strconv_bool2_int.f (a0 : Bool) : Option Int :=
  if a0 = true then
    some (1 : Int)
  else
    some (0 : Int)
def internal_strconv_bool2_int.R (r : Int) : Tm := .v (.one (.sc (.int .i64 r)))
theorem internal_strconv_bool2_int.fun_ {a0 : Bool} {r : Int} (h : internal_strconv_bool2_int.f a0 = some r) : Fun cfg 33 [.one (.sc (.bool a0))] [] (internal_strconv_bool2_int.R r) [] := by
  unfold internal_strconv_bool2_int.f at h
  refine fun_of_run cfg_ok (f := 33) (fn := Tryd.f33) Tryd.func33 rfl (by kernel_rfl) (rs := [.tmp 2]) rfl (nt := 4) rfl (l := fin) (k := (.br (.adj [] (.adj [] (.adj [] .nil))) (.adj [] (.adj [] (.adj [] (.adj [] .nil)))))) (to_goal (q := ((a0 = true → (True ∧ (True ∧ ((True) ∧ (True) ∧ (.v (.one (.sc (.int .i64 (1 : Int)))) : Tm) = internal_strconv_bool2_int.R r ∧ ([] : List Box) = [])))) ∧ (a0 = false → (True ∧ (True ∧ (True ∧ ((True) ∧ (True) ∧ (.v (.one (.sc (.int .i64 (0 : Int)))) : Tm) = internal_strconv_bool2_int.R r ∧ ([] : List Box) = []))))))) (by kernel_rfl) ?_)
  refine ⟨fun b1 => ?_, fun b1 => ?_⟩
  · rw [if_pos b1] at h
    refine ⟨trivial, ?_⟩
    refine ⟨trivial, ?_⟩
    obtain rfl := Option.some.inj h
    exact ⟨trivial, trivial, rfl, rfl⟩
  · rw [if_neg (ff b1)] at h
    refine ⟨trivial, ?_⟩
    refine ⟨trivial, ?_⟩
    refine ⟨trivial, ?_⟩
    obtain rfl := Option.some.inj h
    exact ⟨trivial, trivial, rfl, rfl⟩
/-! internal/strconv.numDigits -/
def internal_strconv_numDigits.f (a0 : Int) : Option Int :=
  (math_bits_Len64.f a0).bind fun t1 =>
  (internal_strconv_log10Pow2.f t1).bind fun t2 =>
  if 0 ≤ t2 ∧ t2 < ((20 : Nat) : Int) then
    (internal_strconv_bool2_int.f (decide (a0 ≥ (List.getD tab1 (Int.toNat t2) (0 : Int))))).bind fun t3 =>
    some (IntKind.wrap .i64 (t2 + t3))
  else none
def internal_strconv_numDigits.R (r : Int) : Tm := .v (.one (.sc (.int .i64 r)))
theorem internal_strconv_numDigits.fun_ {a0 : Int} {r : Int} (h : internal_strconv_numDigits.f a0 = some r) : Fun cfg 28 [.one (.sc (.int .u64 a0))] [] (internal_strconv_numDigits.R r) [] := by
  unfold internal_strconv_numDigits.f at h
  refine fun_of_run cfg_ok (f := 28) (fn := Tryd.f28) Tryd.func28 rfl (by kernel_rfl) (rs := [.tmp 2]) rfl (nt := 15) rfl (l := fin) (k := (.call true [] (Int) (fun t1 => math_bits_Len64.R t1) (fun t1 => (.call true [] (Int) (fun t2 => internal_strconv_log10Pow2.R t2) (fun t2 => (.call true [] (Int) (fun t3 => internal_strconv_bool2_int.R t3) (fun t3 => (.adj [] (.adj [] .nil))))))))) (to_goal (q := (∃ t1 : Int, (Fun cfg 32 [.one (.sc (.int .u64 a0))] [] (math_bits_Len64.R t1) [] ∧ True) ∧ (∃ t2 : Int, (Fun cfg 31 [.one (.sc (.int .i64 t1))] [] (internal_strconv_log10Pow2.R t2) [] ∧ True) ∧ (0 ≤ t2 ∧ t2 < ((20 : Nat) : Int)) ∧ (True) ∧ (True) ∧ (∃ t3 : Int, (Fun cfg 33 [.one (.sc (.bool (decide (a0 ≥ (List.getD tab1 (Int.toNat t2) (0 : Int))))))] [] (internal_strconv_bool2_int.R t3) [] ∧ True) ∧ (True) ∧ (True ∧ ((True) ∧ (True) ∧ (.v (.one (.sc (.int .i64 (IntKind.wrap .i64 (t2 + t3))))) : Tm) = internal_strconv_numDigits.R r ∧ ([] : List Box) = [])))))) (by kernel_rfl) ?_)
  obtain ⟨t1, ht1, h⟩ := of_bind h
  refine ⟨t1, ⟨math_bits_Len64.fun_ ht1, trivial⟩, ?_⟩
  obtain ⟨t2, ht2, h⟩ := of_bind h
  refine ⟨t2, ⟨internal_strconv_log10Pow2.fun_ ht2, trivial⟩, ?_⟩
  obtain ⟨g4, h⟩ := of_guard h
  refine ⟨g4, ?_⟩
  refine ⟨trivial, ?_⟩
  refine ⟨trivial, ?_⟩
  obtain ⟨t3, ht3, h⟩ := of_bind h
  refine ⟨t3, ⟨internal_strconv_bool2_int.fun_ ht3, trivial⟩, ?_⟩
  refine ⟨trivial, ?_⟩
  refine ⟨trivial, ?_⟩
  obtain rfl := Option.some.inj h
  exact ⟨trivial, trivial, rfl, rfl⟩
/-! internal/strconv.formatBase10 -/
def internal_strconv_formatBase10.l0 (a0 : Nat) (a1 : Nat) : Nat → (List Int) → Int → Int → Option ((List Int) × Int × Int)
  | 0, _, _, _ => none
  | n + 1, x28, x29, x30 =>
    if x30 ≥ (8 : Int) then
      if 0 ≤ (IntKind.wrap .u32 ((IntKind.wrap .u32 ((Int.tmod (Int.tmod (IntKind.wrap .u32 ((Int.tmod x29 (100000000 : Int)))) (10000 : Int)) (100 : Int)) * (2 : Int))) + (1 : Int))) ∧ (IntKind.wrap .u32 ((IntKind.wrap .u32 ((Int.tmod (Int.tmod (IntKind.wrap .u32 ((Int.tmod x29 (100000000 : Int)))) (10000 : Int)) (100 : Int)) * (2 : Int))) + (1 : Int))) < (((ByteArray.size (⟨#[48, 48, 48, 49, 48, 50, 48, 51, 48, 52, 48, 53, 48, 54, 48, 55, 48, 56, 48, 57, 49, 48, 49, 49, 49, 50, 49, 51, 49, 52, 49, 53, 49, 54, 49, 55, 49, 56, 49, 57, 50, 48, 50, 49, 50, 50, 50, 51, 50, 52, 50, 53, 50, 54, 50, 55, 50, 56, 50, 57, 51, 48, 51, 49, 51, 50, 51, 51, 51, 52, 51, 53, 51, 54, 51, 55, 51, 56, 51, 57, 52, 48, 52, 49, 52, 50, 52, 51, 52, 52, 52, 53, 52, 54, 52, 55, 52, 56, 52, 57, 53, 48, 53, 49, 53, 50, 53, 51, 53, 52, 53, 53, 53, 54, 53, 55, 53, 56, 53, 57, 54, 48, 54, 49, 54, 50, 54, 51, 54, 52, 54, 53, 54, 54, 54, 55, 54, 56, 54, 57, 55, 48, 55, 49, 55, 50, 55, 51, 55, 52, 55, 53, 55, 54, 55, 55, 55, 56, 55, 57, 56, 48, 56, 49, 56, 50, 56, 51, 56, 52, 56, 53, 56, 54, 56, 55, 56, 56, 56, 57, 57, 48, 57, 49, 57, 50, 57, 51, 57, 52, 57, 53, 57, 54, 57, 55, 57, 56, 57, 57]⟩ : ByteArray)) : Nat) : Int) then
        if 0 ≤ (IntKind.wrap .u32 ((Int.tmod (Int.tmod (IntKind.wrap .u32 ((Int.tmod x29 (100000000 : Int)))) (10000 : Int)) (100 : Int)) * (2 : Int))) ∧ (IntKind.wrap .u32 ((Int.tmod (Int.tmod (IntKind.wrap .u32 ((Int.tmod x29 (100000000 : Int)))) (10000 : Int)) (100 : Int)) * (2 : Int))) < (((ByteArray.size (⟨#[48, 48, 48, 49, 48, 50, 48, 51, 48, 52, 48, 53, 48, 54, 48, 55, 48, 56, 48, 57, 49, 48, 49, 49, 49, 50, 49, 51, 49, 52, 49, 53, 49, 54, 49, 55, 49, 56, 49, 57, 50, 48, 50, 49, 50, 50, 50, 51, 50, 52, 50, 53, 50, 54, 50, 55, 50, 56, 50, 57, 51, 48, 51, 49, 51, 50, 51, 51, 51, 52, 51, 53, 51, 54, 51, 55, 51, 56, 51, 57, 52, 48, 52, 49, 52, 50, 52, 51, 52, 52, 52, 53, 52, 54, 52, 55, 52, 56, 52, 57, 53, 48, 53, 49, 53, 50, 53, 51, 53, 52, 53, 53, 53, 54, 53, 55, 53, 56, 53, 57, 54, 48, 54, 49, 54, 50, 54, 51, 54, 52, 54, 53, 54, 54, 54, 55, 54, 56, 54, 57, 55, 48, 55, 49, 55, 50, 55, 51, 55, 52, 55, 53, 55, 54, 55, 55, 55, 56, 55, 57, 56, 48, 56, 49, 56, 50, 56, 51, 56, 52, 56, 53, 56, 54, 56, 55, 56, 56, 56, 57, 57, 48, 57, 49, 57, 50, 57, 51, 57, 52, 57, 53, 57, 54, 57, 55, 57, 56, 57, 57]⟩ : ByteArray)) : Nat) : Int) then
          if 0 ≤ (IntKind.wrap .i64 (x30 - (1 : Int))) ∧ (IntKind.wrap .i64 (x30 - (1 : Int))) < ((a1 : Nat) : Int) then
            if (a0 + (Int.toNat (IntKind.wrap .i64 (x30 - (1 : Int))))) < 24 then
              if 0 ≤ (IntKind.wrap .i64 (x30 - (2 : Int))) ∧ (IntKind.wrap .i64 (x30 - (2 : Int))) < ((a1 : Nat) : Int) then
                if (a0 + (Int.toNat (IntKind.wrap .i64 (x30 - (2 : Int))))) < 24 then
                  if 0 ≤ (IntKind.wrap .u32 ((IntKind.wrap .u32 ((IntKind.wrap .u32 (Int.tdiv (Int.tmod (IntKind.wrap .u32 ((Int.tmod x29 (100000000 : Int)))) (10000 : Int)) (100 : Int))) * (2 : Int))) + (1 : Int))) ∧ (IntKind.wrap .u32 ((IntKind.wrap .u32 ((IntKind.wrap .u32 (Int.tdiv (Int.tmod (IntKind.wrap .u32 ((Int.tmod x29 (100000000 : Int)))) (10000 : Int)) (100 : Int))) * (2 : Int))) + (1 : Int))) < (((ByteArray.size (⟨#[48, 48, 48, 49, 48, 50, 48, 51, 48, 52, 48, 53, 48, 54, 48, 55, 48, 56, 48, 57, 49, 48, 49, 49, 49, 50, 49, 51, 49, 52, 49, 53, 49, 54, 49, 55, 49, 56, 49, 57, 50, 48, 50, 49, 50, 50, 50, 51, 50, 52, 50, 53, 50, 54, 50, 55, 50, 56, 50, 57, 51, 48, 51, 49, 51, 50, 51, 51, 51, 52, 51, 53, 51, 54, 51, 55, 51, 56, 51, 57, 52, 48, 52, 49, 52, 50, 52, 51, 52, 52, 52, 53, 52, 54, 52, 55, 52, 56, 52, 57, 53, 48, 53, 49, 53, 50, 53, 51, 53, 52, 53, 53, 53, 54, 53, 55, 53, 56, 53, 57, 54, 48, 54, 49, 54, 50, 54, 51, 54, 52, 54, 53, 54, 54, 54, 55, 54, 56, 54, 57, 55, 48, 55, 49, 55, 50, 55, 51, 55, 52, 55, 53, 55, 54, 55, 55, 55, 56, 55, 57, 56, 48, 56, 49, 56, 50, 56, 51, 56, 52, 56, 53, 56, 54, 56, 55, 56, 56, 56, 57, 57, 48, 57, 49, 57, 50, 57, 51, 57, 52, 57, 53, 57, 54, 57, 55, 57, 56, 57, 57]⟩ : ByteArray)) : Nat) : Int) then
                    if 0 ≤ (IntKind.wrap .u32 ((IntKind.wrap .u32 (Int.tdiv (Int.tmod (IntKind.wrap .u32 ((Int.tmod x29 (100000000 : Int)))) (10000 : Int)) (100 : Int))) * (2 : Int))) ∧ (IntKind.wrap .u32 ((IntKind.wrap .u32 (Int.tdiv (Int.tmod (IntKind.wrap .u32 ((Int.tmod x29 (100000000 : Int)))) (10000 : Int)) (100 : Int))) * (2 : Int))) < (((ByteArray.size (⟨#[48, 48, 48, 49, 48, 50, 48, 51, 48, 52, 48, 53, 48, 54, 48, 55, 48, 56, 48, 57, 49, 48, 49, 49, 49, 50, 49, 51, 49, 52, 49, 53, 49, 54, 49, 55, 49, 56, 49, 57, 50, 48, 50, 49, 50, 50, 50, 51, 50, 52, 50, 53, 50, 54, 50, 55, 50, 56, 50, 57, 51, 48, 51, 49, 51, 50, 51, 51, 51, 52, 51, 53, 51, 54, 51, 55, 51, 56, 51, 57, 52, 48, 52, 49, 52, 50, 52, 51, 52, 52, 52, 53, 52, 54, 52, 55, 52, 56, 52, 57, 53, 48, 53, 49, 53, 50, 53, 51, 53, 52, 53, 53, 53, 54, 53, 55, 53, 56, 53, 57, 54, 48, 54, 49, 54, 50, 54, 51, 54, 52, 54, 53, 54, 54, 54, 55, 54, 56, 54, 57, 55, 48, 55, 49, 55, 50, 55, 51, 55, 52, 55, 53, 55, 54, 55, 55, 55, 56, 55, 57, 56, 48, 56, 49, 56, 50, 56, 51, 56, 52, 56, 53, 56, 54, 56, 55, 56, 56, 56, 57, 57, 48, 57, 49, 57, 50, 57, 51, 57, 52, 57, 53, 57, 54, 57, 55, 57, 56, 57, 57]⟩ : ByteArray)) : Nat) : Int) then
                      if 0 ≤ (IntKind.wrap .i64 (x30 - (3 : Int))) ∧ (IntKind.wrap .i64 (x30 - (3 : Int))) < ((a1 : Nat) : Int) then
                        if (a0 + (Int.toNat (IntKind.wrap .i64 (x30 - (3 : Int))))) < 24 then
                          if 0 ≤ (IntKind.wrap .i64 (x30 - (4 : Int))) ∧ (IntKind.wrap .i64 (x30 - (4 : Int))) < ((a1 : Nat) : Int) then
                            if (a0 + (Int.toNat (IntKind.wrap .i64 (x30 - (4 : Int))))) < 24 then
                              if 0 ≤ (IntKind.wrap .u32 ((IntKind.wrap .u32 ((Int.tmod (IntKind.wrap .u32 (Int.tdiv (IntKind.wrap .u32 ((Int.tmod x29 (100000000 : Int)))) (10000 : Int))) (100 : Int)) * (2 : Int))) + (1 : Int))) ∧ (IntKind.wrap .u32 ((IntKind.wrap .u32 ((Int.tmod (IntKind.wrap .u32 (Int.tdiv (IntKind.wrap .u32 ((Int.tmod x29 (100000000 : Int)))) (10000 : Int))) (100 : Int)) * (2 : Int))) + (1 : Int))) < (((ByteArray.size (⟨#[48, 48, 48, 49, 48, 50, 48, 51, 48, 52, 48, 53, 48, 54, 48, 55, 48, 56, 48, 57, 49, 48, 49, 49, 49, 50, 49, 51, 49, 52, 49, 53, 49, 54, 49, 55, 49, 56, 49, 57, 50, 48, 50, 49, 50, 50, 50, 51, 50, 52, 50, 53, 50, 54, 50, 55, 50, 56, 50, 57, 51, 48, 51, 49, 51, 50, 51, 51, 51, 52, 51, 53, 51, 54, 51, 55, 51, 56, 51, 57, 52, 48, 52, 49, 52, 50, 52, 51, 52, 52, 52, 53, 52, 54, 52, 55, 52, 56, 52, 57, 53, 48, 53, 49, 53, 50, 53, 51, 53, 52, 53, 53, 53, 54, 53, 55, 53, 56, 53, 57, 54, 48, 54, 49, 54, 50, 54, 51, 54, 52, 54, 53, 54, 54, 54, 55, 54, 56, 54, 57, 55, 48, 55, 49, 55, 50, 55, 51, 55, 52, 55, 53, 55, 54, 55, 55, 55, 56, 55, 57, 56, 48, 56, 49, 56, 50, 56, 51, 56, 52, 56, 53, 56, 54, 56, 55, 56, 56, 56, 57, 57, 48, 57, 49, 57, 50, 57, 51, 57, 52, 57, 53, 57, 54, 57, 55, 57, 56, 57, 57]⟩ : ByteArray)) : Nat) : Int) then
                                if 0 ≤ (IntKind.wrap .u32 ((Int.tmod (IntKind.wrap .u32 (Int.tdiv (IntKind.wrap .u32 ((Int.tmod x29 (100000000 : Int)))) (10000 : Int))) (100 : Int)) * (2 : Int))) ∧ (IntKind.wrap .u32 ((Int.tmod (IntKind.wrap .u32 (Int.tdiv (IntKind.wrap .u32 ((Int.tmod x29 (100000000 : Int)))) (10000 : Int))) (100 : Int)) * (2 : Int))) < (((ByteArray.size (⟨#[48, 48, 48, 49, 48, 50, 48, 51, 48, 52, 48, 53, 48, 54, 48, 55, 48, 56, 48, 57, 49, 48, 49, 49, 49, 50, 49, 51, 49, 52, 49, 53, 49, 54, 49, 55, 49, 56, 49, 57, 50, 48, 50, 49, 50, 50, 50, 51, 50, 52, 50, 53, 50, 54, 50, 55, 50, 56, 50, 57, 51, 48, 51, 49, 51, 50, 51, 51, 51, 52, 51, 53, 51, 54, 51, 55, 51, 56, 51, 57, 52, 48, 52, 49, 52, 50, 52, 51, 52, 52, 52, 53, 52, 54, 52, 55, 52, 56, 52, 57, 53, 48, 53, 49, 53, 50, 53, 51, 53, 52, 53, 53, 53, 54, 53, 55, 53, 56, 53, 57, 54, 48, 54, 49, 54, 50, 54, 51, 54, 52, 54, 53, 54, 54, 54, 55, 54, 56, 54, 57, 55, 48, 55, 49, 55, 50, 55, 51, 55, 52, 55, 53, 55, 54, 55, 55, 55, 56, 55, 57, 56, 48, 56, 49, 56, 50, 56, 51, 56, 52, 56, 53, 56, 54, 56, 55, 56, 56, 56, 57, 57, 48, 57, 49, 57, 50, 57, 51, 57, 52, 57, 53, 57, 54, 57, 55, 57, 56, 57, 57]⟩ : ByteArray)) : Nat) : Int) then
                                  if 0 ≤ (IntKind.wrap .i64 (x30 - (5 : Int))) ∧ (IntKind.wrap .i64 (x30 - (5 : Int))) < ((a1 : Nat) : Int) then
                                    if (a0 + (Int.toNat (IntKind.wrap .i64 (x30 - (5 : Int))))) < 24 then
                                      if 0 ≤ (IntKind.wrap .i64 (x30 - (6 : Int))) ∧ (IntKind.wrap .i64 (x30 - (6 : Int))) < ((a1 : Nat) : Int) then
                                        if (a0 + (Int.toNat (IntKind.wrap .i64 (x30 - (6 : Int))))) < 24 then
                                          if 0 ≤ (IntKind.wrap .u32 ((IntKind.wrap .u32 ((IntKind.wrap .u32 (Int.tdiv (IntKind.wrap .u32 (Int.tdiv (IntKind.wrap .u32 ((Int.tmod x29 (100000000 : Int)))) (10000 : Int))) (100 : Int))) * (2 : Int))) + (1 : Int))) ∧ (IntKind.wrap .u32 ((IntKind.wrap .u32 ((IntKind.wrap .u32 (Int.tdiv (IntKind.wrap .u32 (Int.tdiv (IntKind.wrap .u32 ((Int.tmod x29 (100000000 : Int)))) (10000 : Int))) (100 : Int))) * (2 : Int))) + (1 : Int))) < (((ByteArray.size (⟨#[48, 48, 48, 49, 48, 50, 48, 51, 48, 52, 48, 53, 48, 54, 48, 55, 48, 56, 48, 57, 49, 48, 49, 49, 49, 50, 49, 51, 49, 52, 49, 53, 49, 54, 49, 55, 49, 56, 49, 57, 50, 48, 50, 49, 50, 50, 50, 51, 50, 52, 50, 53, 50, 54, 50, 55, 50, 56, 50, 57, 51, 48, 51, 49, 51, 50, 51, 51, 51, 52, 51, 53, 51, 54, 51, 55, 51, 56, 51, 57, 52, 48, 52, 49, 52, 50, 52, 51, 52, 52, 52, 53, 52, 54, 52, 55, 52, 56, 52, 57, 53, 48, 53, 49, 53, 50, 53, 51, 53, 52, 53, 53, 53, 54, 53, 55, 53, 56, 53, 57, 54, 48, 54, 49, 54, 50, 54, 51, 54, 52, 54, 53, 54, 54, 54, 55, 54, 56, 54, 57, 55, 48, 55, 49, 55, 50, 55, 51, 55, 52, 55, 53, 55, 54, 55, 55, 55, 56, 55, 57, 56, 48, 56, 49, 56, 50, 56, 51, 56, 52, 56, 53, 56, 54, 56, 55, 56, 56, 56, 57, 57, 48, 57, 49, 57, 50, 57, 51, 57, 52, 57, 53, 57, 54, 57, 55, 57, 56, 57, 57]⟩ : ByteArray)) : Nat) : Int) then
                                            if 0 ≤ (IntKind.wrap .u32 ((IntKind.wrap .u32 (Int.tdiv (IntKind.wrap .u32 (Int.tdiv (IntKind.wrap .u32 ((Int.tmod x29 (100000000 : Int)))) (10000 : Int))) (100 : Int))) * (2 : Int))) ∧ (IntKind.wrap .u32 ((IntKind.wrap .u32 (Int.tdiv (IntKind.wrap .u32 (Int.tdiv (IntKind.wrap .u32 ((Int.tmod x29 (100000000 : Int)))) (10000 : Int))) (100 : Int))) * (2 : Int))) < (((ByteArray.size (⟨#[48, 48, 48, 49, 48, 50, 48, 51, 48, 52, 48, 53, 48, 54, 48, 55, 48, 56, 48, 57, 49, 48, 49, 49, 49, 50, 49, 51, 49, 52, 49, 53, 49, 54, 49, 55, 49, 56, 49, 57, 50, 48, 50, 49, 50, 50, 50, 51, 50, 52, 50, 53, 50, 54, 50, 55, 50, 56, 50, 57, 51, 48, 51, 49, 51, 50, 51, 51, 51, 52, 51, 53, 51, 54, 51, 55, 51, 56, 51, 57, 52, 48, 52, 49, 52, 50, 52, 51, 52, 52, 52, 53, 52, 54, 52, 55, 52, 56, 52, 57, 53, 48, 53, 49, 53, 50, 53, 51, 53, 52, 53, 53, 53, 54, 53, 55, 53, 56, 53, 57, 54, 48, 54, 49, 54, 50, 54, 51, 54, 52, 54, 53, 54, 54, 54, 55, 54, 56, 54, 57, 55, 48, 55, 49, 55, 50, 55, 51, 55, 52, 55, 53, 55, 54, 55, 55, 55, 56, 55, 57, 56, 48, 56, 49, 56, 50, 56, 51, 56, 52, 56, 53, 56, 54, 56, 55, 56, 56, 56, 57, 57, 48, 57, 49, 57, 50, 57, 51, 57, 52, 57, 53, 57, 54, 57, 55, 57, 56, 57, 57]⟩ : ByteArray)) : Nat) : Int) then
                                              if 0 ≤ (IntKind.wrap .i64 (x30 - (7 : Int))) ∧ (IntKind.wrap .i64 (x30 - (7 : Int))) < ((a1 : Nat) : Int) then
                                                if (a0 + (Int.toNat (IntKind.wrap .i64 (x30 - (7 : Int))))) < 24 then
                                                  if 0 ≤ (IntKind.wrap .i64 (x30 - (8 : Int))) ∧ (IntKind.wrap .i64 (x30 - (8 : Int))) < ((a1 : Nat) : Int) then
                                                    if (a0 + (Int.toNat (IntKind.wrap .i64 (x30 - (8 : Int))))) < 24 then
                                                      internal_strconv_formatBase10.l0 a0 a1 n (List.set (List.set (List.set (List.set (List.set (List.set (List.set (List.set x28 (a0 + (Int.toNat (IntKind.wrap .i64 (x30 - (1 : Int))))) (bt (⟨#[48, 48, 48, 49, 48, 50, 48, 51, 48, 52, 48, 53, 48, 54, 48, 55, 48, 56, 48, 57, 49, 48, 49, 49, 49, 50, 49, 51, 49, 52, 49, 53, 49, 54, 49, 55, 49, 56, 49, 57, 50, 48, 50, 49, 50, 50, 50, 51, 50, 52, 50, 53, 50, 54, 50, 55, 50, 56, 50, 57, 51, 48, 51, 49, 51, 50, 51, 51, 51, 52, 51, 53, 51, 54, 51, 55, 51, 56, 51, 57, 52, 48, 52, 49, 52, 50, 52, 51, 52, 52, 52, 53, 52, 54, 52, 55, 52, 56, 52, 57, 53, 48, 53, 49, 53, 50, 53, 51, 53, 52, 53, 53, 53, 54, 53, 55, 53, 56, 53, 57, 54, 48, 54, 49, 54, 50, 54, 51, 54, 52, 54, 53, 54, 54, 54, 55, 54, 56, 54, 57, 55, 48, 55, 49, 55, 50, 55, 51, 55, 52, 55, 53, 55, 54, 55, 55, 55, 56, 55, 57, 56, 48, 56, 49, 56, 50, 56, 51, 56, 52, 56, 53, 56, 54, 56, 55, 56, 56, 56, 57, 57, 48, 57, 49, 57, 50, 57, 51, 57, 52, 57, 53, 57, 54, 57, 55, 57, 56, 57, 57]⟩ : ByteArray) (IntKind.wrap .u32 ((IntKind.wrap .u32 ((Int.tmod (Int.tmod (IntKind.wrap .u32 ((Int.tmod x29 (100000000 : Int)))) (10000 : Int)) (100 : Int)) * (2 : Int))) + (1 : Int))))) (a0 + (Int.toNat (IntKind.wrap .i64 (x30 - (2 : Int))))) (bt (⟨#[48, 48, 48, 49, 48, 50, 48, 51, 48, 52, 48, 53, 48, 54, 48, 55, 48, 56, 48, 57, 49, 48, 49, 49, 49, 50, 49, 51, 49, 52, 49, 53, 49, 54, 49, 55, 49, 56, 49, 57, 50, 48, 50, 49, 50, 50, 50, 51, 50, 52, 50, 53, 50, 54, 50, 55, 50, 56, 50, 57, 51, 48, 51, 49, 51, 50, 51, 51, 51, 52, 51, 53, 51, 54, 51, 55, 51, 56, 51, 57, 52, 48, 52, 49, 52, 50, 52, 51, 52, 52, 52, 53, 52, 54, 52, 55, 52, 56, 52, 57, 53, 48, 53, 49, 53, 50, 53, 51, 53, 52, 53, 53, 53, 54, 53, 55, 53, 56, 53, 57, 54, 48, 54, 49, 54, 50, 54, 51, 54, 52, 54, 53, 54, 54, 54, 55, 54, 56, 54, 57, 55, 48, 55, 49, 55, 50, 55, 51, 55, 52, 55, 53, 55, 54, 55, 55, 55, 56, 55, 57, 56, 48, 56, 49, 56, 50, 56, 51, 56, 52, 56, 53, 56, 54, 56, 55, 56, 56, 56, 57, 57, 48, 57, 49, 57, 50, 57, 51, 57, 52, 57, 53, 57, 54, 57, 55, 57, 56, 57, 57]⟩ : ByteArray) (IntKind.wrap .u32 ((Int.tmod (Int.tmod (IntKind.wrap .u32 ((Int.tmod x29 (100000000 : Int)))) (10000 : Int)) (100 : Int)) * (2 : Int))))) (a0 + (Int.toNat (IntKind.wrap .i64 (x30 - (3 : Int))))) (bt (⟨#[48, 48, 48, 49, 48, 50, 48, 51, 48, 52, 48, 53, 48, 54, 48, 55, 48, 56, 48, 57, 49, 48, 49, 49, 49, 50, 49, 51, 49, 52, 49, 53, 49, 54, 49, 55, 49, 56, 49, 57, 50, 48, 50, 49, 50, 50, 50, 51, 50, 52, 50, 53, 50, 54, 50, 55, 50, 56, 50, 57, 51, 48, 51, 49, 51, 50, 51, 51, 51, 52, 51, 53, 51, 54, 51, 55, 51, 56, 51, 57, 52, 48, 52, 49, 52, 50, 52, 51, 52, 52, 52, 53, 52, 54, 52, 55, 52, 56, 52, 57, 53, 48, 53, 49, 53, 50, 53, 51, 53, 52, 53, 53, 53, 54, 53, 55, 53, 56, 53, 57, 54, 48, 54, 49, 54, 50, 54, 51, 54, 52, 54, 53, 54, 54, 54, 55, 54, 56, 54, 57, 55, 48, 55, 49, 55, 50, 55, 51, 55, 52, 55, 53, 55, 54, 55, 55, 55, 56, 55, 57, 56, 48, 56, 49, 56, 50, 56, 51, 56, 52, 56, 53, 56, 54, 56, 55, 56, 56, 56, 57, 57, 48, 57, 49, 57, 50, 57, 51, 57, 52, 57, 53, 57, 54, 57, 55, 57, 56, 57, 57]⟩ : ByteArray) (IntKind.wrap .u32 ((IntKind.wrap .u32 ((IntKind.wrap .u32 (Int.tdiv (Int.tmod (IntKind.wrap .u32 ((Int.tmod x29 (100000000 : Int)))) (10000 : Int)) (100 : Int))) * (2 : Int))) + (1 : Int))))) (a0 + (Int.toNat (IntKind.wrap .i64 (x30 - (4 : Int))))) (bt (⟨#[48, 48, 48, 49, 48, 50, 48, 51, 48, 52, 48, 53, 48, 54, 48, 55, 48, 56, 48, 57, 49, 48, 49, 49, 49, 50, 49, 51, 49, 52, 49, 53, 49, 54, 49, 55, 49, 56, 49, 57, 50, 48, 50, 49, 50, 50, 50, 51, 50, 52, 50, 53, 50, 54, 50, 55, 50, 56, 50, 57, 51, 48, 51, 49, 51, 50, 51, 51, 51, 52, 51, 53, 51, 54, 51, 55, 51, 56, 51, 57, 52, 48, 52, 49, 52, 50, 52, 51, 52, 52, 52, 53, 52, 54, 52, 55, 52, 56, 52, 57, 53, 48, 53, 49, 53, 50, 53, 51, 53, 52, 53, 53, 53, 54, 53, 55, 53, 56, 53, 57, 54, 48, 54, 49, 54, 50, 54, 51, 54, 52, 54, 53, 54, 54, 54, 55, 54, 56, 54, 57, 55, 48, 55, 49, 55, 50, 55, 51, 55, 52, 55, 53, 55, 54, 55, 55, 55, 56, 55, 57, 56, 48, 56, 49, 56, 50, 56, 51, 56, 52, 56, 53, 56, 54, 56, 55, 56, 56, 56, 57, 57, 48, 57, 49, 57, 50, 57, 51, 57, 52, 57, 53, 57, 54, 57, 55, 57, 56, 57, 57]⟩ : ByteArray) (IntKind.wrap .u32 ((IntKind.wrap .u32 (Int.tdiv (Int.tmod (IntKind.wrap .u32 ((Int.tmod x29 (100000000 : Int)))) (10000 : Int)) (100 : Int))) * (2 : Int))))) (a0 + (Int.toNat (IntKind.wrap .i64 (x30 - (5 : Int))))) (bt (⟨#[48, 48, 48, 49, 48, 50, 48, 51, 48, 52, 48, 53, 48, 54, 48, 55, 48, 56, 48, 57, 49, 48, 49, 49, 49, 50, 49, 51, 49, 52, 49, 53, 49, 54, 49, 55, 49, 56, 49, 57, 50, 48, 50, 49, 50, 50, 50, 51, 50, 52, 50, 53, 50, 54, 50, 55, 50, 56, 50, 57, 51, 48, 51, 49, 51, 50, 51, 51, 51, 52, 51, 53, 51, 54, 51, 55, 51, 56, 51, 57, 52, 48, 52, 49, 52, 50, 52, 51, 52, 52, 52, 53, 52, 54, 52, 55, 52, 56, 52, 57, 53, 48, 53, 49, 53, 50, 53, 51, 53, 52, 53, 53, 53, 54, 53, 55, 53, 56, 53, 57, 54, 48, 54, 49, 54, 50, 54, 51, 54, 52, 54, 53, 54, 54, 54, 55, 54, 56, 54, 57, 55, 48, 55, 49, 55, 50, 55, 51, 55, 52, 55, 53, 55, 54, 55, 55, 55, 56, 55, 57, 56, 48, 56, 49, 56, 50, 56, 51, 56, 52, 56, 53, 56, 54, 56, 55, 56, 56, 56, 57, 57, 48, 57, 49, 57, 50, 57, 51, 57, 52, 57, 53, 57, 54, 57, 55, 57, 56, 57, 57]⟩ : ByteArray) (IntKind.wrap .u32 ((IntKind.wrap .u32 ((Int.tmod (IntKind.wrap .u32 (Int.tdiv (IntKind.wrap .u32 ((Int.tmod x29 (100000000 : Int)))) (10000 : Int))) (100 : Int)) * (2 : Int))) + (1 : Int))))) (a0 + (Int.toNat (IntKind.wrap .i64 (x30 - (6 : Int))))) (bt (⟨#[48, 48, 48, 49, 48, 50, 48, 51, 48, 52, 48, 53, 48, 54, 48, 55, 48, 56, 48, 57, 49, 48, 49, 49, 49, 50, 49, 51, 49, 52, 49, 53, 49, 54, 49, 55, 49, 56, 49, 57, 50, 48, 50, 49, 50, 50, 50, 51, 50, 52, 50, 53, 50, 54, 50, 55, 50, 56, 50, 57, 51, 48, 51, 49, 51, 50, 51, 51, 51, 52, 51, 53, 51, 54, 51, 55, 51, 56, 51, 57, 52, 48, 52, 49, 52, 50, 52, 51, 52, 52, 52, 53, 52, 54, 52, 55, 52, 56, 52, 57, 53, 48, 53, 49, 53, 50, 53, 51, 53, 52, 53, 53, 53, 54, 53, 55, 53, 56, 53, 57, 54, 48, 54, 49, 54, 50, 54, 51, 54, 52, 54, 53, 54, 54, 54, 55, 54, 56, 54, 57, 55, 48, 55, 49, 55, 50, 55, 51, 55, 52, 55, 53, 55, 54, 55, 55, 55, 56, 55, 57, 56, 48, 56, 49, 56, 50, 56, 51, 56, 52, 56, 53, 56, 54, 56, 55, 56, 56, 56, 57, 57, 48, 57, 49, 57, 50, 57, 51, 57, 52, 57, 53, 57, 54, 57, 55, 57, 56, 57, 57]⟩ : ByteArray) (IntKind.wrap .u32 ((Int.tmod (IntKind.wrap .u32 (Int.tdiv (IntKind.wrap .u32 ((Int.tmod x29 (100000000 : Int)))) (10000 : Int))) (100 : Int)) * (2 : Int))))) (a0 + (Int.toNat (IntKind.wrap .i64 (x30 - (7 : Int))))) (bt (⟨#[48, 48, 48, 49, 48, 50, 48, 51, 48, 52, 48, 53, 48, 54, 48, 55, 48, 56, 48, 57, 49, 48, 49, 49, 49, 50, 49, 51, 49, 52, 49, 53, 49, 54, 49, 55, 49, 56, 49, 57, 50, 48, 50, 49, 50, 50, 50, 51, 50, 52, 50, 53, 50, 54, 50, 55, 50, 56, 50, 57, 51, 48, 51, 49, 51, 50, 51, 51, 51, 52, 51, 53, 51, 54, 51, 55, 51, 56, 51, 57, 52, 48, 52, 49, 52, 50, 52, 51, 52, 52, 52, 53, 52, 54, 52, 55, 52, 56, 52, 57, 53, 48, 53, 49, 53, 50, 53, 51, 53, 52, 53, 53, 53, 54, 53, 55, 53, 56, 53, 57, 54, 48, 54, 49, 54, 50, 54, 51, 54, 52, 54, 53, 54, 54, 54, 55, 54, 56, 54, 57, 55, 48, 55, 49, 55, 50, 55, 51, 55, 52, 55, 53, 55, 54, 55, 55, 55, 56, 55, 57, 56, 48, 56, 49, 56, 50, 56, 51, 56, 52, 56, 53, 56, 54, 56, 55, 56, 56, 56, 57, 57, 48, 57, 49, 57, 50, 57, 51, 57, 52, 57, 53, 57, 54, 57, 55, 57, 56, 57, 57]⟩ : ByteArray) (IntKind.wrap .u32 ((IntKind.wrap .u32 ((IntKind.wrap .u32 (Int.tdiv (IntKind.wrap .u32 (Int.tdiv (IntKind.wrap .u32 ((Int.tmod x29 (100000000 : Int)))) (10000 : Int))) (100 : Int))) * (2 : Int))) + (1 : Int))))) (a0 + (Int.toNat (IntKind.wrap .i64 (x30 - (8 : Int))))) (bt (⟨#[48, 48, 48, 49, 48, 50, 48, 51, 48, 52, 48, 53, 48, 54, 48, 55, 48, 56, 48, 57, 49, 48, 49, 49, 49, 50, 49, 51, 49, 52, 49, 53, 49, 54, 49, 55, 49, 56, 49, 57, 50, 48, 50, 49, 50, 50, 50, 51, 50, 52, 50, 53, 50, 54, 50, 55, 50, 56, 50, 57, 51, 48, 51, 49, 51, 50, 51, 51, 51, 52, 51, 53, 51, 54, 51, 55, 51, 56, 51, 57, 52, 48, 52, 49, 52, 50, 52, 51, 52, 52, 52, 53, 52, 54, 52, 55, 52, 56, 52, 57, 53, 48, 53, 49, 53, 50, 53, 51, 53, 52, 53, 53, 53, 54, 53, 55, 53, 56, 53, 57, 54, 48, 54, 49, 54, 50, 54, 51, 54, 52, 54, 53, 54, 54, 54, 55, 54, 56, 54, 57, 55, 48, 55, 49, 55, 50, 55, 51, 55, 52, 55, 53, 55, 54, 55, 55, 55, 56, 55, 57, 56, 48, 56, 49, 56, 50, 56, 51, 56, 52, 56, 53, 56, 54, 56, 55, 56, 56, 56, 57, 57, 48, 57, 49, 57, 50, 57, 51, 57, 52, 57, 53, 57, 54, 57, 55, 57, 56, 57, 57]⟩ : ByteArray) (IntKind.wrap .u32 ((IntKind.wrap .u32 (Int.tdiv (IntKind.wrap .u32 (Int.tdiv (IntKind.wrap .u32 ((Int.tmod x29 (100000000 : Int)))) (10000 : Int))) (100 : Int))) * (2 : Int))))) (IntKind.wrap .u64 (Int.tdiv x29 (100000000 : Int))) (IntKind.wrap .i64 (x30 - (8 : Int)))
                                                    else none
                                                  else none
                                                else none
                                              else none
                                            else none
                                          else none
                                        else none
                                      else none
                                    else none
                                  else none
                                else none
                              else none
                            else none
                          else none
                        else none
                      else none
                    else none
                  else none
                else none
              else none
            else none
          else none
        else none
      else none
    else
      some (x28, x29, x30)
def internal_strconv_formatBase10.l0_S (a0 : Nat) (a1 : Nat) (x28 : List Int) (x29 : Int) (x30 : Int) : St := ⟨[.v (.one (.os 0 0 a0 1 a1 none)), .v (.one (.sc (.int .u64 x29))), .any, .any, .v (.one (.sc (.int .i64 x30))), .any, .any, .any, .any, .any, .any, .any, .any, .any, .any, .any, .any, .any, .any, .any, .any, .any, .any, .any, .any, .any, .any, .any, .any, .any, .any, .any, .any, .any, .any, .any, .any, .any, .any, .any, .any, .any, .any, .any, .any, .any, .any, .any, .any, .any, .any, .any, .any, .any, .any, .any, .any, .any, .any, .any, .any, .any, .any, .any, .any, .any, .any, .any, .any, .any, .any, .any, .any, .any, .any, .any, .any, .any, .any, .any, .any, .any, .any, .any, .any, .any, .any, .any, .any, .any, .any, .any, .any, .any, .any, .any, .any, .any, .any, .any, .any, .any, .any, .any, .any, .any, .any, .any, .any, .any, .any, .any, .any, .any, .any, .any, .any, .any, .any, .any, .any, .any, .any, .any, .any, .any, .any, .any, .any, .any, .any, .any, .any, .any, .any, .any, .any, .any, .any, .any, .any, .any, .any, .any, .any, .any, .any, .any, .any, .any, .any, .any, .any, .any, .any, .any, .any, .any, .any, .any, .any, .any, .any, .any, .any, .any, .any], [.ex false [.row 24 (.int .u8) x28] 78], 1⟩
def internal_strconv_formatBase10.l0_Q (a0 : Nat) (a1 : Nat) (t : (List Int) × Int × Int) : Exit → St → Prop := fun e s => e = (.exit 0) ∧ s = ⟨[.v (.one (.os 0 0 a0 1 a1 none)), .v (.one (.sc (.int .u64 t.2.1))), .any, .any, .v (.one (.sc (.int .i64 t.2.2))), .any, .any, .any, .any, .any, .any, .any, .any, .any, .any, .any, .any, .any, .any, .any, .any, .any, .any, .any, .any, .any, .any, .any, .any, .any, .any, .any, .any, .any, .any, .any, .any, .any, .any, .any, .any, .any, .any, .any, .any, .any, .any, .any, .any, .any, .any, .any, .any, .any, .any, .any, .any, .any, .any, .any, .any, .any, .any, .any, .any, .any, .any, .any, .any, .any, .any, .any, .any, .any, .any, .any, .any, .any, .any, .any, .any, .any, .any, .any, .any, .any, .any, .any, .any, .any, .any, .any, .any, .any, .any, .any, .any, .any, .any, .any, .any, .any, .any, .any, .any, .any, .any, .any, .any, .any, .any, .any, .any, .any, .any, .any, .any, .any, .any, .any, .any, .any, .any, .any, .any, .any, .any, .any, .any, .any, .any, .any, .any, .any, .any, .any, .any, .any, .any, .any, .any, .any, .any, .any, .any, .any, .any, .any, .any, .any, .any, .any, .any, .any, .any, .any, .any, .any, .any, .any, .any, .any, .any, .any, .any, .any, .any], [.ex false [.row 24 (.int .u8) t.1] 78], 1⟩
theorem internal_strconv_formatBase10.l0_ok (a0 : Nat) (a1 : Nat) : ∀ (n : Nat) (x28 : List Int) (x29 : Int) (x30 : Int) (r : (List Int) × Int × Int), internal_strconv_formatBase10.l0 a0 a1 n x28 x29 x30 = some r → TripN cfg (cpath (Tryd.f29.body.getD .skip) [1, 0, 0, 0]) n (internal_strconv_formatBase10.l0_S a0 a1 x28 x29 x30) (internal_strconv_formatBase10.l0_Q a0 a1 r) := by
  intro n
  induction n with
  | zero => intro x28 x29 x30 r h; cases h
  | succ n ih =>
    intro x28 x29 x30 r h
    rw [internal_strconv_formatBase10.l0] at h
    refine TripN.of_run cfg_ok (k := (.br (.dr [(0, ⟨none, .no⟩), (1, ⟨none, .no⟩), (2, ⟨none, .no⟩), (3, ⟨none, .no⟩), (4, ⟨none, .no⟩), (5, ⟨none, .no⟩), (6, ⟨none, .no⟩), (7, ⟨none, .no⟩), (8, ⟨none, .no⟩), (9, ⟨none, .no⟩), (10, ⟨none, .no⟩), (11, ⟨none, .no⟩), (12, ⟨none, .no⟩), (13, ⟨none, .no⟩), (14, ⟨none, .no⟩)] (.dr [(0, ⟨none, .no⟩), (1, ⟨none, .no⟩), (2, ⟨none, .no⟩), (3, ⟨none, .no⟩), (4, ⟨none, .no⟩), (5, ⟨none, .no⟩), (6, ⟨none, .no⟩), (7, ⟨none, .no⟩), (8, ⟨none, .no⟩), (9, ⟨none, .no⟩), (10, ⟨none, .no⟩), (11, ⟨none, .no⟩), (12, ⟨none, .no⟩), (13, ⟨none, .no⟩), (14, ⟨none, .no⟩)] (.dr [(0, ⟨none, .no⟩), (1, ⟨none, .no⟩), (2, ⟨none, .no⟩), (3, ⟨none, .no⟩), (4, ⟨none, .no⟩), (5, ⟨none, .no⟩), (6, ⟨none, .no⟩), (7, ⟨none, .no⟩), (8, ⟨none, .no⟩), (9, ⟨none, .no⟩), (10, ⟨none, .no⟩), (11, ⟨none, .no⟩), (12, ⟨none, .no⟩), (13, ⟨none, .no⟩), (14, ⟨none, .no⟩)] (.dr [(0, ⟨none, .no⟩), (1, ⟨none, .no⟩), (2, ⟨none, .no⟩), (3, ⟨none, .no⟩), (4, ⟨none, .no⟩), (5, ⟨none, .no⟩), (6, ⟨none, .no⟩), (7, ⟨none, .no⟩), (8, ⟨none, .no⟩), (9, ⟨none, .no⟩), (10, ⟨none, .no⟩), (11, ⟨none, .no⟩), (12, ⟨none, .no⟩), (13, ⟨none, .no⟩), (14, ⟨none, .no⟩)] (.adj [] (.adj [.keep [0, 1, 4], .drop 1] .nil)))))) (.adj [.keep [0, 1, 4], .drop 1] .nil))) (to_goal (q := (True) ∧ (((decide (x30 ≥ (8 : Int))) = true → ((100000000 : Int) ≠ 0) ∧ (True) ∧ ((100000000 : Int) ≠ 0) ∧ ((10000 : Int) ≠ 0) ∧ ((10000 : Int) ≠ 0) ∧ ((100 : Int) ≠ 0) ∧ (True) ∧ ((100 : Int) ≠ 0) ∧ (True) ∧ ((100 : Int) ≠ 0) ∧ (True) ∧ ((100 : Int) ≠ 0) ∧ (True) ∧ (True) ∧ (True) ∧ (True) ∧ (0 ≤ (IntKind.wrap .u32 ((IntKind.wrap .u32 ((Int.tmod (Int.tmod (IntKind.wrap .u32 ((Int.tmod x29 (100000000 : Int)))) (10000 : Int)) (100 : Int)) * (2 : Int))) + (1 : Int))) ∧ (IntKind.wrap .u32 ((IntKind.wrap .u32 ((Int.tmod (Int.tmod (IntKind.wrap .u32 ((Int.tmod x29 (100000000 : Int)))) (10000 : Int)) (100 : Int)) * (2 : Int))) + (1 : Int))) < (((ByteArray.size (⟨#[48, 48, 48, 49, 48, 50, 48, 51, 48, 52, 48, 53, 48, 54, 48, 55, 48, 56, 48, 57, 49, 48, 49, 49, 49, 50, 49, 51, 49, 52, 49, 53, 49, 54, 49, 55, 49, 56, 49, 57, 50, 48, 50, 49, 50, 50, 50, 51, 50, 52, 50, 53, 50, 54, 50, 55, 50, 56, 50, 57, 51, 48, 51, 49, 51, 50, 51, 51, 51, 52, 51, 53, 51, 54, 51, 55, 51, 56, 51, 57, 52, 48, 52, 49, 52, 50, 52, 51, 52, 52, 52, 53, 52, 54, 52, 55, 52, 56, 52, 57, 53, 48, 53, 49, 53, 50, 53, 51, 53, 52, 53, 53, 53, 54, 53, 55, 53, 56, 53, 57, 54, 48, 54, 49, 54, 50, 54, 51, 54, 52, 54, 53, 54, 54, 54, 55, 54, 56, 54, 57, 55, 48, 55, 49, 55, 50, 55, 51, 55, 52, 55, 53, 55, 54, 55, 55, 55, 56, 55, 57, 56, 48, 56, 49, 56, 50, 56, 51, 56, 52, 56, 53, 56, 54, 56, 55, 56, 56, 56, 57, 57, 48, 57, 49, 57, 50, 57, 51, 57, 52, 57, 53, 57, 54, 57, 55, 57, 56, 57, 57]⟩ : ByteArray)) : Nat) : Int)) ∧ (0 ≤ (IntKind.wrap .u32 ((Int.tmod (Int.tmod (IntKind.wrap .u32 ((Int.tmod x29 (100000000 : Int)))) (10000 : Int)) (100 : Int)) * (2 : Int))) ∧ (IntKind.wrap .u32 ((Int.tmod (Int.tmod (IntKind.wrap .u32 ((Int.tmod x29 (100000000 : Int)))) (10000 : Int)) (100 : Int)) * (2 : Int))) < (((ByteArray.size (⟨#[48, 48, 48, 49, 48, 50, 48, 51, 48, 52, 48, 53, 48, 54, 48, 55, 48, 56, 48, 57, 49, 48, 49, 49, 49, 50, 49, 51, 49, 52, 49, 53, 49, 54, 49, 55, 49, 56, 49, 57, 50, 48, 50, 49, 50, 50, 50, 51, 50, 52, 50, 53, 50, 54, 50, 55, 50, 56, 50, 57, 51, 48, 51, 49, 51, 50, 51, 51, 51, 52, 51, 53, 51, 54, 51, 55, 51, 56, 51, 57, 52, 48, 52, 49, 52, 50, 52, 51, 52, 52, 52, 53, 52, 54, 52, 55, 52, 56, 52, 57, 53, 48, 53, 49, 53, 50, 53, 51, 53, 52, 53, 53, 53, 54, 53, 55, 53, 56, 53, 57, 54, 48, 54, 49, 54, 50, 54, 51, 54, 52, 54, 53, 54, 54, 54, 55, 54, 56, 54, 57, 55, 48, 55, 49, 55, 50, 55, 51, 55, 52, 55, 53, 55, 54, 55, 55, 55, 56, 55, 57, 56, 48, 56, 49, 56, 50, 56, 51, 56, 52, 56, 53, 56, 54, 56, 55, 56, 56, 56, 57, 57, 48, 57, 49, 57, 50, 57, 51, 57, 52, 57, 53, 57, 54, 57, 55, 57, 56, 57, 57]⟩ : ByteArray)) : Nat) : Int)) ∧ (0 ≤ (IntKind.wrap .i64 (x30 - (1 : Int))) ∧ (IntKind.wrap .i64 (x30 - (1 : Int))) < ((a1 : Nat) : Int)) ∧ ((a0 + (Int.toNat (IntKind.wrap .i64 (x30 - (1 : Int))))) < 24) ∧ (0 ≤ (IntKind.wrap .i64 (x30 - (2 : Int))) ∧ (IntKind.wrap .i64 (x30 - (2 : Int))) < ((a1 : Nat) : Int)) ∧ ((a0 + (Int.toNat (IntKind.wrap .i64 (x30 - (2 : Int))))) < 24) ∧ (True) ∧ (True) ∧ (True) ∧ (0 ≤ (IntKind.wrap .u32 ((IntKind.wrap .u32 ((IntKind.wrap .u32 (Int.tdiv (Int.tmod (IntKind.wrap .u32 ((Int.tmod x29 (100000000 : Int)))) (10000 : Int)) (100 : Int))) * (2 : Int))) + (1 : Int))) ∧ (IntKind.wrap .u32 ((IntKind.wrap .u32 ((IntKind.wrap .u32 (Int.tdiv (Int.tmod (IntKind.wrap .u32 ((Int.tmod x29 (100000000 : Int)))) (10000 : Int)) (100 : Int))) * (2 : Int))) + (1 : Int))) < (((ByteArray.size (⟨#[48, 48, 48, 49, 48, 50, 48, 51, 48, 52, 48, 53, 48, 54, 48, 55, 48, 56, 48, 57, 49, 48, 49, 49, 49, 50, 49, 51, 49, 52, 49, 53, 49, 54, 49, 55, 49, 56, 49, 57, 50, 48, 50, 49, 50, 50, 50, 51, 50, 52, 50, 53, 50, 54, 50, 55, 50, 56, 50, 57, 51, 48, 51, 49, 51, 50, 51, 51, 51, 52, 51, 53, 51, 54, 51, 55, 51, 56, 51, 57, 52, 48, 52, 49, 52, 50, 52, 51, 52, 52, 52, 53, 52, 54, 52, 55, 52, 56, 52, 57, 53, 48, 53, 49, 53, 50, 53, 51, 53, 52, 53, 53, 53, 54, 53, 55, 53, 56, 53, 57, 54, 48, 54, 49, 54, 50, 54, 51, 54, 52, 54, 53, 54, 54, 54, 55, 54, 56, 54, 57, 55, 48, 55, 49, 55, 50, 55, 51, 55, 52, 55, 53, 55, 54, 55, 55, 55, 56, 55, 57, 56, 48, 56, 49, 56, 50, 56, 51, 56, 52, 56, 53, 56, 54, 56, 55, 56, 56, 56, 57, 57, 48, 57, 49, 57, 50, 57, 51, 57, 52, 57, 53, 57, 54, 57, 55, 57, 56, 57, 57]⟩ : ByteArray)) : Nat) : Int)) ∧ (0 ≤ (IntKind.wrap .u32 ((IntKind.wrap .u32 (Int.tdiv (Int.tmod (IntKind.wrap .u32 ((Int.tmod x29 (100000000 : Int)))) (10000 : Int)) (100 : Int))) * (2 : Int))) ∧ (IntKind.wrap .u32 ((IntKind.wrap .u32 (Int.tdiv (Int.tmod (IntKind.wrap .u32 ((Int.tmod x29 (100000000 : Int)))) (10000 : Int)) (100 : Int))) * (2 : Int))) < (((ByteArray.size (⟨#[48, 48, 48, 49, 48, 50, 48, 51, 48, 52, 48, 53, 48, 54, 48, 55, 48, 56, 48, 57, 49, 48, 49, 49, 49, 50, 49, 51, 49, 52, 49, 53, 49, 54, 49, 55, 49, 56, 49, 57, 50, 48, 50, 49, 50, 50, 50, 51, 50, 52, 50, 53, 50, 54, 50, 55, 50, 56, 50, 57, 51, 48, 51, 49, 51, 50, 51, 51, 51, 52, 51, 53, 51, 54, 51, 55, 51, 56, 51, 57, 52, 48, 52, 49, 52, 50, 52, 51, 52, 52, 52, 53, 52, 54, 52, 55, 52, 56, 52, 57, 53, 48, 53, 49, 53, 50, 53, 51, 53, 52, 53, 53, 53, 54, 53, 55, 53, 56, 53, 57, 54, 48, 54, 49, 54, 50, 54, 51, 54, 52, 54, 53, 54, 54, 54, 55, 54, 56, 54, 57, 55, 48, 55, 49, 55, 50, 55, 51, 55, 52, 55, 53, 55, 54, 55, 55, 55, 56, 55, 57, 56, 48, 56, 49, 56, 50, 56, 51, 56, 52, 56, 53, 56, 54, 56, 55, 56, 56, 56, 57, 57, 48, 57, 49, 57, 50, 57, 51, 57, 52, 57, 53, 57, 54, 57, 55, 57, 56, 57, 57]⟩ : ByteArray)) : Nat) : Int)) ∧ (0 ≤ (IntKind.wrap .i64 (x30 - (3 : Int))) ∧ (IntKind.wrap .i64 (x30 - (3 : Int))) < ((a1 : Nat) : Int)) ∧ ((a0 + (Int.toNat (IntKind.wrap .i64 (x30 - (3 : Int))))) < 24) ∧ (0 ≤ (IntKind.wrap .i64 (x30 - (4 : Int))) ∧ (IntKind.wrap .i64 (x30 - (4 : Int))) < ((a1 : Nat) : Int)) ∧ ((a0 + (Int.toNat (IntKind.wrap .i64 (x30 - (4 : Int))))) < 24) ∧ (True) ∧ (True) ∧ (True) ∧ (0 ≤ (IntKind.wrap .u32 ((IntKind.wrap .u32 ((Int.tmod (IntKind.wrap .u32 (Int.tdiv (IntKind.wrap .u32 ((Int.tmod x29 (100000000 : Int)))) (10000 : Int))) (100 : Int)) * (2 : Int))) + (1 : Int))) ∧ (IntKind.wrap .u32 ((IntKind.wrap .u32 ((Int.tmod (IntKind.wrap .u32 (Int.tdiv (IntKind.wrap .u32 ((Int.tmod x29 (100000000 : Int)))) (10000 : Int))) (100 : Int)) * (2 : Int))) + (1 : Int))) < (((ByteArray.size (⟨#[48, 48, 48, 49, 48, 50, 48, 51, 48, 52, 48, 53, 48, 54, 48, 55, 48, 56, 48, 57, 49, 48, 49, 49, 49, 50, 49, 51, 49, 52, 49, 53, 49, 54, 49, 55, 49, 56, 49, 57, 50, 48, 50, 49, 50, 50, 50, 51, 50, 52, 50, 53, 50, 54, 50, 55, 50, 56, 50, 57, 51, 48, 51, 49, 51, 50, 51, 51, 51, 52, 51, 53, 51, 54, 51, 55, 51, 56, 51, 57, 52, 48, 52, 49, 52, 50, 52, 51, 52, 52, 52, 53, 52, 54, 52, 55, 52, 56, 52, 57, 53, 48, 53, 49, 53, 50, 53, 51, 53, 52, 53, 53, 53, 54, 53, 55, 53, 56, 53, 57, 54, 48, 54, 49, 54, 50, 54, 51, 54, 52, 54, 53, 54, 54, 54, 55, 54, 56, 54, 57, 55, 48, 55, 49, 55, 50, 55, 51, 55, 52, 55, 53, 55, 54, 55, 55, 55, 56, 55, 57, 56, 48, 56, 49, 56, 50, 56, 51, 56, 52, 56, 53, 56, 54, 56, 55, 56, 56, 56, 57, 57, 48, 57, 49, 57, 50, 57, 51, 57, 52, 57, 53, 57, 54, 57, 55, 57, 56, 57, 57]⟩ : ByteArray)) : Nat) : Int)) ∧ (0 ≤ (IntKind.wrap .u32 ((Int.tmod (IntKind.wrap .u32 (Int.tdiv (IntKind.wrap .u32 ((Int.tmod x29 (100000000 : Int)))) (10000 : Int))) (100 : Int)) * (2 : Int))) ∧ (IntKind.wrap .u32 ((Int.tmod (IntKind.wrap .u32 (Int.tdiv (IntKind.wrap .u32 ((Int.tmod x29 (100000000 : Int)))) (10000 : Int))) (100 : Int)) * (2 : Int))) < (((ByteArray.size (⟨#[48, 48, 48, 49, 48, 50, 48, 51, 48, 52, 48, 53, 48, 54, 48, 55, 48, 56, 48, 57, 49, 48, 49, 49, 49, 50, 49, 51, 49, 52, 49, 53, 49, 54, 49, 55, 49, 56, 49, 57, 50, 48, 50, 49, 50, 50, 50, 51, 50, 52, 50, 53, 50, 54, 50, 55, 50, 56, 50, 57, 51, 48, 51, 49, 51, 50, 51, 51, 51, 52, 51, 53, 51, 54, 51, 55, 51, 56, 51, 57, 52, 48, 52, 49, 52, 50, 52, 51, 52, 52, 52, 53, 52, 54, 52, 55, 52, 56, 52, 57, 53, 48, 53, 49, 53, 50, 53, 51, 53, 52, 53, 53, 53, 54, 53, 55, 53, 56, 53, 57, 54, 48, 54, 49, 54, 50, 54, 51, 54, 52, 54, 53, 54, 54, 54, 55, 54, 56, 54, 57, 55, 48, 55, 49, 55, 50, 55, 51, 55, 52, 55, 53, 55, 54, 55, 55, 55, 56, 55, 57, 56, 48, 56, 49, 56, 50, 56, 51, 56, 52, 56, 53, 56, 54, 56, 55, 56, 56, 56, 57, 57, 48, 57, 49, 57, 50, 57, 51, 57, 52, 57, 53, 57, 54, 57, 55, 57, 56, 57, 57]⟩ : ByteArray)) : Nat) : Int)) ∧ (0 ≤ (IntKind.wrap .i64 (x30 - (5 : Int))) ∧ (IntKind.wrap .i64 (x30 - (5 : Int))) < ((a1 : Nat) : Int)) ∧ ((a0 + (Int.toNat (IntKind.wrap .i64 (x30 - (5 : Int))))) < 24) ∧ (0 ≤ (IntKind.wrap .i64 (x30 - (6 : Int))) ∧ (IntKind.wrap .i64 (x30 - (6 : Int))) < ((a1 : Nat) : Int)) ∧ ((a0 + (Int.toNat (IntKind.wrap .i64 (x30 - (6 : Int))))) < 24) ∧ (True) ∧ (True) ∧ (True) ∧ (0 ≤ (IntKind.wrap .u32 ((IntKind.wrap .u32 ((IntKind.wrap .u32 (Int.tdiv (IntKind.wrap .u32 (Int.tdiv (IntKind.wrap .u32 ((Int.tmod x29 (100000000 : Int)))) (10000 : Int))) (100 : Int))) * (2 : Int))) + (1 : Int))) ∧ (IntKind.wrap .u32 ((IntKind.wrap .u32 ((IntKind.wrap .u32 (Int.tdiv (IntKind.wrap .u32 (Int.tdiv (IntKind.wrap .u32 ((Int.tmod x29 (100000000 : Int)))) (10000 : Int))) (100 : Int))) * (2 : Int))) + (1 : Int))) < (((ByteArray.size (⟨#[48, 48, 48, 49, 48, 50, 48, 51, 48, 52, 48, 53, 48, 54, 48, 55, 48, 56, 48, 57, 49, 48, 49, 49, 49, 50, 49, 51, 49, 52, 49, 53, 49, 54, 49, 55, 49, 56, 49, 57, 50, 48, 50, 49, 50, 50, 50, 51, 50, 52, 50, 53, 50, 54, 50, 55, 50, 56, 50, 57, 51, 48, 51, 49, 51, 50, 51, 51, 51, 52, 51, 53, 51, 54, 51, 55, 51, 56, 51, 57, 52, 48, 52, 49, 52, 50, 52, 51, 52, 52, 52, 53, 52, 54, 52, 55, 52, 56, 52, 57, 53, 48, 53, 49, 53, 50, 53, 51, 53, 52, 53, 53, 53, 54, 53, 55, 53, 56, 53, 57, 54, 48, 54, 49, 54, 50, 54, 51, 54, 52, 54, 53, 54, 54, 54, 55, 54, 56, 54, 57, 55, 48, 55, 49, 55, 50, 55, 51, 55, 52, 55, 53, 55, 54, 55, 55, 55, 56, 55, 57, 56, 48, 56, 49, 56, 50, 56, 51, 56, 52, 56, 53, 56, 54, 56, 55, 56, 56, 56, 57, 57, 48, 57, 49, 57, 50, 57, 51, 57, 52, 57, 53, 57, 54, 57, 55, 57, 56, 57, 57]⟩ : ByteArray)) : Nat) : Int)) ∧ (0 ≤ (IntKind.wrap .u32 ((IntKind.wrap .u32 (Int.tdiv (IntKind.wrap .u32 (Int.tdiv (IntKind.wrap .u32 ((Int.tmod x29 (100000000 : Int)))) (10000 : Int))) (100 : Int))) * (2 : Int))) ∧ (IntKind.wrap .u32 ((IntKind.wrap .u32 (Int.tdiv (IntKind.wrap .u32 (Int.tdiv (IntKind.wrap .u32 ((Int.tmod x29 (100000000 : Int)))) (10000 : Int))) (100 : Int))) * (2 : Int))) < (((ByteArray.size (⟨#[48, 48, 48, 49, 48, 50, 48, 51, 48, 52, 48, 53, 48, 54, 48, 55, 48, 56, 48, 57, 49, 48, 49, 49, 49, 50, 49, 51, 49, 52, 49, 53, 49, 54, 49, 55, 49, 56, 49, 57, 50, 48, 50, 49, 50, 50, 50, 51, 50, 52, 50, 53, 50, 54, 50, 55, 50, 56, 50, 57, 51, 48, 51, 49, 51, 50, 51, 51, 51, 52, 51, 53, 51, 54, 51, 55, 51, 56, 51, 57, 52, 48, 52, 49, 52, 50, 52, 51, 52, 52, 52, 53, 52, 54, 52, 55, 52, 56, 52, 57, 53, 48, 53, 49, 53, 50, 53, 51, 53, 52, 53, 53, 53, 54, 53, 55, 53, 56, 53, 57, 54, 48, 54, 49, 54, 50, 54, 51, 54, 52, 54, 53, 54, 54, 54, 55, 54, 56, 54, 57, 55, 48, 55, 49, 55, 50, 55, 51, 55, 52, 55, 53, 55, 54, 55, 55, 55, 56, 55, 57, 56, 48, 56, 49, 56, 50, 56, 51, 56, 52, 56, 53, 56, 54, 56, 55, 56, 56, 56, 57, 57, 48, 57, 49, 57, 50, 57, 51, 57, 52, 57, 53, 57, 54, 57, 55, 57, 56, 57, 57]⟩ : ByteArray)) : Nat) : Int)) ∧ (0 ≤ (IntKind.wrap .i64 (x30 - (7 : Int))) ∧ (IntKind.wrap .i64 (x30 - (7 : Int))) < ((a1 : Nat) : Int)) ∧ ((a0 + (Int.toNat (IntKind.wrap .i64 (x30 - (7 : Int))))) < 24) ∧ (0 ≤ (IntKind.wrap .i64 (x30 - (8 : Int))) ∧ (IntKind.wrap .i64 (x30 - (8 : Int))) < ((a1 : Nat) : Int)) ∧ ((a0 + (Int.toNat (IntKind.wrap .i64 (x30 - (8 : Int))))) < 24) ∧ (True ∧ (True) ∧ (((True) ∧ (True) ∧ True) ∧ TripN cfg (cpath (Tryd.f29.body.getD .skip) [1, 0, 0, 0]) n (internal_strconv_formatBase10.l0_S a0 a1 (List.set (List.set (List.set (List.set (List.set (List.set (List.set (List.set x28 (a0 + (Int.toNat (IntKind.wrap .i64 (x30 - (1 : Int))))) (bt (⟨#[48, 48, 48, 49, 48, 50, 48, 51, 48, 52, 48, 53, 48, 54, 48, 55, 48, 56, 48, 57, 49, 48, 49, 49, 49, 50, 49, 51, 49, 52, 49, 53, 49, 54, 49, 55, 49, 56, 49, 57, 50, 48, 50, 49, 50, 50, 50, 51, 50, 52, 50, 53, 50, 54, 50, 55, 50, 56, 50, 57, 51, 48, 51, 49, 51, 50, 51, 51, 51, 52, 51, 53, 51, 54, 51, 55, 51, 56, 51, 57, 52, 48, 52, 49, 52, 50, 52, 51, 52, 52, 52, 53, 52, 54, 52, 55, 52, 56, 52, 57, 53, 48, 53, 49, 53, 50, 53, 51, 53, 52, 53, 53, 53, 54, 53, 55, 53, 56, 53, 57, 54, 48, 54, 49, 54, 50, 54, 51, 54, 52, 54, 53, 54, 54, 54, 55, 54, 56, 54, 57, 55, 48, 55, 49, 55, 50, 55, 51, 55, 52, 55, 53, 55, 54, 55, 55, 55, 56, 55, 57, 56, 48, 56, 49, 56, 50, 56, 51, 56, 52, 56, 53, 56, 54, 56, 55, 56, 56, 56, 57, 57, 48, 57, 49, 57, 50, 57, 51, 57, 52, 57, 53, 57, 54, 57, 55, 57, 56, 57, 57]⟩ : ByteArray) (IntKind.wrap .u32 ((IntKind.wrap .u32 ((Int.tmod (Int.tmod (IntKind.wrap .u32 ((Int.tmod x29 (100000000 : Int)))) (10000 : Int)) (100 : Int)) * (2 : Int))) + (1 : Int))))) (a0 + (Int.toNat (IntKind.wrap .i64 (x30 - (2 : Int))))) (bt (⟨#[48, 48, 48, 49, 48, 50, 48, 51, 48, 52, 48, 53, 48, 54, 48, 55, 48, 56, 48, 57, 49, 48, 49, 49, 49, 50, 49, 51, 49, 52, 49, 53, 49, 54, 49, 55, 49, 56, 49, 57, 50, 48, 50, 49, 50, 50, 50, 51, 50, 52, 50, 53, 50, 54, 50, 55, 50, 56, 50, 57, 51, 48, 51, 49, 51, 50, 51, 51, 51, 52, 51, 53, 51, 54, 51, 55, 51, 56, 51, 57, 52, 48, 52, 49, 52, 50, 52, 51, 52, 52, 52, 53, 52, 54, 52, 55, 52, 56, 52, 57, 53, 48, 53, 49, 53, 50, 53, 51, 53, 52, 53, 53, 53, 54, 53, 55, 53, 56, 53, 57, 54, 48, 54, 49, 54, 50, 54, 51, 54, 52, 54, 53, 54, 54, 54, 55, 54, 56, 54, 57, 55, 48, 55, 49, 55, 50, 55, 51, 55, 52, 55, 53, 55, 54, 55, 55, 55, 56, 55, 57, 56, 48, 56, 49, 56, 50, 56, 51, 56, 52, 56, 53, 56, 54, 56, 55, 56, 56, 56, 57, 57, 48, 57, 49, 57, 50, 57, 51, 57, 52, 57, 53, 57, 54, 57, 55, 57, 56, 57, 57]⟩ : ByteArray) (IntKind.wrap .u32 ((Int.tmod (Int.tmod (IntKind.wrap .u32 ((Int.tmod x29 (100000000 : Int)))) (10000 : Int)) (100 : Int)) * (2 : Int))))) (a0 + (Int.toNat (IntKind.wrap .i64 (x30 - (3 : Int))))) (bt (⟨#[48, 48, 48, 49, 48, 50, 48, 51, 48, 52, 48, 53, 48, 54, 48, 55, 48, 56, 48, 57, 49, 48, 49, 49, 49, 50, 49, 51, 49, 52, 49, 53, 49, 54, 49, 55, 49, 56, 49, 57, 50, 48, 50, 49, 50, 50, 50, 51, 50, 52, 50, 53, 50, 54, 50, 55, 50, 56, 50, 57, 51, 48, 51, 49, 51, 50, 51, 51, 51, 52, 51, 53, 51, 54, 51, 55, 51, 56, 51, 57, 52, 48, 52, 49, 52, 50, 52, 51, 52, 52, 52, 53, 52, 54, 52, 55, 52, 56, 52, 57, 53, 48, 53, 49, 53, 50, 53, 51, 53, 52, 53, 53, 53, 54, 53, 55, 53, 56, 53, 57, 54, 48, 54, 49, 54, 50, 54, 51, 54, 52, 54, 53, 54, 54, 54, 55, 54, 56, 54, 57, 55, 48, 55, 49, 55, 50, 55, 51, 55, 52, 55, 53, 55, 54, 55, 55, 55, 56, 55, 57, 56, 48, 56, 49, 56, 50, 56, 51, 56, 52, 56, 53, 56, 54, 56, 55, 56, 56, 56, 57, 57, 48, 57, 49, 57, 50, 57, 51, 57, 52, 57, 53, 57, 54, 57, 55, 57, 56, 57, 57]⟩ : ByteArray) (IntKind.wrap .u32 ((IntKind.wrap .u32 ((IntKind.wrap .u32 (Int.tdiv (Int.tmod (IntKind.wrap .u32 ((Int.tmod x29 (100000000 : Int)))) (10000 : Int)) (100 : Int))) * (2 : Int))) + (1 : Int))))) (a0 + (Int.toNat (IntKind.wrap .i64 (x30 - (4 : Int))))) (bt (⟨#[48, 48, 48, 49, 48, 50, 48, 51, 48, 52, 48, 53, 48, 54, 48, 55, 48, 56, 48, 57, 49, 48, 49, 49, 49, 50, 49, 51, 49, 52, 49, 53, 49, 54, 49, 55, 49, 56, 49, 57, 50, 48, 50, 49, 50, 50, 50, 51, 50, 52, 50, 53, 50, 54, 50, 55, 50, 56, 50, 57, 51, 48, 51, 49, 51, 50, 51, 51, 51, 52, 51, 53, 51, 54, 51, 55, 51, 56, 51, 57, 52, 48, 52, 49, 52, 50, 52, 51, 52, 52, 52, 53, 52, 54, 52, 55, 52, 56, 52, 57, 53, 48, 53, 49, 53, 50, 53, 51, 53, 52, 53, 53, 53, 54, 53, 55, 53, 56, 53, 57, 54, 48, 54, 49, 54, 50, 54, 51, 54, 52, 54, 53, 54, 54, 54, 55, 54, 56, 54, 57, 55, 48, 55, 49, 55, 50, 55, 51, 55, 52, 55, 53, 55, 54, 55, 55, 55, 56, 55, 57, 56, 48, 56, 49, 56, 50, 56, 51, 56, 52, 56, 53, 56, 54, 56, 55, 56, 56, 56, 57, 57, 48, 57, 49, 57, 50, 57, 51, 57, 52, 57, 53, 57, 54, 57, 55, 57, 56, 57, 57]⟩ : ByteArray) (IntKind.wrap .u32 ((IntKind.wrap .u32 (Int.tdiv (Int.tmod (IntKind.wrap .u32 ((Int.tmod x29 (100000000 : Int)))) (10000 : Int)) (100 : Int))) * (2 : Int))))) (a0 + (Int.toNat (IntKind.wrap .i64 (x30 - (5 : Int))))) (bt (⟨#[48, 48, 48, 49, 48, 50, 48, 51, 48, 52, 48, 53, 48, 54, 48, 55, 48, 56, 48, 57, 49, 48, 49, 49, 49, 50, 49, 51, 49, 52, 49, 53, 49, 54, 49, 55, 49, 56, 49, 57, 50, 48, 50, 49, 50, 50, 50, 51, 50, 52, 50, 53, 50, 54, 50, 55, 50, 56, 50, 57, 51, 48, 51, 49, 51, 50, 51, 51, 51, 52, 51, 53, 51, 54, 51, 55, 51, 56, 51, 57, 52, 48, 52, 49, 52, 50, 52, 51, 52, 52, 52, 53, 52, 54, 52, 55, 52, 56, 52, 57, 53, 48, 53, 49, 53, 50, 53, 51, 53, 52, 53, 53, 53, 54, 53, 55, 53, 56, 53, 57, 54, 48, 54, 49, 54, 50, 54, 51, 54, 52, 54, 53, 54, 54, 54, 55, 54, 56, 54, 57, 55, 48, 55, 49, 55, 50, 55, 51, 55, 52, 55, 53, 55, 54, 55, 55, 55, 56, 55, 57, 56, 48, 56, 49, 56, 50, 56, 51, 56, 52, 56, 53, 56, 54, 56, 55, 56, 56, 56, 57, 57, 48, 57, 49, 57, 50, 57, 51, 57, 52, 57, 53, 57, 54, 57, 55, 57, 56, 57, 57]⟩ : ByteArray) (IntKind.wrap .u32 ((IntKind.wrap .u32 ((Int.tmod (IntKind.wrap .u32 (Int.tdiv (IntKind.wrap .u32 ((Int.tmod x29 (100000000 : Int)))) (10000 : Int))) (100 : Int)) * (2 : Int))) + (1 : Int))))) (a0 + (Int.toNat (IntKind.wrap .i64 (x30 - (6 : Int))))) (bt (⟨#[48, 48, 48, 49, 48, 50, 48, 51, 48, 52, 48, 53, 48, 54, 48, 55, 48, 56, 48, 57, 49, 48, 49, 49, 49, 50, 49, 51, 49, 52, 49, 53, 49, 54, 49, 55, 49, 56, 49, 57, 50, 48, 50, 49, 50, 50, 50, 51, 50, 52, 50, 53, 50, 54, 50, 55, 50, 56, 50, 57, 51, 48, 51, 49, 51, 50, 51, 51, 51, 52, 51, 53, 51, 54, 51, 55, 51, 56, 51, 57, 52, 48, 52, 49, 52, 50, 52, 51, 52, 52, 52, 53, 52, 54, 52, 55, 52, 56, 52, 57, 53, 48, 53, 49, 53, 50, 53, 51, 53, 52, 53, 53, 53, 54, 53, 55, 53, 56, 53, 57, 54, 48, 54, 49, 54, 50, 54, 51, 54, 52, 54, 53, 54, 54, 54, 55, 54, 56, 54, 57, 55, 48, 55, 49, 55, 50, 55, 51, 55, 52, 55, 53, 55, 54, 55, 55, 55, 56, 55, 57, 56, 48, 56, 49, 56, 50, 56, 51, 56, 52, 56, 53, 56, 54, 56, 55, 56, 56, 56, 57, 57, 48, 57, 49, 57, 50, 57, 51, 57, 52, 57, 53, 57, 54, 57, 55, 57, 56, 57, 57]⟩ : ByteArray) (IntKind.wrap .u32 ((Int.tmod (IntKind.wrap .u32 (Int.tdiv (IntKind.wrap .u32 ((Int.tmod x29 (100000000 : Int)))) (10000 : Int))) (100 : Int)) * (2 : Int))))) (a0 + (Int.toNat (IntKind.wrap .i64 (x30 - (7 : Int))))) (bt (⟨#[48, 48, 48, 49, 48, 50, 48, 51, 48, 52, 48, 53, 48, 54, 48, 55, 48, 56, 48, 57, 49, 48, 49, 49, 49, 50, 49, 51, 49, 52, 49, 53, 49, 54, 49, 55, 49, 56, 49, 57, 50, 48, 50, 49, 50, 50, 50, 51, 50, 52, 50, 53, 50, 54, 50, 55, 50, 56, 50, 57, 51, 48, 51, 49, 51, 50, 51, 51, 51, 52, 51, 53, 51, 54, 51, 55, 51, 56, 51, 57, 52, 48, 52, 49, 52, 50, 52, 51, 52, 52, 52, 53, 52, 54, 52, 55, 52, 56, 52, 57, 53, 48, 53, 49, 53, 50, 53, 51, 53, 52, 53, 53, 53, 54, 53, 55, 53, 56, 53, 57, 54, 48, 54, 49, 54, 50, 54, 51, 54, 52, 54, 53, 54, 54, 54, 55, 54, 56, 54, 57, 55, 48, 55, 49, 55, 50, 55, 51, 55, 52, 55, 53, 55, 54, 55, 55, 55, 56, 55, 57, 56, 48, 56, 49, 56, 50, 56, 51, 56, 52, 56, 53, 56, 54, 56, 55, 56, 56, 56, 57, 57, 48, 57, 49, 57, 50, 57, 51, 57, 52, 57, 53, 57, 54, 57, 55, 57, 56, 57, 57]⟩ : ByteArray) (IntKind.wrap .u32 ((IntKind.wrap .u32 ((IntKind.wrap .u32 (Int.tdiv (IntKind.wrap .u32 (Int.tdiv (IntKind.wrap .u32 ((Int.tmod x29 (100000000 : Int)))) (10000 : Int))) (100 : Int))) * (2 : Int))) + (1 : Int))))) (a0 + (Int.toNat (IntKind.wrap .i64 (x30 - (8 : Int))))) (bt (⟨#[48, 48, 48, 49, 48, 50, 48, 51, 48, 52, 48, 53, 48, 54, 48, 55, 48, 56, 48, 57, 49, 48, 49, 49, 49, 50, 49, 51, 49, 52, 49, 53, 49, 54, 49, 55, 49, 56, 49, 57, 50, 48, 50, 49, 50, 50, 50, 51, 50, 52, 50, 53, 50, 54, 50, 55, 50, 56, 50, 57, 51, 48, 51, 49, 51, 50, 51, 51, 51, 52, 51, 53, 51, 54, 51, 55, 51, 56, 51, 57, 52, 48, 52, 49, 52, 50, 52, 51, 52, 52, 52, 53, 52, 54, 52, 55, 52, 56, 52, 57, 53, 48, 53, 49, 53, 50, 53, 51, 53, 52, 53, 53, 53, 54, 53, 55, 53, 56, 53, 57, 54, 48, 54, 49, 54, 50, 54, 51, 54, 52, 54, 53, 54, 54, 54, 55, 54, 56, 54, 57, 55, 48, 55, 49, 55, 50, 55, 51, 55, 52, 55, 53, 55, 54, 55, 55, 55, 56, 55, 57, 56, 48, 56, 49, 56, 50, 56, 51, 56, 52, 56, 53, 56, 54, 56, 55, 56, 56, 56, 57, 57, 48, 57, 49, 57, 50, 57, 51, 57, 52, 57, 53, 57, 54, 57, 55, 57, 56, 57, 57]⟩ : ByteArray) (IntKind.wrap .u32 ((IntKind.wrap .u32 (Int.tdiv (IntKind.wrap .u32 (Int.tdiv (IntKind.wrap .u32 ((Int.tmod x29 (100000000 : Int)))) (10000 : Int))) (100 : Int))) * (2 : Int))))) (IntKind.wrap .u64 (Int.tdiv x29 (100000000 : Int))) (IntKind.wrap .i64 (x30 - (8 : Int)))) (internal_strconv_formatBase10.l0_Q a0 a1 r)))) ∧ ((decide (x30 ≥ (8 : Int))) = false → (((True) ∧ (True) ∧ True) ∧ internal_strconv_formatBase10.l0_Q a0 a1 r (.exit 0) ⟨[.v (.one (.os 0 0 a0 1 a1 none)), .v (.one (.sc (.int .u64 x29))), .any, .any, .v (.one (.sc (.int .i64 x30))), .any, .any, .any, .any, .any, .any, .any, .any, .any, .any, .any, .any, .any, .any, .any, .any, .any, .any, .any, .any, .any, .any, .any, .any, .any, .any, .any, .any, .any, .any, .any, .any, .any, .any, .any, .any, .any, .any, .any, .any, .any, .any, .any, .any, .any, .any, .any, .any, .any, .any, .any, .any, .any, .any, .any, .any, .any, .any, .any, .any, .any, .any, .any, .any, .any, .any, .any, .any, .any, .any, .any, .any, .any, .any, .any, .any, .any, .any, .any, .any, .any, .any, .any, .any, .any, .any, .any, .any, .any, .any, .any, .any, .any, .any, .any, .any, .any, .any, .any, .any, .any, .any, .any, .any, .any, .any, .any, .any, .any, .any, .any, .any, .any, .any, .any, .any, .any, .any, .any, .any, .any, .any, .any, .any, .any, .any, .any, .any, .any, .any, .any, .any, .any, .any, .any, .any, .any, .any, .any, .any, .any, .any, .any, .any, .any, .any, .any, .any, .any, .any, .any, .any, .any, .any, .any, .any, .any, .any, .any, .any, .any, .any], [.ex false [.row 24 (.int .u8) x28] 78], 1⟩)))) (by kernel_rfl) ?_)
    refine ⟨trivial, ?_⟩
    refine ⟨fun b60 => ?_, fun b60 => ?_⟩
    · rw [if_pos (of_decide_eq_true b60)] at h
      refine ⟨(by decide), ?_⟩
      refine ⟨trivial, ?_⟩
      refine ⟨(by decide), ?_⟩
      refine ⟨(by decide), ?_⟩
      refine ⟨(by decide), ?_⟩
      refine ⟨(by decide), ?_⟩
      refine ⟨trivial, ?_⟩
      refine ⟨(by decide), ?_⟩
      refine ⟨trivial, ?_⟩
      refine ⟨(by decide), ?_⟩
      refine ⟨trivial, ?_⟩
      refine ⟨(by decide), ?_⟩
      refine ⟨trivial, ?_⟩
      obtain ⟨g61, h⟩ := of_guard h
      obtain ⟨g62, h⟩ := of_guard h
      obtain ⟨g63, h⟩ := of_guard h
      obtain ⟨g64, h⟩ := of_guard h
      obtain ⟨g65, h⟩ := of_guard h
      obtain ⟨g66, h⟩ := of_guard h
      refine ⟨trivial, trivial, trivial, g61, g62, g63, g64, g65, g66, ?_⟩
      obtain ⟨g67, h⟩ := of_guard h
      obtain ⟨g68, h⟩ := of_guard h
      obtain ⟨g69, h⟩ := of_guard h
      obtain ⟨g70, h⟩ := of_guard h
      obtain ⟨g71, h⟩ := of_guard h
      obtain ⟨g72, h⟩ := of_guard h
      refine ⟨trivial, trivial, trivial, g67, g68, g69, g70, g71, g72, ?_⟩
      obtain ⟨g73, h⟩ := of_guard h
      obtain ⟨g74, h⟩ := of_guard h
      obtain ⟨g75, h⟩ := of_guard h
      obtain ⟨g76, h⟩ := of_guard h
      obtain ⟨g77, h⟩ := of_guard h
      obtain ⟨g78, h⟩ := of_guard h
      refine ⟨trivial, trivial, trivial, g73, g74, g75, g76, g77, g78, ?_⟩
      obtain ⟨g79, h⟩ := of_guard h
      obtain ⟨g80, h⟩ := of_guard h
      obtain ⟨g81, h⟩ := of_guard h
      obtain ⟨g82, h⟩ := of_guard h
      obtain ⟨g83, h⟩ := of_guard h
      obtain ⟨g84, h⟩ := of_guard h
      refine ⟨trivial, trivial, trivial, g79, g80, g81, g82, g83, g84, ?_⟩
      refine ⟨trivial, ?_⟩
      refine ⟨trivial, ?_⟩
      exact ⟨⟨trivial, trivial, trivial⟩, ih (List.set (List.set (List.set (List.set (List.set (List.set (List.set (List.set x28 (a0 + (Int.toNat (IntKind.wrap .i64 (x30 - (1 : Int))))) (bt (⟨#[48, 48, 48, 49, 48, 50, 48, 51, 48, 52, 48, 53, 48, 54, 48, 55, 48, 56, 48, 57, 49, 48, 49, 49, 49, 50, 49, 51, 49, 52, 49, 53, 49, 54, 49, 55, 49, 56, 49, 57, 50, 48, 50, 49, 50, 50, 50, 51, 50, 52, 50, 53, 50, 54, 50, 55, 50, 56, 50, 57, 51, 48, 51, 49, 51, 50, 51, 51, 51, 52, 51, 53, 51, 54, 51, 55, 51, 56, 51, 57, 52, 48, 52, 49, 52, 50, 52, 51, 52, 52, 52, 53, 52, 54, 52, 55, 52, 56, 52, 57, 53, 48, 53, 49, 53, 50, 53, 51, 53, 52, 53, 53, 53, 54, 53, 55, 53, 56, 53, 57, 54, 48, 54, 49, 54, 50, 54, 51, 54, 52, 54, 53, 54, 54, 54, 55, 54, 56, 54, 57, 55, 48, 55, 49, 55, 50, 55, 51, 55, 52, 55, 53, 55, 54, 55, 55, 55, 56, 55, 57, 56, 48, 56, 49, 56, 50, 56, 51, 56, 52, 56, 53, 56, 54, 56, 55, 56, 56, 56, 57, 57, 48, 57, 49, 57, 50, 57, 51, 57, 52, 57, 53, 57, 54, 57, 55, 57, 56, 57, 57]⟩ : ByteArray) (IntKind.wrap .u32 ((IntKind.wrap .u32 ((Int.tmod (Int.tmod (IntKind.wrap .u32 ((Int.tmod x29 (100000000 : Int)))) (10000 : Int)) (100 : Int)) * (2 : Int))) + (1 : Int))))) (a0 + (Int.toNat (IntKind.wrap .i64 (x30 - (2 : Int))))) (bt (⟨#[48, 48, 48, 49, 48, 50, 48, 51, 48, 52, 48, 53, 48, 54, 48, 55, 48, 56, 48, 57, 49, 48, 49, 49, 49, 50, 49, 51, 49, 52, 49, 53, 49, 54, 49, 55, 49, 56, 49, 57, 50, 48, 50, 49, 50, 50, 50, 51, 50, 52, 50, 53, 50, 54, 50, 55, 50, 56, 50, 57, 51, 48, 51, 49, 51, 50, 51, 51, 51, 52, 51, 53, 51, 54, 51, 55, 51, 56, 51, 57, 52, 48, 52, 49, 52, 50, 52, 51, 52, 52, 52, 53, 52, 54, 52, 55, 52, 56, 52, 57, 53, 48, 53, 49, 53, 50, 53, 51, 53, 52, 53, 53, 53, 54, 53, 55, 53, 56, 53, 57, 54, 48, 54, 49, 54, 50, 54, 51, 54, 52, 54, 53, 54, 54, 54, 55, 54, 56, 54, 57, 55, 48, 55, 49, 55, 50, 55, 51, 55, 52, 55, 53, 55, 54, 55, 55, 55, 56, 55, 57, 56, 48, 56, 49, 56, 50, 56, 51, 56, 52, 56, 53, 56, 54, 56, 55, 56, 56, 56, 57, 57, 48, 57, 49, 57, 50, 57, 51, 57, 52, 57, 53, 57, 54, 57, 55, 57, 56, 57, 57]⟩ : ByteArray) (IntKind.wrap .u32 ((Int.tmod (Int.tmod (IntKind.wrap .u32 ((Int.tmod x29 (100000000 : Int)))) (10000 : Int)) (100 : Int)) * (2 : Int))))) (a0 + (Int.toNat (IntKind.wrap .i64 (x30 - (3 : Int))))) (bt (⟨#[48, 48, 48, 49, 48, 50, 48, 51, 48, 52, 48, 53, 48, 54, 48, 55, 48, 56, 48, 57, 49, 48, 49, 49, 49, 50, 49, 51, 49, 52, 49, 53, 49, 54, 49, 55, 49, 56, 49, 57, 50, 48, 50, 49, 50, 50, 50, 51, 50, 52, 50, 53, 50, 54, 50, 55, 50, 56, 50, 57, 51, 48, 51, 49, 51, 50, 51, 51, 51, 52, 51, 53, 51, 54, 51, 55, 51, 56, 51, 57, 52, 48, 52, 49, 52, 50, 52, 51, 52, 52, 52, 53, 52, 54, 52, 55, 52, 56, 52, 57, 53, 48, 53, 49, 53, 50, 53, 51, 53, 52, 53, 53, 53, 54, 53, 55, 53, 56, 53, 57, 54, 48, 54, 49, 54, 50, 54, 51, 54, 52, 54, 53, 54, 54, 54, 55, 54, 56, 54, 57, 55, 48, 55, 49, 55, 50, 55, 51, 55, 52, 55, 53, 55, 54, 55, 55, 55, 56, 55, 57, 56, 48, 56, 49, 56, 50, 56, 51, 56, 52, 56, 53, 56, 54, 56, 55, 56, 56, 56, 57, 57, 48, 57, 49, 57, 50, 57, 51, 57, 52, 57, 53, 57, 54, 57, 55, 57, 56, 57, 57]⟩ : ByteArray) (IntKind.wrap .u32 ((IntKind.wrap .u32 ((IntKind.wrap .u32 (Int.tdiv (Int.tmod (IntKind.wrap .u32 ((Int.tmod x29 (100000000 : Int)))) (10000 : Int)) (100 : Int))) * (2 : Int))) + (1 : Int))))) (a0 + (Int.toNat (IntKind.wrap .i64 (x30 - (4 : Int))))) (bt (⟨#[48, 48, 48, 49, 48, 50, 48, 51, 48, 52, 48, 53, 48, 54, 48, 55, 48, 56, 48, 57, 49, 48, 49, 49, 49, 50, 49, 51, 49, 52, 49, 53, 49, 54, 49, 55, 49, 56, 49, 57, 50, 48, 50, 49, 50, 50, 50, 51, 50, 52, 50, 53, 50, 54, 50, 55, 50, 56, 50, 57, 51, 48, 51, 49, 51, 50, 51, 51, 51, 52, 51, 53, 51, 54, 51, 55, 51, 56, 51, 57, 52, 48, 52, 49, 52, 50, 52, 51, 52, 52, 52, 53, 52, 54, 52, 55, 52, 56, 52, 57, 53, 48, 53, 49, 53, 50, 53, 51, 53, 52, 53, 53, 53, 54, 53, 55, 53, 56, 53, 57, 54, 48, 54, 49, 54, 50, 54, 51, 54, 52, 54, 53, 54, 54, 54, 55, 54, 56, 54, 57, 55, 48, 55, 49, 55, 50, 55, 51, 55, 52, 55, 53, 55, 54, 55, 55, 55, 56, 55, 57, 56, 48, 56, 49, 56, 50, 56, 51, 56, 52, 56, 53, 56, 54, 56, 55, 56, 56, 56, 57, 57, 48, 57, 49, 57, 50, 57, 51, 57, 52, 57, 53, 57, 54, 57, 55, 57, 56, 57, 57]⟩ : ByteArray) (IntKind.wrap .u32 ((IntKind.wrap .u32 (Int.tdiv (Int.tmod (IntKind.wrap .u32 ((Int.tmod x29 (100000000 : Int)))) (10000 : Int)) (100 : Int))) * (2 : Int))))) (a0 + (Int.toNat (IntKind.wrap .i64 (x30 - (5 : Int))))) (bt (⟨#[48, 48, 48, 49, 48, 50, 48, 51, 48, 52, 48, 53, 48, 54, 48, 55, 48, 56, 48, 57, 49, 48, 49, 49, 49, 50, 49, 51, 49, 52, 49, 53, 49, 54, 49, 55, 49, 56, 49, 57, 50, 48, 50, 49, 50, 50, 50, 51, 50, 52, 50, 53, 50, 54, 50, 55, 50, 56, 50, 57, 51, 48, 51, 49, 51, 50, 51, 51, 51, 52, 51, 53, 51, 54, 51, 55, 51, 56, 51, 57, 52, 48, 52, 49, 52, 50, 52, 51, 52, 52, 52, 53, 52, 54, 52, 55, 52, 56, 52, 57, 53, 48, 53, 49, 53, 50, 53, 51, 53, 52, 53, 53, 53, 54, 53, 55, 53, 56, 53, 57, 54, 48, 54, 49, 54, 50, 54, 51, 54, 52, 54, 53, 54, 54, 54, 55, 54, 56, 54, 57, 55, 48, 55, 49, 55, 50, 55, 51, 55, 52, 55, 53, 55, 54, 55, 55, 55, 56, 55, 57, 56, 48, 56, 49, 56, 50, 56, 51, 56, 52, 56, 53, 56, 54, 56, 55, 56, 56, 56, 57, 57, 48, 57, 49, 57, 50, 57, 51, 57, 52, 57, 53, 57, 54, 57, 55, 57, 56, 57, 57]⟩ : ByteArray) (IntKind.wrap .u32 ((IntKind.wrap .u32 ((Int.tmod (IntKind.wrap .u32 (Int.tdiv (IntKind.wrap .u32 ((Int.tmod x29 (100000000 : Int)))) (10000 : Int))) (100 : Int)) * (2 : Int))) + (1 : Int))))) (a0 + (Int.toNat (IntKind.wrap .i64 (x30 - (6 : Int))))) (bt (⟨#[48, 48, 48, 49, 48, 50, 48, 51, 48, 52, 48, 53, 48, 54, 48, 55, 48, 56, 48, 57, 49, 48, 49, 49, 49, 50, 49, 51, 49, 52, 49, 53, 49, 54, 49, 55, 49, 56, 49, 57, 50, 48, 50, 49, 50, 50, 50, 51, 50, 52, 50, 53, 50, 54, 50, 55, 50, 56, 50, 57, 51, 48, 51, 49, 51, 50, 51, 51, 51, 52, 51, 53, 51, 54, 51, 55, 51, 56, 51, 57, 52, 48, 52, 49, 52, 50, 52, 51, 52, 52, 52, 53, 52, 54, 52, 55, 52, 56, 52, 57, 53, 48, 53, 49, 53, 50, 53, 51, 53, 52, 53, 53, 53, 54, 53, 55, 53, 56, 53, 57, 54, 48, 54, 49, 54, 50, 54, 51, 54, 52, 54, 53, 54, 54, 54, 55, 54, 56, 54, 57, 55, 48, 55, 49, 55, 50, 55, 51, 55, 52, 55, 53, 55, 54, 55, 55, 55, 56, 55, 57, 56, 48, 56, 49, 56, 50, 56, 51, 56, 52, 56, 53, 56, 54, 56, 55, 56, 56, 56, 57, 57, 48, 57, 49, 57, 50, 57, 51, 57, 52, 57, 53, 57, 54, 57, 55, 57, 56, 57, 57]⟩ : ByteArray) (IntKind.wrap .u32 ((Int.tmod (IntKind.wrap .u32 (Int.tdiv (IntKind.wrap .u32 ((Int.tmod x29 (100000000 : Int)))) (10000 : Int))) (100 : Int)) * (2 : Int))))) (a0 + (Int.toNat (IntKind.wrap .i64 (x30 - (7 : Int))))) (bt (⟨#[48, 48, 48, 49, 48, 50, 48, 51, 48, 52, 48, 53, 48, 54, 48, 55, 48, 56, 48, 57, 49, 48, 49, 49, 49, 50, 49, 51, 49, 52, 49, 53, 49, 54, 49, 55, 49, 56, 49, 57, 50, 48, 50, 49, 50, 50, 50, 51, 50, 52, 50, 53, 50, 54, 50, 55, 50, 56, 50, 57, 51, 48, 51, 49, 51, 50, 51, 51, 51, 52, 51, 53, 51, 54, 51, 55, 51, 56, 51, 57, 52, 48, 52, 49, 52, 50, 52, 51, 52, 52, 52, 53, 52, 54, 52, 55, 52, 56, 52, 57, 53, 48, 53, 49, 53, 50, 53, 51, 53, 52, 53, 53, 53, 54, 53, 55, 53, 56, 53, 57, 54, 48, 54, 49, 54, 50, 54, 51, 54, 52, 54, 53, 54, 54, 54, 55, 54, 56, 54, 57, 55, 48, 55, 49, 55, 50, 55, 51, 55, 52, 55, 53, 55, 54, 55, 55, 55, 56, 55, 57, 56, 48, 56, 49, 56, 50, 56, 51, 56, 52, 56, 53, 56, 54, 56, 55, 56, 56, 56, 57, 57, 48, 57, 49, 57, 50, 57, 51, 57, 52, 57, 53, 57, 54, 57, 55, 57, 56, 57, 57]⟩ : ByteArray) (IntKind.wrap .u32 ((IntKind.wrap .u32 ((IntKind.wrap .u32 (Int.tdiv (IntKind.wrap .u32 (Int.tdiv (IntKind.wrap .u32 ((Int.tmod x29 (100000000 : Int)))) (10000 : Int))) (100 : Int))) * (2 : Int))) + (1 : Int))))) (a0 + (Int.toNat (IntKind.wrap .i64 (x30 - (8 : Int))))) (bt (⟨#[48, 48, 48, 49, 48, 50, 48, 51, 48, 52, 48, 53, 48, 54, 48, 55, 48, 56, 48, 57, 49, 48, 49, 49, 49, 50, 49, 51, 49, 52, 49, 53, 49, 54, 49, 55, 49, 56, 49, 57, 50, 48, 50, 49, 50, 50, 50, 51, 50, 52, 50, 53, 50, 54, 50, 55, 50, 56, 50, 57, 51, 48, 51, 49, 51, 50, 51, 51, 51, 52, 51, 53, 51, 54, 51, 55, 51, 56, 51, 57, 52, 48, 52, 49, 52, 50, 52, 51, 52, 52, 52, 53, 52, 54, 52, 55, 52, 56, 52, 57, 53, 48, 53, 49, 53, 50, 53, 51, 53, 52, 53, 53, 53, 54, 53, 55, 53, 56, 53, 57, 54, 48, 54, 49, 54, 50, 54, 51, 54, 52, 54, 53, 54, 54, 54, 55, 54, 56, 54, 57, 55, 48, 55, 49, 55, 50, 55, 51, 55, 52, 55, 53, 55, 54, 55, 55, 55, 56, 55, 57, 56, 48, 56, 49, 56, 50, 56, 51, 56, 52, 56, 53, 56, 54, 56, 55, 56, 56, 56, 57, 57, 48, 57, 49, 57, 50, 57, 51, 57, 52, 57, 53, 57, 54, 57, 55, 57, 56, 57, 57]⟩ : ByteArray) (IntKind.wrap .u32 ((IntKind.wrap .u32 (Int.tdiv (IntKind.wrap .u32 (Int.tdiv (IntKind.wrap .u32 ((Int.tmod x29 (100000000 : Int)))) (10000 : Int))) (100 : Int))) * (2 : Int))))) (IntKind.wrap .u64 (Int.tdiv x29 (100000000 : Int))) (IntKind.wrap .i64 (x30 - (8 : Int))) r h⟩
    · rw [if_neg (of_decide_eq_false b60)] at h
      obtain rfl := Option.some.inj h
      exact ⟨⟨trivial, trivial, trivial⟩, rfl, rfl⟩
def internal_strconv_formatBase10.f (a0 : Nat) (a1 : Nat) (a2 : Int) (a3 : (List Int)) : Option (List Int) :=
  (internal_strconv_formatBase10.l0 a0 a1 FUEL a3 a2 ((a1 : Nat) : Int)).bind fun t59 =>
  if t59.2.2 ≥ (4 : Int) then
    if 0 ≤ (IntKind.wrap .u32 ((IntKind.wrap .u32 ((Int.tmod (Int.tmod (IntKind.wrap .u32 (t59.2.1)) (10000 : Int)) (100 : Int)) * (2 : Int))) + (1 : Int))) ∧ (IntKind.wrap .u32 ((IntKind.wrap .u32 ((Int.tmod (Int.tmod (IntKind.wrap .u32 (t59.2.1)) (10000 : Int)) (100 : Int)) * (2 : Int))) + (1 : Int))) < (((ByteArray.size (⟨#[48, 48, 48, 49, 48, 50, 48, 51, 48, 52, 48, 53, 48, 54, 48, 55, 48, 56, 48, 57, 49, 48, 49, 49, 49, 50, 49, 51, 49, 52, 49, 53, 49, 54, 49, 55, 49, 56, 49, 57, 50, 48, 50, 49, 50, 50, 50, 51, 50, 52, 50, 53, 50, 54, 50, 55, 50, 56, 50, 57, 51, 48, 51, 49, 51, 50, 51, 51, 51, 52, 51, 53, 51, 54, 51, 55, 51, 56, 51, 57, 52, 48, 52, 49, 52, 50, 52, 51, 52, 52, 52, 53, 52, 54, 52, 55, 52, 56, 52, 57, 53, 48, 53, 49, 53, 50, 53, 51, 53, 52, 53, 53, 53, 54, 53, 55, 53, 56, 53, 57, 54, 48, 54, 49, 54, 50, 54, 51, 54, 52, 54, 53, 54, 54, 54, 55, 54, 56, 54, 57, 55, 48, 55, 49, 55, 50, 55, 51, 55, 52, 55, 53, 55, 54, 55, 55, 55, 56, 55, 57, 56, 48, 56, 49, 56, 50, 56, 51, 56, 52, 56, 53, 56, 54, 56, 55, 56, 56, 56, 57, 57, 48, 57, 49, 57, 50, 57, 51, 57, 52, 57, 53, 57, 54, 57, 55, 57, 56, 57, 57]⟩ : ByteArray)) : Nat) : Int) then
      if 0 ≤ (IntKind.wrap .u32 ((Int.tmod (Int.tmod (IntKind.wrap .u32 (t59.2.1)) (10000 : Int)) (100 : Int)) * (2 : Int))) ∧ (IntKind.wrap .u32 ((Int.tmod (Int.tmod (IntKind.wrap .u32 (t59.2.1)) (10000 : Int)) (100 : Int)) * (2 : Int))) < (((ByteArray.size (⟨#[48, 48, 48, 49, 48, 50, 48, 51, 48, 52, 48, 53, 48, 54, 48, 55, 48, 56, 48, 57, 49, 48, 49, 49, 49, 50, 49, 51, 49, 52, 49, 53, 49, 54, 49, 55, 49, 56, 49, 57, 50, 48, 50, 49, 50, 50, 50, 51, 50, 52, 50, 53, 50, 54, 50, 55, 50, 56, 50, 57, 51, 48, 51, 49, 51, 50, 51, 51, 51, 52, 51, 53, 51, 54, 51, 55, 51, 56, 51, 57, 52, 48, 52, 49, 52, 50, 52, 51, 52, 52, 52, 53, 52, 54, 52, 55, 52, 56, 52, 57, 53, 48, 53, 49, 53, 50, 53, 51, 53, 52, 53, 53, 53, 54, 53, 55, 53, 56, 53, 57, 54, 48, 54, 49, 54, 50, 54, 51, 54, 52, 54, 53, 54, 54, 54, 55, 54, 56, 54, 57, 55, 48, 55, 49, 55, 50, 55, 51, 55, 52, 55, 53, 55, 54, 55, 55, 55, 56, 55, 57, 56, 48, 56, 49, 56, 50, 56, 51, 56, 52, 56, 53, 56, 54, 56, 55, 56, 56, 56, 57, 57, 48, 57, 49, 57, 50, 57, 51, 57, 52, 57, 53, 57, 54, 57, 55, 57, 56, 57, 57]⟩ : ByteArray)) : Nat) : Int) then
        if 0 ≤ (IntKind.wrap .i64 (t59.2.2 - (1 : Int))) ∧ (IntKind.wrap .i64 (t59.2.2 - (1 : Int))) < ((a1 : Nat) : Int) then
          if (a0 + (Int.toNat (IntKind.wrap .i64 (t59.2.2 - (1 : Int))))) < 24 then
            if 0 ≤ (IntKind.wrap .i64 (t59.2.2 - (2 : Int))) ∧ (IntKind.wrap .i64 (t59.2.2 - (2 : Int))) < ((a1 : Nat) : Int) then
              if (a0 + (Int.toNat (IntKind.wrap .i64 (t59.2.2 - (2 : Int))))) < 24 then
                if 0 ≤ (IntKind.wrap .u32 ((IntKind.wrap .u32 ((IntKind.wrap .u32 (Int.tdiv (Int.tmod (IntKind.wrap .u32 (t59.2.1)) (10000 : Int)) (100 : Int))) * (2 : Int))) + (1 : Int))) ∧ (IntKind.wrap .u32 ((IntKind.wrap .u32 ((IntKind.wrap .u32 (Int.tdiv (Int.tmod (IntKind.wrap .u32 (t59.2.1)) (10000 : Int)) (100 : Int))) * (2 : Int))) + (1 : Int))) < (((ByteArray.size (⟨#[48, 48, 48, 49, 48, 50, 48, 51, 48, 52, 48, 53, 48, 54, 48, 55, 48, 56, 48, 57, 49, 48, 49, 49, 49, 50, 49, 51, 49, 52, 49, 53, 49, 54, 49, 55, 49, 56, 49, 57, 50, 48, 50, 49, 50, 50, 50, 51, 50, 52, 50, 53, 50, 54, 50, 55, 50, 56, 50, 57, 51, 48, 51, 49, 51, 50, 51, 51, 51, 52, 51, 53, 51, 54, 51, 55, 51, 56, 51, 57, 52, 48, 52, 49, 52, 50, 52, 51, 52, 52, 52, 53, 52, 54, 52, 55, 52, 56, 52, 57, 53, 48, 53, 49, 53, 50, 53, 51, 53, 52, 53, 53, 53, 54, 53, 55, 53, 56, 53, 57, 54, 48, 54, 49, 54, 50, 54, 51, 54, 52, 54, 53, 54, 54, 54, 55, 54, 56, 54, 57, 55, 48, 55, 49, 55, 50, 55, 51, 55, 52, 55, 53, 55, 54, 55, 55, 55, 56, 55, 57, 56, 48, 56, 49, 56, 50, 56, 51, 56, 52, 56, 53, 56, 54, 56, 55, 56, 56, 56, 57, 57, 48, 57, 49, 57, 50, 57, 51, 57, 52, 57, 53, 57, 54, 57, 55, 57, 56, 57, 57]⟩ : ByteArray)) : Nat) : Int) then
                  if 0 ≤ (IntKind.wrap .u32 ((IntKind.wrap .u32 (Int.tdiv (Int.tmod (IntKind.wrap .u32 (t59.2.1)) (10000 : Int)) (100 : Int))) * (2 : Int))) ∧ (IntKind.wrap .u32 ((IntKind.wrap .u32 (Int.tdiv (Int.tmod (IntKind.wrap .u32 (t59.2.1)) (10000 : Int)) (100 : Int))) * (2 : Int))) < (((ByteArray.size (⟨#[48, 48, 48, 49, 48, 50, 48, 51, 48, 52, 48, 53, 48, 54, 48, 55, 48, 56, 48, 57, 49, 48, 49, 49, 49, 50, 49, 51, 49, 52, 49, 53, 49, 54, 49, 55, 49, 56, 49, 57, 50, 48, 50, 49, 50, 50, 50, 51, 50, 52, 50, 53, 50, 54, 50, 55, 50, 56, 50, 57, 51, 48, 51, 49, 51, 50, 51, 51, 51, 52, 51, 53, 51, 54, 51, 55, 51, 56, 51, 57, 52, 48, 52, 49, 52, 50, 52, 51, 52, 52, 52, 53, 52, 54, 52, 55, 52, 56, 52, 57, 53, 48, 53, 49, 53, 50, 53, 51, 53, 52, 53, 53, 53, 54, 53, 55, 53, 56, 53, 57, 54, 48, 54, 49, 54, 50, 54, 51, 54, 52, 54, 53, 54, 54, 54, 55, 54, 56, 54, 57, 55, 48, 55, 49, 55, 50, 55, 51, 55, 52, 55, 53, 55, 54, 55, 55, 55, 56, 55, 57, 56, 48, 56, 49, 56, 50, 56, 51, 56, 52, 56, 53, 56, 54, 56, 55, 56, 56, 56, 57, 57, 48, 57, 49, 57, 50, 57, 51, 57, 52, 57, 53, 57, 54, 57, 55, 57, 56, 57, 57]⟩ : ByteArray)) : Nat) : Int) then
                    if 0 ≤ (IntKind.wrap .i64 (t59.2.2 - (3 : Int))) ∧ (IntKind.wrap .i64 (t59.2.2 - (3 : Int))) < ((a1 : Nat) : Int) then
                      if (a0 + (Int.toNat (IntKind.wrap .i64 (t59.2.2 - (3 : Int))))) < 24 then
                        if 0 ≤ (IntKind.wrap .i64 (t59.2.2 - (4 : Int))) ∧ (IntKind.wrap .i64 (t59.2.2 - (4 : Int))) < ((a1 : Nat) : Int) then
                          if (a0 + (Int.toNat (IntKind.wrap .i64 (t59.2.2 - (4 : Int))))) < 24 then
                            if (IntKind.wrap .i64 (t59.2.2 - (4 : Int))) ≥ (2 : Int) then
                              if 0 ≤ (IntKind.wrap .u32 ((IntKind.wrap .u32 ((Int.tmod (IntKind.wrap .u32 (Int.tdiv (IntKind.wrap .u32 (t59.2.1)) (10000 : Int))) (100 : Int)) * (2 : Int))) + (1 : Int))) ∧ (IntKind.wrap .u32 ((IntKind.wrap .u32 ((Int.tmod (IntKind.wrap .u32 (Int.tdiv (IntKind.wrap .u32 (t59.2.1)) (10000 : Int))) (100 : Int)) * (2 : Int))) + (1 : Int))) < (((ByteArray.size (⟨#[48, 48, 48, 49, 48, 50, 48, 51, 48, 52, 48, 53, 48, 54, 48, 55, 48, 56, 48, 57, 49, 48, 49, 49, 49, 50, 49, 51, 49, 52, 49, 53, 49, 54, 49, 55, 49, 56, 49, 57, 50, 48, 50, 49, 50, 50, 50, 51, 50, 52, 50, 53, 50, 54, 50, 55, 50, 56, 50, 57, 51, 48, 51, 49, 51, 50, 51, 51, 51, 52, 51, 53, 51, 54, 51, 55, 51, 56, 51, 57, 52, 48, 52, 49, 52, 50, 52, 51, 52, 52, 52, 53, 52, 54, 52, 55, 52, 56, 52, 57, 53, 48, 53, 49, 53, 50, 53, 51, 53, 52, 53, 53, 53, 54, 53, 55, 53, 56, 53, 57, 54, 48, 54, 49, 54, 50, 54, 51, 54, 52, 54, 53, 54, 54, 54, 55, 54, 56, 54, 57, 55, 48, 55, 49, 55, 50, 55, 51, 55, 52, 55, 53, 55, 54, 55, 55, 55, 56, 55, 57, 56, 48, 56, 49, 56, 50, 56, 51, 56, 52, 56, 53, 56, 54, 56, 55, 56, 56, 56, 57, 57, 48, 57, 49, 57, 50, 57, 51, 57, 52, 57, 53, 57, 54, 57, 55, 57, 56, 57, 57]⟩ : ByteArray)) : Nat) : Int) then
                                if 0 ≤ (IntKind.wrap .u32 ((Int.tmod (IntKind.wrap .u32 (Int.tdiv (IntKind.wrap .u32 (t59.2.1)) (10000 : Int))) (100 : Int)) * (2 : Int))) ∧ (IntKind.wrap .u32 ((Int.tmod (IntKind.wrap .u32 (Int.tdiv (IntKind.wrap .u32 (t59.2.1)) (10000 : Int))) (100 : Int)) * (2 : Int))) < (((ByteArray.size (⟨#[48, 48, 48, 49, 48, 50, 48, 51, 48, 52, 48, 53, 48, 54, 48, 55, 48, 56, 48, 57, 49, 48, 49, 49, 49, 50, 49, 51, 49, 52, 49, 53, 49, 54, 49, 55, 49, 56, 49, 57, 50, 48, 50, 49, 50, 50, 50, 51, 50, 52, 50, 53, 50, 54, 50, 55, 50, 56, 50, 57, 51, 48, 51, 49, 51, 50, 51, 51, 51, 52, 51, 53, 51, 54, 51, 55, 51, 56, 51, 57, 52, 48, 52, 49, 52, 50, 52, 51, 52, 52, 52, 53, 52, 54, 52, 55, 52, 56, 52, 57, 53, 48, 53, 49, 53, 50, 53, 51, 53, 52, 53, 53, 53, 54, 53, 55, 53, 56, 53, 57, 54, 48, 54, 49, 54, 50, 54, 51, 54, 52, 54, 53, 54, 54, 54, 55, 54, 56, 54, 57, 55, 48, 55, 49, 55, 50, 55, 51, 55, 52, 55, 53, 55, 54, 55, 55, 55, 56, 55, 57, 56, 48, 56, 49, 56, 50, 56, 51, 56, 52, 56, 53, 56, 54, 56, 55, 56, 56, 56, 57, 57, 48, 57, 49, 57, 50, 57, 51, 57, 52, 57, 53, 57, 54, 57, 55, 57, 56, 57, 57]⟩ : ByteArray)) : Nat) : Int) then
                                  if 0 ≤ (IntKind.wrap .i64 ((IntKind.wrap .i64 (t59.2.2 - (4 : Int))) - (1 : Int))) ∧ (IntKind.wrap .i64 ((IntKind.wrap .i64 (t59.2.2 - (4 : Int))) - (1 : Int))) < ((a1 : Nat) : Int) then
                                    if (a0 + (Int.toNat (IntKind.wrap .i64 ((IntKind.wrap .i64 (t59.2.2 - (4 : Int))) - (1 : Int))))) < 24 then
                                      if 0 ≤ (IntKind.wrap .i64 ((IntKind.wrap .i64 (t59.2.2 - (4 : Int))) - (2 : Int))) ∧ (IntKind.wrap .i64 ((IntKind.wrap .i64 (t59.2.2 - (4 : Int))) - (2 : Int))) < ((a1 : Nat) : Int) then
                                        if (a0 + (Int.toNat (IntKind.wrap .i64 ((IntKind.wrap .i64 (t59.2.2 - (4 : Int))) - (2 : Int))))) < 24 then
                                          if (IntKind.wrap .i64 ((IntKind.wrap .i64 (t59.2.2 - (4 : Int))) - (2 : Int))) > (0 : Int) then
                                            if 0 ≤ (0 : Int) ∧ (0 : Int) < ((a1 : Nat) : Int) then
                                              if a0 < 24 then
                                                some (List.set (List.set (List.set (List.set (List.set (List.set (List.set t59.1 (a0 + (Int.toNat (IntKind.wrap .i64 (t59.2.2 - (1 : Int))))) (bt (⟨#[48, 48, 48, 49, 48, 50, 48, 51, 48, 52, 48, 53, 48, 54, 48, 55, 48, 56, 48, 57, 49, 48, 49, 49, 49, 50, 49, 51, 49, 52, 49, 53, 49, 54, 49, 55, 49, 56, 49, 57, 50, 48, 50, 49, 50, 50, 50, 51, 50, 52, 50, 53, 50, 54, 50, 55, 50, 56, 50, 57, 51, 48, 51, 49, 51, 50, 51, 51, 51, 52, 51, 53, 51, 54, 51, 55, 51, 56, 51, 57, 52, 48, 52, 49, 52, 50, 52, 51, 52, 52, 52, 53, 52, 54, 52, 55, 52, 56, 52, 57, 53, 48, 53, 49, 53, 50, 53, 51, 53, 52, 53, 53, 53, 54, 53, 55, 53, 56, 53, 57, 54, 48, 54, 49, 54, 50, 54, 51, 54, 52, 54, 53, 54, 54, 54, 55, 54, 56, 54, 57, 55, 48, 55, 49, 55, 50, 55, 51, 55, 52, 55, 53, 55, 54, 55, 55, 55, 56, 55, 57, 56, 48, 56, 49, 56, 50, 56, 51, 56, 52, 56, 53, 56, 54, 56, 55, 56, 56, 56, 57, 57, 48, 57, 49, 57, 50, 57, 51, 57, 52, 57, 53, 57, 54, 57, 55, 57, 56, 57, 57]⟩ : ByteArray) (IntKind.wrap .u32 ((IntKind.wrap .u32 ((Int.tmod (Int.tmod (IntKind.wrap .u32 (t59.2.1)) (10000 : Int)) (100 : Int)) * (2 : Int))) + (1 : Int))))) (a0 + (Int.toNat (IntKind.wrap .i64 (t59.2.2 - (2 : Int))))) (bt (⟨#[48, 48, 48, 49, 48, 50, 48, 51, 48, 52, 48, 53, 48, 54, 48, 55, 48, 56, 48, 57, 49, 48, 49, 49, 49, 50, 49, 51, 49, 52, 49, 53, 49, 54, 49, 55, 49, 56, 49, 57, 50, 48, 50, 49, 50, 50, 50, 51, 50, 52, 50, 53, 50, 54, 50, 55, 50, 56, 50, 57, 51, 48, 51, 49, 51, 50, 51, 51, 51, 52, 51, 53, 51, 54, 51, 55, 51, 56, 51, 57, 52, 48, 52, 49, 52, 50, 52, 51, 52, 52, 52, 53, 52, 54, 52, 55, 52, 56, 52, 57, 53, 48, 53, 49, 53, 50, 53, 51, 53, 52, 53, 53, 53, 54, 53, 55, 53, 56, 53, 57, 54, 48, 54, 49, 54, 50, 54, 51, 54, 52, 54, 53, 54, 54, 54, 55, 54, 56, 54, 57, 55, 48, 55, 49, 55, 50, 55, 51, 55, 52, 55, 53, 55, 54, 55, 55, 55, 56, 55, 57, 56, 48, 56, 49, 56, 50, 56, 51, 56, 52, 56, 53, 56, 54, 56, 55, 56, 56, 56, 57, 57, 48, 57, 49, 57, 50, 57, 51, 57, 52, 57, 53, 57, 54, 57, 55, 57, 56, 57, 57]⟩ : ByteArray) (IntKind.wrap .u32 ((Int.tmod (Int.tmod (IntKind.wrap .u32 (t59.2.1)) (10000 : Int)) (100 : Int)) * (2 : Int))))) (a0 + (Int.toNat (IntKind.wrap .i64 (t59.2.2 - (3 : Int))))) (bt (⟨#[48, 48, 48, 49, 48, 50, 48, 51, 48, 52, 48, 53, 48, 54, 48, 55, 48, 56, 48, 57, 49, 48, 49, 49, 49, 50, 49, 51, 49, 52, 49, 53, 49, 54, 49, 55, 49, 56, 49, 57, 50, 48, 50, 49, 50, 50, 50, 51, 50, 52, 50, 53, 50, 54, 50, 55, 50, 56, 50, 57, 51, 48, 51, 49, 51, 50, 51, 51, 51, 52, 51, 53, 51, 54, 51, 55, 51, 56, 51, 57, 52, 48, 52, 49, 52, 50, 52, 51, 52, 52, 52, 53, 52, 54, 52, 55, 52, 56, 52, 57, 53, 48, 53, 49, 53, 50, 53, 51, 53, 52, 53, 53, 53, 54, 53, 55, 53, 56, 53, 57, 54, 48, 54, 49, 54, 50, 54, 51, 54, 52, 54, 53, 54, 54, 54, 55, 54, 56, 54, 57, 55, 48, 55, 49, 55, 50, 55, 51, 55, 52, 55, 53, 55, 54, 55, 55, 55, 56, 55, 57, 56, 48, 56, 49, 56, 50, 56, 51, 56, 52, 56, 53, 56, 54, 56, 55, 56, 56, 56, 57, 57, 48, 57, 49, 57, 50, 57, 51, 57, 52, 57, 53, 57, 54, 57, 55, 57, 56, 57, 57]⟩ : ByteArray) (IntKind.wrap .u32 ((IntKind.wrap .u32 ((IntKind.wrap .u32 (Int.tdiv (Int.tmod (IntKind.wrap .u32 (t59.2.1)) (10000 : Int)) (100 : Int))) * (2 : Int))) + (1 : Int))))) (a0 + (Int.toNat (IntKind.wrap .i64 (t59.2.2 - (4 : Int))))) (bt (⟨#[48, 48, 48, 49, 48, 50, 48, 51, 48, 52, 48, 53, 48, 54, 48, 55, 48, 56, 48, 57, 49, 48, 49, 49, 49, 50, 49, 51, 49, 52, 49, 53, 49, 54, 49, 55, 49, 56, 49, 57, 50, 48, 50, 49, 50, 50, 50, 51, 50, 52, 50, 53, 50, 54, 50, 55, 50, 56, 50, 57, 51, 48, 51, 49, 51, 50, 51, 51, 51, 52, 51, 53, 51, 54, 51, 55, 51, 56, 51, 57, 52, 48, 52, 49, 52, 50, 52, 51, 52, 52, 52, 53, 52, 54, 52, 55, 52, 56, 52, 57, 53, 48, 53, 49, 53, 50, 53, 51, 53, 52, 53, 53, 53, 54, 53, 55, 53, 56, 53, 57, 54, 48, 54, 49, 54, 50, 54, 51, 54, 52, 54, 53, 54, 54, 54, 55, 54, 56, 54, 57, 55, 48, 55, 49, 55, 50, 55, 51, 55, 52, 55, 53, 55, 54, 55, 55, 55, 56, 55, 57, 56, 48, 56, 49, 56, 50, 56, 51, 56, 52, 56, 53, 56, 54, 56, 55, 56, 56, 56, 57, 57, 48, 57, 49, 57, 50, 57, 51, 57, 52, 57, 53, 57, 54, 57, 55, 57, 56, 57, 57]⟩ : ByteArray) (IntKind.wrap .u32 ((IntKind.wrap .u32 (Int.tdiv (Int.tmod (IntKind.wrap .u32 (t59.2.1)) (10000 : Int)) (100 : Int))) * (2 : Int))))) (a0 + (Int.toNat (IntKind.wrap .i64 ((IntKind.wrap .i64 (t59.2.2 - (4 : Int))) - (1 : Int))))) (bt (⟨#[48, 48, 48, 49, 48, 50, 48, 51, 48, 52, 48, 53, 48, 54, 48, 55, 48, 56, 48, 57, 49, 48, 49, 49, 49, 50, 49, 51, 49, 52, 49, 53, 49, 54, 49, 55, 49, 56, 49, 57, 50, 48, 50, 49, 50, 50, 50, 51, 50, 52, 50, 53, 50, 54, 50, 55, 50, 56, 50, 57, 51, 48, 51, 49, 51, 50, 51, 51, 51, 52, 51, 53, 51, 54, 51, 55, 51, 56, 51, 57, 52, 48, 52, 49, 52, 50, 52, 51, 52, 52, 52, 53, 52, 54, 52, 55, 52, 56, 52, 57, 53, 48, 53, 49, 53, 50, 53, 51, 53, 52, 53, 53, 53, 54, 53, 55, 53, 56, 53, 57, 54, 48, 54, 49, 54, 50, 54, 51, 54, 52, 54, 53, 54, 54, 54, 55, 54, 56, 54, 57, 55, 48, 55, 49, 55, 50, 55, 51, 55, 52, 55, 53, 55, 54, 55, 55, 55, 56, 55, 57, 56, 48, 56, 49, 56, 50, 56, 51, 56, 52, 56, 53, 56, 54, 56, 55, 56, 56, 56, 57, 57, 48, 57, 49, 57, 50, 57, 51, 57, 52, 57, 53, 57, 54, 57, 55, 57, 56, 57, 57]⟩ : ByteArray) (IntKind.wrap .u32 ((IntKind.wrap .u32 ((Int.tmod (IntKind.wrap .u32 (Int.tdiv (IntKind.wrap .u32 (t59.2.1)) (10000 : Int))) (100 : Int)) * (2 : Int))) + (1 : Int))))) (a0 + (Int.toNat (IntKind.wrap .i64 ((IntKind.wrap .i64 (t59.2.2 - (4 : Int))) - (2 : Int))))) (bt (⟨#[48, 48, 48, 49, 48, 50, 48, 51, 48, 52, 48, 53, 48, 54, 48, 55, 48, 56, 48, 57, 49, 48, 49, 49, 49, 50, 49, 51, 49, 52, 49, 53, 49, 54, 49, 55, 49, 56, 49, 57, 50, 48, 50, 49, 50, 50, 50, 51, 50, 52, 50, 53, 50, 54, 50, 55, 50, 56, 50, 57, 51, 48, 51, 49, 51, 50, 51, 51, 51, 52, 51, 53, 51, 54, 51, 55, 51, 56, 51, 57, 52, 48, 52, 49, 52, 50, 52, 51, 52, 52, 52, 53, 52, 54, 52, 55, 52, 56, 52, 57, 53, 48, 53, 49, 53, 50, 53, 51, 53, 52, 53, 53, 53, 54, 53, 55, 53, 56, 53, 57, 54, 48, 54, 49, 54, 50, 54, 51, 54, 52, 54, 53, 54, 54, 54, 55, 54, 56, 54, 57, 55, 48, 55, 49, 55, 50, 55, 51, 55, 52, 55, 53, 55, 54, 55, 55, 55, 56, 55, 57, 56, 48, 56, 49, 56, 50, 56, 51, 56, 52, 56, 53, 56, 54, 56, 55, 56, 56, 56, 57, 57, 48, 57, 49, 57, 50, 57, 51, 57, 52, 57, 53, 57, 54, 57, 55, 57, 56, 57, 57]⟩ : ByteArray) (IntKind.wrap .u32 ((Int.tmod (IntKind.wrap .u32 (Int.tdiv (IntKind.wrap .u32 (t59.2.1)) (10000 : Int))) (100 : Int)) * (2 : Int))))) a0 (IntKind.wrap .u8 ((IntKind.wrap .u32 ((48 : Int) + (IntKind.wrap .u32 (Int.tdiv (IntKind.wrap .u32 (Int.tdiv (IntKind.wrap .u32 (t59.2.1)) (10000 : Int))) (100 : Int))))))))
                                              else none
                                            else none
                                          else
                                            some (List.set (List.set (List.set (List.set (List.set (List.set t59.1 (a0 + (Int.toNat (IntKind.wrap .i64 (t59.2.2 - (1 : Int))))) (bt (⟨#[48, 48, 48, 49, 48, 50, 48, 51, 48, 52, 48, 53, 48, 54, 48, 55, 48, 56, 48, 57, 49, 48, 49, 49, 49, 50, 49, 51, 49, 52, 49, 53, 49, 54, 49, 55, 49, 56, 49, 57, 50, 48, 50, 49, 50, 50, 50, 51, 50, 52, 50, 53, 50, 54, 50, 55, 50, 56, 50, 57, 51, 48, 51, 49, 51, 50, 51, 51, 51, 52, 51, 53, 51, 54, 51, 55, 51, 56, 51, 57, 52, 48, 52, 49, 52, 50, 52, 51, 52, 52, 52, 53, 52, 54, 52, 55, 52, 56, 52, 57, 53, 48, 53, 49, 53, 50, 53, 51, 53, 52, 53, 53, 53, 54, 53, 55, 53, 56, 53, 57, 54, 48, 54, 49, 54, 50, 54, 51, 54, 52, 54, 53, 54, 54, 54, 55, 54, 56, 54, 57, 55, 48, 55, 49, 55, 50, 55, 51, 55, 52, 55, 53, 55, 54, 55, 55, 55, 56, 55, 57, 56, 48, 56, 49, 56, 50, 56, 51, 56, 52, 56, 53, 56, 54, 56, 55, 56, 56, 56, 57, 57, 48, 57, 49, 57, 50, 57, 51, 57, 52, 57, 53, 57, 54, 57, 55, 57, 56, 57, 57]⟩ : ByteArray) (IntKind.wrap .u32 ((IntKind.wrap .u32 ((Int.tmod (Int.tmod (IntKind.wrap .u32 (t59.2.1)) (10000 : Int)) (100 : Int)) * (2 : Int))) + (1 : Int))))) (a0 + (Int.toNat (IntKind.wrap .i64 (t59.2.2 - (2 : Int))))) (bt (⟨#[48, 48, 48, 49, 48, 50, 48, 51, 48, 52, 48, 53, 48, 54, 48, 55, 48, 56, 48, 57, 49, 48, 49, 49, 49, 50, 49, 51, 49, 52, 49, 53, 49, 54, 49, 55, 49, 56, 49, 57, 50, 48, 50, 49, 50, 50, 50, 51, 50, 52, 50, 53, 50, 54, 50, 55, 50, 56, 50, 57, 51, 48, 51, 49, 51, 50, 51, 51, 51, 52, 51, 53, 51, 54, 51, 55, 51, 56, 51, 57, 52, 48, 52, 49, 52, 50, 52, 51, 52, 52, 52, 53, 52, 54, 52, 55, 52, 56, 52, 57, 53, 48, 53, 49, 53, 50, 53, 51, 53, 52, 53, 53, 53, 54, 53, 55, 53, 56, 53, 57, 54, 48, 54, 49, 54, 50, 54, 51, 54, 52, 54, 53, 54, 54, 54, 55, 54, 56, 54, 57, 55, 48, 55, 49, 55, 50, 55, 51, 55, 52, 55, 53, 55, 54, 55, 55, 55, 56, 55, 57, 56, 48, 56, 49, 56, 50, 56, 51, 56, 52, 56, 53, 56, 54, 56, 55, 56, 56, 56, 57, 57, 48, 57, 49, 57, 50, 57, 51, 57, 52, 57, 53, 57, 54, 57, 55, 57, 56, 57, 57]⟩ : ByteArray) (IntKind.wrap .u32 ((Int.tmod (Int.tmod (IntKind.wrap .u32 (t59.2.1)) (10000 : Int)) (100 : Int)) * (2 : Int))))) (a0 + (Int.toNat (IntKind.wrap .i64 (t59.2.2 - (3 : Int))))) (bt (⟨#[48, 48, 48, 49, 48, 50, 48, 51, 48, 52, 48, 53, 48, 54, 48, 55, 48, 56, 48, 57, 49, 48, 49, 49, 49, 50, 49, 51, 49, 52, 49, 53, 49, 54, 49, 55, 49, 56, 49, 57, 50, 48, 50, 49, 50, 50, 50, 51, 50, 52, 50, 53, 50, 54, 50, 55, 50, 56, 50, 57, 51, 48, 51, 49, 51, 50, 51, 51, 51, 52, 51, 53, 51, 54, 51, 55, 51, 56, 51, 57, 52, 48, 52, 49, 52, 50, 52, 51, 52, 52, 52, 53, 52, 54, 52, 55, 52, 56, 52, 57, 53, 48, 53, 49, 53, 50, 53, 51, 53, 52, 53, 53, 53, 54, 53, 55, 53, 56, 53, 57, 54, 48, 54, 49, 54, 50, 54, 51, 54, 52, 54, 53, 54, 54, 54, 55, 54, 56, 54, 57, 55, 48, 55, 49, 55, 50, 55, 51, 55, 52, 55, 53, 55, 54, 55, 55, 55, 56, 55, 57, 56, 48, 56, 49, 56, 50, 56, 51, 56, 52, 56, 53, 56, 54, 56, 55, 56, 56, 56, 57, 57, 48, 57, 49, 57, 50, 57, 51, 57, 52, 57, 53, 57, 54, 57, 55, 57, 56, 57, 57]⟩ : ByteArray) (IntKind.wrap .u32 ((IntKind.wrap .u32 ((IntKind.wrap .u32 (Int.tdiv (Int.tmod (IntKind.wrap .u32 (t59.2.1)) (10000 : Int)) (100 : Int))) * (2 : Int))) + (1 : Int))))) (a0 + (Int.toNat (IntKind.wrap .i64 (t59.2.2 - (4 : Int))))) (bt (⟨#[48, 48, 48, 49, 48, 50, 48, 51, 48, 52, 48, 53, 48, 54, 48, 55, 48, 56, 48, 57, 49, 48, 49, 49, 49, 50, 49, 51, 49, 52, 49, 53, 49, 54, 49, 55, 49, 56, 49, 57, 50, 48, 50, 49, 50, 50, 50, 51, 50, 52, 50, 53, 50, 54, 50, 55, 50, 56, 50, 57, 51, 48, 51, 49, 51, 50, 51, 51, 51, 52, 51, 53, 51, 54, 51, 55, 51, 56, 51, 57, 52, 48, 52, 49, 52, 50, 52, 51, 52, 52, 52, 53, 52, 54, 52, 55, 52, 56, 52, 57, 53, 48, 53, 49, 53, 50, 53, 51, 53, 52, 53, 53, 53, 54, 53, 55, 53, 56, 53, 57, 54, 48, 54, 49, 54, 50, 54, 51, 54, 52, 54, 53, 54, 54, 54, 55, 54, 56, 54, 57, 55, 48, 55, 49, 55, 50, 55, 51, 55, 52, 55, 53, 55, 54, 55, 55, 55, 56, 55, 57, 56, 48, 56, 49, 56, 50, 56, 51, 56, 52, 56, 53, 56, 54, 56, 55, 56, 56, 56, 57, 57, 48, 57, 49, 57, 50, 57, 51, 57, 52, 57, 53, 57, 54, 57, 55, 57, 56, 57, 57]⟩ : ByteArray) (IntKind.wrap .u32 ((IntKind.wrap .u32 (Int.tdiv (Int.tmod (IntKind.wrap .u32 (t59.2.1)) (10000 : Int)) (100 : Int))) * (2 : Int))))) (a0 + (Int.toNat (IntKind.wrap .i64 ((IntKind.wrap .i64 (t59.2.2 - (4 : Int))) - (1 : Int))))) (bt (⟨#[48, 48, 48, 49, 48, 50, 48, 51, 48, 52, 48, 53, 48, 54, 48, 55, 48, 56, 48, 57, 49, 48, 49, 49, 49, 50, 49, 51, 49, 52, 49, 53, 49, 54, 49, 55, 49, 56, 49, 57, 50, 48, 50, 49, 50, 50, 50, 51, 50, 52, 50, 53, 50, 54, 50, 55, 50, 56, 50, 57, 51, 48, 51, 49, 51, 50, 51, 51, 51, 52, 51, 53, 51, 54, 51, 55, 51, 56, 51, 57, 52, 48, 52, 49, 52, 50, 52, 51, 52, 52, 52, 53, 52, 54, 52, 55, 52, 56, 52, 57, 53, 48, 53, 49, 53, 50, 53, 51, 53, 52, 53, 53, 53, 54, 53, 55, 53, 56, 53, 57, 54, 48, 54, 49, 54, 50, 54, 51, 54, 52, 54, 53, 54, 54, 54, 55, 54, 56, 54, 57, 55, 48, 55, 49, 55, 50, 55, 51, 55, 52, 55, 53, 55, 54, 55, 55, 55, 56, 55, 57, 56, 48, 56, 49, 56, 50, 56, 51, 56, 52, 56, 53, 56, 54, 56, 55, 56, 56, 56, 57, 57, 48, 57, 49, 57, 50, 57, 51, 57, 52, 57, 53, 57, 54, 57, 55, 57, 56, 57, 57]⟩ : ByteArray) (IntKind.wrap .u32 ((IntKind.wrap .u32 ((Int.tmod (IntKind.wrap .u32 (Int.tdiv (IntKind.wrap .u32 (t59.2.1)) (10000 : Int))) (100 : Int)) * (2 : Int))) + (1 : Int))))) (a0 + (Int.toNat (IntKind.wrap .i64 ((IntKind.wrap .i64 (t59.2.2 - (4 : Int))) - (2 : Int))))) (bt (⟨#[48, 48, 48, 49, 48, 50, 48, 51, 48, 52, 48, 53, 48, 54, 48, 55, 48, 56, 48, 57, 49, 48, 49, 49, 49, 50, 49, 51, 49, 52, 49, 53, 49, 54, 49, 55, 49, 56, 49, 57, 50, 48, 50, 49, 50, 50, 50, 51, 50, 52, 50, 53, 50, 54, 50, 55, 50, 56, 50, 57, 51, 48, 51, 49, 51, 50, 51, 51, 51, 52, 51, 53, 51, 54, 51, 55, 51, 56, 51, 57, 52, 48, 52, 49, 52, 50, 52, 51, 52, 52, 52, 53, 52, 54, 52, 55, 52, 56, 52, 57, 53, 48, 53, 49, 53, 50, 53, 51, 53, 52, 53, 53, 53, 54, 53, 55, 53, 56, 53, 57, 54, 48, 54, 49, 54, 50, 54, 51, 54, 52, 54, 53, 54, 54, 54, 55, 54, 56, 54, 57, 55, 48, 55, 49, 55, 50, 55, 51, 55, 52, 55, 53, 55, 54, 55, 55, 55, 56, 55, 57, 56, 48, 56, 49, 56, 50, 56, 51, 56, 52, 56, 53, 56, 54, 56, 55, 56, 56, 56, 57, 57, 48, 57, 49, 57, 50, 57, 51, 57, 52, 57, 53, 57, 54, 57, 55, 57, 56, 57, 57]⟩ : ByteArray) (IntKind.wrap .u32 ((Int.tmod (IntKind.wrap .u32 (Int.tdiv (IntKind.wrap .u32 (t59.2.1)) (10000 : Int))) (100 : Int)) * (2 : Int)))))
                                        else none
                                      else none
                                    else none
                                  else none
                                else none
                              else none
                            else
                              if (IntKind.wrap .i64 (t59.2.2 - (4 : Int))) > (0 : Int) then
                                if 0 ≤ (0 : Int) ∧ (0 : Int) < ((a1 : Nat) : Int) then
                                  if a0 < 24 then
                                    some (List.set (List.set (List.set (List.set (List.set t59.1 (a0 + (Int.toNat (IntKind.wrap .i64 (t59.2.2 - (1 : Int))))) (bt (⟨#[48, 48, 48, 49, 48, 50, 48, 51, 48, 52, 48, 53, 48, 54, 48, 55, 48, 56, 48, 57, 49, 48, 49, 49, 49, 50, 49, 51, 49, 52, 49, 53, 49, 54, 49, 55, 49, 56, 49, 57, 50, 48, 50, 49, 50, 50, 50, 51, 50, 52, 50, 53, 50, 54, 50, 55, 50, 56, 50, 57, 51, 48, 51, 49, 51, 50, 51, 51, 51, 52, 51, 53, 51, 54, 51, 55, 51, 56, 51, 57, 52, 48, 52, 49, 52, 50, 52, 51, 52, 52, 52, 53, 52, 54, 52, 55, 52, 56, 52, 57, 53, 48, 53, 49, 53, 50, 53, 51, 53, 52, 53, 53, 53, 54, 53, 55, 53, 56, 53, 57, 54, 48, 54, 49, 54, 50, 54, 51, 54, 52, 54, 53, 54, 54, 54, 55, 54, 56, 54, 57, 55, 48, 55, 49, 55, 50, 55, 51, 55, 52, 55, 53, 55, 54, 55, 55, 55, 56, 55, 57, 56, 48, 56, 49, 56, 50, 56, 51, 56, 52, 56, 53, 56, 54, 56, 55, 56, 56, 56, 57, 57, 48, 57, 49, 57, 50, 57, 51, 57, 52, 57, 53, 57, 54, 57, 55, 57, 56, 57, 57]⟩ : ByteArray) (IntKind.wrap .u32 ((IntKind.wrap .u32 ((Int.tmod (Int.tmod (IntKind.wrap .u32 (t59.2.1)) (10000 : Int)) (100 : Int)) * (2 : Int))) + (1 : Int))))) (a0 + (Int.toNat (IntKind.wrap .i64 (t59.2.2 - (2 : Int))))) (bt (⟨#[48, 48, 48, 49, 48, 50, 48, 51, 48, 52, 48, 53, 48, 54, 48, 55, 48, 56, 48, 57, 49, 48, 49, 49, 49, 50, 49, 51, 49, 52, 49, 53, 49, 54, 49, 55, 49, 56, 49, 57, 50, 48, 50, 49, 50, 50, 50, 51, 50, 52, 50, 53, 50, 54, 50, 55, 50, 56, 50, 57, 51, 48, 51, 49, 51, 50, 51, 51, 51, 52, 51, 53, 51, 54, 51, 55, 51, 56, 51, 57, 52, 48, 52, 49, 52, 50, 52, 51, 52, 52, 52, 53, 52, 54, 52, 55, 52, 56, 52, 57, 53, 48, 53, 49, 53, 50, 53, 51, 53, 52, 53, 53, 53, 54, 53, 55, 53, 56, 53, 57, 54, 48, 54, 49, 54, 50, 54, 51, 54, 52, 54, 53, 54, 54, 54, 55, 54, 56, 54, 57, 55, 48, 55, 49, 55, 50, 55, 51, 55, 52, 55, 53, 55, 54, 55, 55, 55, 56, 55, 57, 56, 48, 56, 49, 56, 50, 56, 51, 56, 52, 56, 53, 56, 54, 56, 55, 56, 56, 56, 57, 57, 48, 57, 49, 57, 50, 57, 51, 57, 52, 57, 53, 57, 54, 57, 55, 57, 56, 57, 57]⟩ : ByteArray) (IntKind.wrap .u32 ((Int.tmod (Int.tmod (IntKind.wrap .u32 (t59.2.1)) (10000 : Int)) (100 : Int)) * (2 : Int))))) (a0 + (Int.toNat (IntKind.wrap .i64 (t59.2.2 - (3 : Int))))) (bt (⟨#[48, 48, 48, 49, 48, 50, 48, 51, 48, 52, 48, 53, 48, 54, 48, 55, 48, 56, 48, 57, 49, 48, 49, 49, 49, 50, 49, 51, 49, 52, 49, 53, 49, 54, 49, 55, 49, 56, 49, 57, 50, 48, 50, 49, 50, 50, 50, 51, 50, 52, 50, 53, 50, 54, 50, 55, 50, 56, 50, 57, 51, 48, 51, 49, 51, 50, 51, 51, 51, 52, 51, 53, 51, 54, 51, 55, 51, 56, 51, 57, 52, 48, 52, 49, 52, 50, 52, 51, 52, 52, 52, 53, 52, 54, 52, 55, 52, 56, 52, 57, 53, 48, 53, 49, 53, 50, 53, 51, 53, 52, 53, 53, 53, 54, 53, 55, 53, 56, 53, 57, 54, 48, 54, 49, 54, 50, 54, 51, 54, 52, 54, 53, 54, 54, 54, 55, 54, 56, 54, 57, 55, 48, 55, 49, 55, 50, 55, 51, 55, 52, 55, 53, 55, 54, 55, 55, 55, 56, 55, 57, 56, 48, 56, 49, 56, 50, 56, 51, 56, 52, 56, 53, 56, 54, 56, 55, 56, 56, 56, 57, 57, 48, 57, 49, 57, 50, 57, 51, 57, 52, 57, 53, 57, 54, 57, 55, 57, 56, 57, 57]⟩ : ByteArray) (IntKind.wrap .u32 ((IntKind.wrap .u32 ((IntKind.wrap .u32 (Int.tdiv (Int.tmod (IntKind.wrap .u32 (t59.2.1)) (10000 : Int)) (100 : Int))) * (2 : Int))) + (1 : Int))))) (a0 + (Int.toNat (IntKind.wrap .i64 (t59.2.2 - (4 : Int))))) (bt (⟨#[48, 48, 48, 49, 48, 50, 48, 51, 48, 52, 48, 53, 48, 54, 48, 55, 48, 56, 48, 57, 49, 48, 49, 49, 49, 50, 49, 51, 49, 52, 49, 53, 49, 54, 49, 55, 49, 56, 49, 57, 50, 48, 50, 49, 50, 50, 50, 51, 50, 52, 50, 53, 50, 54, 50, 55, 50, 56, 50, 57, 51, 48, 51, 49, 51, 50, 51, 51, 51, 52, 51, 53, 51, 54, 51, 55, 51, 56, 51, 57, 52, 48, 52, 49, 52, 50, 52, 51, 52, 52, 52, 53, 52, 54, 52, 55, 52, 56, 52, 57, 53, 48, 53, 49, 53, 50, 53, 51, 53, 52, 53, 53, 53, 54, 53, 55, 53, 56, 53, 57, 54, 48, 54, 49, 54, 50, 54, 51, 54, 52, 54, 53, 54, 54, 54, 55, 54, 56, 54, 57, 55, 48, 55, 49, 55, 50, 55, 51, 55, 52, 55, 53, 55, 54, 55, 55, 55, 56, 55, 57, 56, 48, 56, 49, 56, 50, 56, 51, 56, 52, 56, 53, 56, 54, 56, 55, 56, 56, 56, 57, 57, 48, 57, 49, 57, 50, 57, 51, 57, 52, 57, 53, 57, 54, 57, 55, 57, 56, 57, 57]⟩ : ByteArray) (IntKind.wrap .u32 ((IntKind.wrap .u32 (Int.tdiv (Int.tmod (IntKind.wrap .u32 (t59.2.1)) (10000 : Int)) (100 : Int))) * (2 : Int))))) a0 (IntKind.wrap .u8 ((IntKind.wrap .u32 ((48 : Int) + (IntKind.wrap .u32 (Int.tdiv (IntKind.wrap .u32 (t59.2.1)) (10000 : Int))))))))
                                  else none
                                else none
                              else
                                some (List.set (List.set (List.set (List.set t59.1 (a0 + (Int.toNat (IntKind.wrap .i64 (t59.2.2 - (1 : Int))))) (bt (⟨#[48, 48, 48, 49, 48, 50, 48, 51, 48, 52, 48, 53, 48, 54, 48, 55, 48, 56, 48, 57, 49, 48, 49, 49, 49, 50, 49, 51, 49, 52, 49, 53, 49, 54, 49, 55, 49, 56, 49, 57, 50, 48, 50, 49, 50, 50, 50, 51, 50, 52, 50, 53, 50, 54, 50, 55, 50, 56, 50, 57, 51, 48, 51, 49, 51, 50, 51, 51, 51, 52, 51, 53, 51, 54, 51, 55, 51, 56, 51, 57, 52, 48, 52, 49, 52, 50, 52, 51, 52, 52, 52, 53, 52, 54, 52, 55, 52, 56, 52, 57, 53, 48, 53, 49, 53, 50, 53, 51, 53, 52, 53, 53, 53, 54, 53, 55, 53, 56, 53, 57, 54, 48, 54, 49, 54, 50, 54, 51, 54, 52, 54, 53, 54, 54, 54, 55, 54, 56, 54, 57, 55, 48, 55, 49, 55, 50, 55, 51, 55, 52, 55, 53, 55, 54, 55, 55, 55, 56, 55, 57, 56, 48, 56, 49, 56, 50, 56, 51, 56, 52, 56, 53, 56, 54, 56, 55, 56, 56, 56, 57, 57, 48, 57, 49, 57, 50, 57, 51, 57, 52, 57, 53, 57, 54, 57, 55, 57, 56, 57, 57]⟩ : ByteArray) (IntKind.wrap .u32 ((IntKind.wrap .u32 ((Int.tmod (Int.tmod (IntKind.wrap .u32 (t59.2.1)) (10000 : Int)) (100 : Int)) * (2 : Int))) + (1 : Int))))) (a0 + (Int.toNat (IntKind.wrap .i64 (t59.2.2 - (2 : Int))))) (bt (⟨#[48, 48, 48, 49, 48, 50, 48, 51, 48, 52, 48, 53, 48, 54, 48, 55, 48, 56, 48, 57, 49, 48, 49, 49, 49, 50, 49, 51, 49, 52, 49, 53, 49, 54, 49, 55, 49, 56, 49, 57, 50, 48, 50, 49, 50, 50, 50, 51, 50, 52, 50, 53, 50, 54, 50, 55, 50, 56, 50, 57, 51, 48, 51, 49, 51, 50, 51, 51, 51, 52, 51, 53, 51, 54, 51, 55, 51, 56, 51, 57, 52, 48, 52, 49, 52, 50, 52, 51, 52, 52, 52, 53, 52, 54, 52, 55, 52, 56, 52, 57, 53, 48, 53, 49, 53, 50, 53, 51, 53, 52, 53, 53, 53, 54, 53, 55, 53, 56, 53, 57, 54, 48, 54, 49, 54, 50, 54, 51, 54, 52, 54, 53, 54, 54, 54, 55, 54, 56, 54, 57, 55, 48, 55, 49, 55, 50, 55, 51, 55, 52, 55, 53, 55, 54, 55, 55, 55, 56, 55, 57, 56, 48, 56, 49, 56, 50, 56, 51, 56, 52, 56, 53, 56, 54, 56, 55, 56, 56, 56, 57, 57, 48, 57, 49, 57, 50, 57, 51, 57, 52, 57, 53, 57, 54, 57, 55, 57, 56, 57, 57]⟩ : ByteArray) (IntKind.wrap .u32 ((Int.tmod (Int.tmod (IntKind.wrap .u32 (t59.2.1)) (10000 : Int)) (100 : Int)) * (2 : Int))))) (a0 + (Int.toNat (IntKind.wrap .i64 (t59.2.2 - (3 : Int))))) (bt (⟨#[48, 48, 48, 49, 48, 50, 48, 51, 48, 52, 48, 53, 48, 54, 48, 55, 48, 56, 48, 57, 49, 48, 49, 49, 49, 50, 49, 51, 49, 52, 49, 53, 49, 54, 49, 55, 49, 56, 49, 57, 50, 48, 50, 49, 50, 50, 50, 51, 50, 52, 50, 53, 50, 54, 50, 55, 50, 56, 50, 57, 51, 48, 51, 49, 51, 50, 51, 51, 51, 52, 51, 53, 51, 54, 51, 55, 51, 56, 51, 57, 52, 48, 52, 49, 52, 50, 52, 51, 52, 52, 52, 53, 52, 54, 52, 55, 52, 56, 52, 57, 53, 48, 53, 49, 53, 50, 53, 51, 53, 52, 53, 53, 53, 54, 53, 55, 53, 56, 53, 57, 54, 48, 54, 49, 54, 50, 54, 51, 54, 52, 54, 53, 54, 54, 54, 55, 54, 56, 54, 57, 55, 48, 55, 49, 55, 50, 55, 51, 55, 52, 55, 53, 55, 54, 55, 55, 55, 56, 55, 57, 56, 48, 56, 49, 56, 50, 56, 51, 56, 52, 56, 53, 56, 54, 56, 55, 56, 56, 56, 57, 57, 48, 57, 49, 57, 50, 57, 51, 57, 52, 57, 53, 57, 54, 57, 55, 57, 56, 57, 57]⟩ : ByteArray) (IntKind.wrap .u32 ((IntKind.wrap .u32 ((IntKind.wrap .u32 (Int.tdiv (Int.tmod (IntKind.wrap .u32 (t59.2.1)) (10000 : Int)) (100 : Int))) * (2 : Int))) + (1 : Int))))) (a0 + (Int.toNat (IntKind.wrap .i64 (t59.2.2 - (4 : Int))))) (bt (⟨#[48, 48, 48, 49, 48, 50, 48, 51, 48, 52, 48, 53, 48, 54, 48, 55, 48, 56, 48, 57, 49, 48, 49, 49, 49, 50, 49, 51, 49, 52, 49, 53, 49, 54, 49, 55, 49, 56, 49, 57, 50, 48, 50, 49, 50, 50, 50, 51, 50, 52, 50, 53, 50, 54, 50, 55, 50, 56, 50, 57, 51, 48, 51, 49, 51, 50, 51, 51, 51, 52, 51, 53, 51, 54, 51, 55, 51, 56, 51, 57, 52, 48, 52, 49, 52, 50, 52, 51, 52, 52, 52, 53, 52, 54, 52, 55, 52, 56, 52, 57, 53, 48, 53, 49, 53, 50, 53, 51, 53, 52, 53, 53, 53, 54, 53, 55, 53, 56, 53, 57, 54, 48, 54, 49, 54, 50, 54, 51, 54, 52, 54, 53, 54, 54, 54, 55, 54, 56, 54, 57, 55, 48, 55, 49, 55, 50, 55, 51, 55, 52, 55, 53, 55, 54, 55, 55, 55, 56, 55, 57, 56, 48, 56, 49, 56, 50, 56, 51, 56, 52, 56, 53, 56, 54, 56, 55, 56, 56, 56, 57, 57, 48, 57, 49, 57, 50, 57, 51, 57, 52, 57, 53, 57, 54, 57, 55, 57, 56, 57, 57]⟩ : ByteArray) (IntKind.wrap .u32 ((IntKind.wrap .u32 (Int.tdiv (Int.tmod (IntKind.wrap .u32 (t59.2.1)) (10000 : Int)) (100 : Int))) * (2 : Int)))))
                          else none
                        else none
                      else none
                    else none
                  else none
                else none
              else none
            else none
          else none
        else none
      else none
    else none
  else
    if t59.2.2 ≥ (2 : Int) then
      if 0 ≤ (IntKind.wrap .u32 ((IntKind.wrap .u32 ((Int.tmod (IntKind.wrap .u32 (t59.2.1)) (100 : Int)) * (2 : Int))) + (1 : Int))) ∧ (IntKind.wrap .u32 ((IntKind.wrap .u32 ((Int.tmod (IntKind.wrap .u32 (t59.2.1)) (100 : Int)) * (2 : Int))) + (1 : Int))) < (((ByteArray.size (⟨#[48, 48, 48, 49, 48, 50, 48, 51, 48, 52, 48, 53, 48, 54, 48, 55, 48, 56, 48, 57, 49, 48, 49, 49, 49, 50, 49, 51, 49, 52, 49, 53, 49, 54, 49, 55, 49, 56, 49, 57, 50, 48, 50, 49, 50, 50, 50, 51, 50, 52, 50, 53, 50, 54, 50, 55, 50, 56, 50, 57, 51, 48, 51, 49, 51, 50, 51, 51, 51, 52, 51, 53, 51, 54, 51, 55, 51, 56, 51, 57, 52, 48, 52, 49, 52, 50, 52, 51, 52, 52, 52, 53, 52, 54, 52, 55, 52, 56, 52, 57, 53, 48, 53, 49, 53, 50, 53, 51, 53, 52, 53, 53, 53, 54, 53, 55, 53, 56, 53, 57, 54, 48, 54, 49, 54, 50, 54, 51, 54, 52, 54, 53, 54, 54, 54, 55, 54, 56, 54, 57, 55, 48, 55, 49, 55, 50, 55, 51, 55, 52, 55, 53, 55, 54, 55, 55, 55, 56, 55, 57, 56, 48, 56, 49, 56, 50, 56, 51, 56, 52, 56, 53, 56, 54, 56, 55, 56, 56, 56, 57, 57, 48, 57, 49, 57, 50, 57, 51, 57, 52, 57, 53, 57, 54, 57, 55, 57, 56, 57, 57]⟩ : ByteArray)) : Nat) : Int) then
        if 0 ≤ (IntKind.wrap .u32 ((Int.tmod (IntKind.wrap .u32 (t59.2.1)) (100 : Int)) * (2 : Int))) ∧ (IntKind.wrap .u32 ((Int.tmod (IntKind.wrap .u32 (t59.2.1)) (100 : Int)) * (2 : Int))) < (((ByteArray.size (⟨#[48, 48, 48, 49, 48, 50, 48, 51, 48, 52, 48, 53, 48, 54, 48, 55, 48, 56, 48, 57, 49, 48, 49, 49, 49, 50, 49, 51, 49, 52, 49, 53, 49, 54, 49, 55, 49, 56, 49, 57, 50, 48, 50, 49, 50, 50, 50, 51, 50, 52, 50, 53, 50, 54, 50, 55, 50, 56, 50, 57, 51, 48, 51, 49, 51, 50, 51, 51, 51, 52, 51, 53, 51, 54, 51, 55, 51, 56, 51, 57, 52, 48, 52, 49, 52, 50, 52, 51, 52, 52, 52, 53, 52, 54, 52, 55, 52, 56, 52, 57, 53, 48, 53, 49, 53, 50, 53, 51, 53, 52, 53, 53, 53, 54, 53, 55, 53, 56, 53, 57, 54, 48, 54, 49, 54, 50, 54, 51, 54, 52, 54, 53, 54, 54, 54, 55, 54, 56, 54, 57, 55, 48, 55, 49, 55, 50, 55, 51, 55, 52, 55, 53, 55, 54, 55, 55, 55, 56, 55, 57, 56, 48, 56, 49, 56, 50, 56, 51, 56, 52, 56, 53, 56, 54, 56, 55, 56, 56, 56, 57, 57, 48, 57, 49, 57, 50, 57, 51, 57, 52, 57, 53, 57, 54, 57, 55, 57, 56, 57, 57]⟩ : ByteArray)) : Nat) : Int) then
          if 0 ≤ (IntKind.wrap .i64 (t59.2.2 - (1 : Int))) ∧ (IntKind.wrap .i64 (t59.2.2 - (1 : Int))) < ((a1 : Nat) : Int) then
            if (a0 + (Int.toNat (IntKind.wrap .i64 (t59.2.2 - (1 : Int))))) < 24 then
              if 0 ≤ (IntKind.wrap .i64 (t59.2.2 - (2 : Int))) ∧ (IntKind.wrap .i64 (t59.2.2 - (2 : Int))) < ((a1 : Nat) : Int) then
                if (a0 + (Int.toNat (IntKind.wrap .i64 (t59.2.2 - (2 : Int))))) < 24 then
                  if (IntKind.wrap .i64 (t59.2.2 - (2 : Int))) > (0 : Int) then
                    if 0 ≤ (0 : Int) ∧ (0 : Int) < ((a1 : Nat) : Int) then
                      if a0 < 24 then
                        some (List.set (List.set (List.set t59.1 (a0 + (Int.toNat (IntKind.wrap .i64 (t59.2.2 - (1 : Int))))) (bt (⟨#[48, 48, 48, 49, 48, 50, 48, 51, 48, 52, 48, 53, 48, 54, 48, 55, 48, 56, 48, 57, 49, 48, 49, 49, 49, 50, 49, 51, 49, 52, 49, 53, 49, 54, 49, 55, 49, 56, 49, 57, 50, 48, 50, 49, 50, 50, 50, 51, 50, 52, 50, 53, 50, 54, 50, 55, 50, 56, 50, 57, 51, 48, 51, 49, 51, 50, 51, 51, 51, 52, 51, 53, 51, 54, 51, 55, 51, 56, 51, 57, 52, 48, 52, 49, 52, 50, 52, 51, 52, 52, 52, 53, 52, 54, 52, 55, 52, 56, 52, 57, 53, 48, 53, 49, 53, 50, 53, 51, 53, 52, 53, 53, 53, 54, 53, 55, 53, 56, 53, 57, 54, 48, 54, 49, 54, 50, 54, 51, 54, 52, 54, 53, 54, 54, 54, 55, 54, 56, 54, 57, 55, 48, 55, 49, 55, 50, 55, 51, 55, 52, 55, 53, 55, 54, 55, 55, 55, 56, 55, 57, 56, 48, 56, 49, 56, 50, 56, 51, 56, 52, 56, 53, 56, 54, 56, 55, 56, 56, 56, 57, 57, 48, 57, 49, 57, 50, 57, 51, 57, 52, 57, 53, 57, 54, 57, 55, 57, 56, 57, 57]⟩ : ByteArray) (IntKind.wrap .u32 ((IntKind.wrap .u32 ((Int.tmod (IntKind.wrap .u32 (t59.2.1)) (100 : Int)) * (2 : Int))) + (1 : Int))))) (a0 + (Int.toNat (IntKind.wrap .i64 (t59.2.2 - (2 : Int))))) (bt (⟨#[48, 48, 48, 49, 48, 50, 48, 51, 48, 52, 48, 53, 48, 54, 48, 55, 48, 56, 48, 57, 49, 48, 49, 49, 49, 50, 49, 51, 49, 52, 49, 53, 49, 54, 49, 55, 49, 56, 49, 57, 50, 48, 50, 49, 50, 50, 50, 51, 50, 52, 50, 53, 50, 54, 50, 55, 50, 56, 50, 57, 51, 48, 51, 49, 51, 50, 51, 51, 51, 52, 51, 53, 51, 54, 51, 55, 51, 56, 51, 57, 52, 48, 52, 49, 52, 50, 52, 51, 52, 52, 52, 53, 52, 54, 52, 55, 52, 56, 52, 57, 53, 48, 53, 49, 53, 50, 53, 51, 53, 52, 53, 53, 53, 54, 53, 55, 53, 56, 53, 57, 54, 48, 54, 49, 54, 50, 54, 51, 54, 52, 54, 53, 54, 54, 54, 55, 54, 56, 54, 57, 55, 48, 55, 49, 55, 50, 55, 51, 55, 52, 55, 53, 55, 54, 55, 55, 55, 56, 55, 57, 56, 48, 56, 49, 56, 50, 56, 51, 56, 52, 56, 53, 56, 54, 56, 55, 56, 56, 56, 57, 57, 48, 57, 49, 57, 50, 57, 51, 57, 52, 57, 53, 57, 54, 57, 55, 57, 56, 57, 57]⟩ : ByteArray) (IntKind.wrap .u32 ((Int.tmod (IntKind.wrap .u32 (t59.2.1)) (100 : Int)) * (2 : Int))))) a0 (IntKind.wrap .u8 ((IntKind.wrap .u32 ((48 : Int) + (IntKind.wrap .u32 (Int.tdiv (IntKind.wrap .u32 (t59.2.1)) (100 : Int))))))))
                      else none
                    else none
                  else
                    some (List.set (List.set t59.1 (a0 + (Int.toNat (IntKind.wrap .i64 (t59.2.2 - (1 : Int))))) (bt (⟨#[48, 48, 48, 49, 48, 50, 48, 51, 48, 52, 48, 53, 48, 54, 48, 55, 48, 56, 48, 57, 49, 48, 49, 49, 49, 50, 49, 51, 49, 52, 49, 53, 49, 54, 49, 55, 49, 56, 49, 57, 50, 48, 50, 49, 50, 50, 50, 51, 50, 52, 50, 53, 50, 54, 50, 55, 50, 56, 50, 57, 51, 48, 51, 49, 51, 50, 51, 51, 51, 52, 51, 53, 51, 54, 51, 55, 51, 56, 51, 57, 52, 48, 52, 49, 52, 50, 52, 51, 52, 52, 52, 53, 52, 54, 52, 55, 52, 56, 52, 57, 53, 48, 53, 49, 53, 50, 53, 51, 53, 52, 53, 53, 53, 54, 53, 55, 53, 56, 53, 57, 54, 48, 54, 49, 54, 50, 54, 51, 54, 52, 54, 53, 54, 54, 54, 55, 54, 56, 54, 57, 55, 48, 55, 49, 55, 50, 55, 51, 55, 52, 55, 53, 55, 54, 55, 55, 55, 56, 55, 57, 56, 48, 56, 49, 56, 50, 56, 51, 56, 52, 56, 53, 56, 54, 56, 55, 56, 56, 56, 57, 57, 48, 57, 49, 57, 50, 57, 51, 57, 52, 57, 53, 57, 54, 57, 55, 57, 56, 57, 57]⟩ : ByteArray) (IntKind.wrap .u32 ((IntKind.wrap .u32 ((Int.tmod (IntKind.wrap .u32 (t59.2.1)) (100 : Int)) * (2 : Int))) + (1 : Int))))) (a0 + (Int.toNat (IntKind.wrap .i64 (t59.2.2 - (2 : Int))))) (bt (⟨#[48, 48, 48, 49, 48, 50, 48, 51, 48, 52, 48, 53, 48, 54, 48, 55, 48, 56, 48, 57, 49, 48, 49, 49, 49, 50, 49, 51, 49, 52, 49, 53, 49, 54, 49, 55, 49, 56, 49, 57, 50, 48, 50, 49, 50, 50, 50, 51, 50, 52, 50, 53, 50, 54, 50, 55, 50, 56, 50, 57, 51, 48, 51, 49, 51, 50, 51, 51, 51, 52, 51, 53, 51, 54, 51, 55, 51, 56, 51, 57, 52, 48, 52, 49, 52, 50, 52, 51, 52, 52, 52, 53, 52, 54, 52, 55, 52, 56, 52, 57, 53, 48, 53, 49, 53, 50, 53, 51, 53, 52, 53, 53, 53, 54, 53, 55, 53, 56, 53, 57, 54, 48, 54, 49, 54, 50, 54, 51, 54, 52, 54, 53, 54, 54, 54, 55, 54, 56, 54, 57, 55, 48, 55, 49, 55, 50, 55, 51, 55, 52, 55, 53, 55, 54, 55, 55, 55, 56, 55, 57, 56, 48, 56, 49, 56, 50, 56, 51, 56, 52, 56, 53, 56, 54, 56, 55, 56, 56, 56, 57, 57, 48, 57, 49, 57, 50, 57, 51, 57, 52, 57, 53, 57, 54, 57, 55, 57, 56, 57, 57]⟩ : ByteArray) (IntKind.wrap .u32 ((Int.tmod (IntKind.wrap .u32 (t59.2.1)) (100 : Int)) * (2 : Int)))))
                else none
              else none
            else none
          else none
        else none
      else none
    else
      if t59.2.2 > (0 : Int) then
        if 0 ≤ (0 : Int) ∧ (0 : Int) < ((a1 : Nat) : Int) then
          if a0 < 24 then
            some (List.set t59.1 a0 (IntKind.wrap .u8 ((IntKind.wrap .u32 ((48 : Int) + (IntKind.wrap .u32 (t59.2.1)))))))
          else none
        else none
      else
        some t59.1
def internal_strconv_formatBase10.R (r : (List Int)) : Tm := .tup []
def internal_strconv_formatBase10.B (a0 : Nat) (a1 : Nat) (a2 : Int) (a3 : (List Int)) (r : (List Int)) : List Box := [.ex false [.row 24 (.int .u8) r] 78]
end Go.Proofs.YtblnjkpgngpbbaaDoorGStatusForms
