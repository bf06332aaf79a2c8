/- Printed by gen.py: what functions of the program compute, in plain Lean, and that they do. -/
import Derived.Test.YtlaemcglemakjaaDoorE15
import Derived.Test.YtlaemcglemakjaaDoorN
set_option linter.unusedVariables false
set_option maxRecDepth 100000
set_option maxHeartbeats 4000000
namespace Go.Proofs.YtlaemcglemakjaaDoorGTraceOnce
open Go Go.Proofs.YtlaemcglemakjaaDoorE
def tiL : List (Nat × TI) := [
  (3, ⟨1, 8, false, .int .i64, [.c (.sc (.int .i64 (0 : Int)))], some (.int .i64)⟩),
  (4, ⟨1, 1, false, .bool, [.c (.sc (.bool false))], some .bool⟩),
  (22, ⟨1, 4, false, .int .u32, [.c (.sc (.int .u32 (0 : Int)))], some (.int .u32)⟩),
  (26, ⟨6, 40, true, (.struct [(0, 3), (1, 4), (2, 22), (3, 3), (4, 3), (5, 4)]), [.c (.sc (.int .i64 (0 : Int))), .c (.sc (.bool false)), .c (.sc (.int .u32 (0 : Int))), .c (.sc (.int .i64 (0 : Int))), .c (.sc (.int .i64 (0 : Int))), .c (.sc (.bool false))], some (.pair (.int .i64) (.pair .bool (.pair (.int .u32) (.pair (.int .i64) (.pair (.int .i64) .bool)))))⟩),
  (28, ⟨1, 16, false, .iface, [.c (.err none)], none⟩),
  (51, ⟨1, 24, false, (.slice 54), [.c (.sc (.slice none 0 0))], some (.sl (.pair (.int .i64) (.pair (.int .i64) (.pair (.int .i64) (.int .i64)))))⟩),
  (52, ⟨1, 8, false, .int .u64, [.c (.sc (.int .u64 (0 : Int)))], some (.int .u64)⟩),
  (54, ⟨4, 32, true, (.struct [(0, 3), (1, 3), (2, 3), (3, 3)]), [.c (.sc (.int .i64 (0 : Int))), .c (.sc (.int .i64 (0 : Int))), .c (.sc (.int .i64 (0 : Int))), .c (.sc (.int .i64 (0 : Int)))], some (.pair (.int .i64) (.pair (.int .i64) (.pair (.int .i64) (.int .i64))))⟩),
  (60, ⟨1, 8, false, .int .i64, [.c (.sc (.int .i64 (0 : Int)))], some (.int .i64)⟩)]
noncomputable def cfg : Cfg := ⟨Tryd.prog, 60, [(⟨0, 0, none⟩, .iface 86 (.agg #[.pointer (some ⟨1, 28, none⟩)]))], tiL, [26]⟩
theorem cfg_ok : COk cfg := by
  refine ⟨fun p hp => ?_, by kernel_rfl, fun p hp => ?_, fun t ht => ?_⟩
  · simp only [cfg, tiL, List.mem_cons, List.not_mem_nil, or_false] at hp
    rcases hp with rfl | rfl | rfl | rfl | rfl | rfl | rfl | rfl | rfl <;> exact ⟨by kernel_rfl, by kernel_rfl, by kernel_rfl, by kernel_rfl, by kernel_rfl, by kernel_rfl⟩
  · simp only [cfg, tiL, List.mem_cons, List.not_mem_nil, or_false] at hp
    rcases hp with rfl | rfl | rfl | rfl | rfl | rfl | rfl | rfl | rfl <;> intro fs hfs bl hbl
    · cases hfs
    · cases hfs
    · cases hfs
    · cases hfs
      have e : fieldsZ cfg.L 0 [(0, 3), (1, 4), (2, 22), (3, 3), (4, 3), (5, 4)] = some [[.c (.sc (.int .i64 (0 : Int)))], [.c (.sc (.bool false))], [.c (.sc (.int .u32 (0 : Int)))], [.c (.sc (.int .i64 (0 : Int)))], [.c (.sc (.int .i64 (0 : Int)))], [.c (.sc (.bool false))]] := by kernel_rfl
      rw [e] at hbl
      cases hbl
      exact (by kernel_rfl : encPs (List.flatten [[.c (.sc (.int .i64 (0 : Int)))], [.c (.sc (.bool false))], [.c (.sc (.int .u32 (0 : Int)))], [.c (.sc (.int .i64 (0 : Int)))], [.c (.sc (.int .i64 (0 : Int)))], [.c (.sc (.bool false))]]) = encPs [.c (.sc (.int .i64 (0 : Int))), .c (.sc (.bool false)), .c (.sc (.int .u32 (0 : Int))), .c (.sc (.int .i64 (0 : Int))), .c (.sc (.int .i64 (0 : Int))), .c (.sc (.bool false))])
    · cases hfs
    · cases hfs
    · cases hfs
    · cases hfs
      have e : fieldsZ cfg.L 0 [(0, 3), (1, 3), (2, 3), (3, 3)] = some [[.c (.sc (.int .i64 (0 : Int)))], [.c (.sc (.int .i64 (0 : Int)))], [.c (.sc (.int .i64 (0 : Int)))], [.c (.sc (.int .i64 (0 : Int)))]] := by kernel_rfl
      rw [e] at hbl
      cases hbl
      exact (by kernel_rfl : encPs (List.flatten [[.c (.sc (.int .i64 (0 : Int)))], [.c (.sc (.int .i64 (0 : Int)))], [.c (.sc (.int .i64 (0 : Int)))], [.c (.sc (.int .i64 (0 : Int)))]]) = encPs [.c (.sc (.int .i64 (0 : Int))), .c (.sc (.int .i64 (0 : Int))), .c (.sc (.int .i64 (0 : Int))), .c (.sc (.int .i64 (0 : Int)))])
    · cases hfs
  · simp only [cfg, List.mem_cons, List.not_mem_nil, or_false] at ht
    rcases ht with rfl <;> kernel_rfl
def fin : Scr → List Adj
  | .adj l _ => l
  | _ => []
/-! the error's number -/
def num.f (a0 : Option Int) : Option Int := some (a0.getD 0)
def num.R (r : Int) : Tm := .v (.one (.sc (.int .i64 r)))
theorem num.fun_ {a0 : Option Int} {r : Int} (h : num.f a0 = some r) : Fun cfg 16 [.one (.err a0)] [] (num.R r) [] := by
  refine Fun.of_below (f := 16) (fn := Tryd.f16) Tryd.func16 rfl (by kernel_rfl) (r := .int .i64 r) (fun X => ⟨⟨rfl, rfl⟩, rfl⟩) fun X vs hE hvs hG => ?_
  obtain ⟨v, us, rfl, hv, rfl⟩ := hvs
  have hv : v = errV X.E a0 := hv.1
  have he : errV cfg.E a0 = YtlaemcglemakjaaDoorN.errW a0 := by cases a0 <;> rfl
  rw [hv, hE, he]
  exact YtlaemcglemakjaaDoorN.num.calls a0 r X.w (hG _ (List.mem_cons_self ..)) h
/-! halter/halterref26.Of -/
def halterref26_Of.f (a0 : Int) (a1 : Int) : Option (Int × Int) :=
  if a0 = (0 : Int) then
    if a1 ≥ (0 : Int) then
      if a1 ≤ (255 : Int) then
        some ((IntKind.wrap .u32 ((IntKind.wrap .i64 ((256 : Int) * a1)))), (0 : Int))
      else
        if a0 < (1 : Int) then
          some ((0 : Int), (22 : Int))
        else
          if a0 > (3 : Int) then
            some ((0 : Int), (22 : Int))
          else
            if a1 < (1 : Int) then
              some ((0 : Int), (22 : Int))
            else
              if a1 > (31 : Int) then
                some ((0 : Int), (22 : Int))
              else
                if a0 = (1 : Int) then
                  some ((IntKind.wrap .u32 (a1)), (0 : Int))
                else
                  if a0 = (2 : Int) then
                    some ((IntKind.wrap .u32 ((IntKind.wrap .i64 ((IntKind.wrap .i64 ((256 : Int) * a1)) + (127 : Int))))), (0 : Int))
                  else
                    some ((IntKind.wrap .u32 ((IntKind.wrap .i64 ((IntKind.wrap .i64 ((256 : Int) * (IntKind.wrap .i64 (a1 + (128 : Int))))) + (127 : Int))))), (0 : Int))
    else
      if a0 < (1 : Int) then
        some ((0 : Int), (22 : Int))
      else
        if a0 > (3 : Int) then
          some ((0 : Int), (22 : Int))
        else
          if a1 < (1 : Int) then
            some ((0 : Int), (22 : Int))
          else
            if a1 > (31 : Int) then
              some ((0 : Int), (22 : Int))
            else
              if a0 = (1 : Int) then
                some ((IntKind.wrap .u32 (a1)), (0 : Int))
              else
                if a0 = (2 : Int) then
                  some ((IntKind.wrap .u32 ((IntKind.wrap .i64 ((IntKind.wrap .i64 ((256 : Int) * a1)) + (127 : Int))))), (0 : Int))
                else
                  some ((IntKind.wrap .u32 ((IntKind.wrap .i64 ((IntKind.wrap .i64 ((256 : Int) * (IntKind.wrap .i64 (a1 + (128 : Int))))) + (127 : Int))))), (0 : Int))
  else
    if a0 < (1 : Int) then
      some ((0 : Int), (22 : Int))
    else
      if a0 > (3 : Int) then
        some ((0 : Int), (22 : Int))
      else
        if a1 < (1 : Int) then
          some ((0 : Int), (22 : Int))
        else
          if a1 > (31 : Int) then
            some ((0 : Int), (22 : Int))
          else
            if a0 = (1 : Int) then
              some ((IntKind.wrap .u32 (a1)), (0 : Int))
            else
              if a0 = (2 : Int) then
                some ((IntKind.wrap .u32 ((IntKind.wrap .i64 ((IntKind.wrap .i64 ((256 : Int) * a1)) + (127 : Int))))), (0 : Int))
              else
                some ((IntKind.wrap .u32 ((IntKind.wrap .i64 ((IntKind.wrap .i64 ((256 : Int) * (IntKind.wrap .i64 (a1 + (128 : Int))))) + (127 : Int))))), (0 : Int))
def halterref26_Of.R (r : Int × Int) : Tm := .tup [.one (.sc (.int .u32 r.1)), .one (.sc (.int .i64 r.2))]
theorem halterref26_Of.fun_ {a0 : Int} {a1 : Int} {r : Int × Int} (h : halterref26_Of.f a0 a1 = some r) : Fun cfg 21 [.one (.sc (.int .i64 a0)), .one (.sc (.int .i64 a1))] [] (halterref26_Of.R r) [] := by
  unfold halterref26_Of.f at h
  refine fun_of_run cfg_ok (f := 21) (fn := Tryd.f21) Tryd.func21 rfl (by kernel_rfl) (rs := [.tmp 4, .tmp 5]) rfl (nt := 48) rfl (l := fin) (k := (.br (.one true (.one true (.br (.one true (.one true (.br (.adj [] (.adj [] (.adj [] .nil))) (.br (.one true (.one true (.one true (.one true (.one true (.one true (.one true (.one true (.one true (.adj [] (.adj [] (.adj [] .nil)))))))))))) (.one false (.one false (.br (.one true (.one true (.one true (.one true (.one true (.one true (.adj [] (.adj [] (.adj [] .nil))))))))) (.one false (.one false (.br (.one true (.one true (.one true (.adj [] (.adj [] (.adj [] .nil)))))) (.one false (.one false (.br (.adj [] (.adj [] (.adj [] .nil))) (.br (.adj [] (.adj [] (.adj [] .nil))) (.br (.adj [] (.adj [] (.adj [] .nil))) (.adj [] (.adj [] (.adj [] (.adj [] .nil))))))))))))))))))) (.one false (.one false (.one false (.br (.one true (.one true (.one true (.one true (.one true (.one true (.one true (.one true (.one true (.adj [] (.adj [] (.adj [] .nil)))))))))))) (.one false (.one false (.br (.one true (.one true (.one true (.one true (.one true (.one true (.adj [] (.adj [] (.adj [] .nil))))))))) (.one false (.one false (.br (.one true (.one true (.one true (.adj [] (.adj [] (.adj [] .nil)))))) (.one false (.one false (.br (.adj [] (.adj [] (.adj [] .nil))) (.br (.adj [] (.adj [] (.adj [] .nil))) (.br (.adj [] (.adj [] (.adj [] .nil))) (.adj [] (.adj [] (.adj [] (.adj [] .nil)))))))))))))))))))))) (.one false (.one false (.one false (.one false (.one false (.one false (.br (.one true (.one true (.one true (.one true (.one true (.one true (.one true (.one true (.one true (.adj [] (.adj [] (.adj [] .nil)))))))))))) (.one false (.one false (.br (.one true (.one true (.one true (.one true (.one true (.one true (.adj [] (.adj [] (.adj [] .nil))))))))) (.one false (.one false (.br (.one true (.one true (.one true (.adj [] (.adj [] (.adj [] .nil)))))) (.one false (.one false (.br (.adj [] (.adj [] (.adj [] .nil))) (.br (.adj [] (.adj [] (.adj [] .nil))) (.br (.adj [] (.adj [] (.adj [] .nil))) (.adj [] (.adj [] (.adj [] (.adj [] .nil)))))))))))))))))))))))) (to_goal (q := (True) ∧ (((a0 == (0 : Int)) = true → ((a0 == (0 : Int)) = true ∧ (True) ∧ ((a0 == (0 : Int)) = true ∧ (((decide (a1 ≥ (0 : Int))) = true → ((decide (a1 ≥ (0 : Int))) = true ∧ (True) ∧ ((decide (a1 ≥ (0 : Int))) = true ∧ (((decide (a1 ≤ (255 : Int))) = true → (True ∧ (True) ∧ (True) ∧ (True ∧ ((True) ∧ (True) ∧ (.tup [.one (.sc (.int .u32 (IntKind.wrap .u32 ((IntKind.wrap .i64 ((256 : Int) * a1)))))), .one (.sc (.int .i64 (0 : Int)))] : Tm) = halterref26_Of.R r ∧ ([] : List Box) = [])))) ∧ ((decide (a1 ≤ (255 : Int))) = false → (True) ∧ (((decide (a0 < (1 : Int))) = false → ((decide (a0 < (1 : Int))) = false ∧ (True) ∧ ((decide (a0 < (1 : Int))) = false ∧ (((decide (a0 > (3 : Int))) = false → ((decide (a0 > (3 : Int))) = false ∧ (True) ∧ ((decide (a0 > (3 : Int))) = false ∧ (((decide (a1 < (1 : Int))) = false → ((decide (a1 < (1 : Int))) = false ∧ (True) ∧ ((decide (a1 < (1 : Int))) = false ∧ (((decide (a1 > (31 : Int))) = true → (True ∧ (True ∧ ((True) ∧ (True) ∧ (.tup [.one (.sc (.int .u32 (0 : Int))), .one (.sc (.int .i64 (22 : Int)))] : Tm) = halterref26_Of.R r ∧ ([] : List Box) = [])))) ∧ ((decide (a1 > (31 : Int))) = false → (True) ∧ (((a0 == (1 : Int)) = true → (True ∧ (True) ∧ (True ∧ ((True) ∧ (True) ∧ (.tup [.one (.sc (.int .u32 (IntKind.wrap .u32 (a1)))), .one (.sc (.int .i64 (0 : Int)))] : Tm) = halterref26_Of.R r ∧ ([] : List Box) = [])))) ∧ ((a0 == (1 : Int)) = false → (True) ∧ (((a0 == (2 : Int)) = true → (True ∧ (True) ∧ (True) ∧ (True) ∧ (True ∧ ((True) ∧ (True) ∧ (.tup [.one (.sc (.int .u32 (IntKind.wrap .u32 ((IntKind.wrap .i64 ((IntKind.wrap .i64 ((256 : Int) * a1)) + (127 : Int))))))), .one (.sc (.int .i64 (0 : Int)))] : Tm) = halterref26_Of.R r ∧ ([] : List Box) = [])))) ∧ ((a0 == (2 : Int)) = false → (True ∧ (True ∧ (True) ∧ (True) ∧ (True) ∧ (True) ∧ (True ∧ ((True) ∧ (True) ∧ (.tup [.one (.sc (.int .u32 (IntKind.wrap .u32 ((IntKind.wrap .i64 ((IntKind.wrap .i64 ((256 : Int) * (IntKind.wrap .i64 (a1 + (128 : Int))))) + (127 : Int))))))), .one (.sc (.int .i64 (0 : Int)))] : Tm) = halterref26_Of.R r ∧ ([] : List Box) = []))))))))))))) ∧ ((decide (a1 < (1 : Int))) = true → ((decide (a1 < (1 : Int))) = true ∧ ((decide (a1 < (1 : Int))) = true ∧ (true = true ∧ (True ∧ (True ∧ ((True) ∧ (True) ∧ (.tup [.one (.sc (.int .u32 (0 : Int))), .one (.sc (.int .i64 (22 : Int)))] : Tm) = halterref26_Of.R r ∧ ([] : List Box) = []))))))))))) ∧ ((decide (a0 > (3 : Int))) = true → ((decide (a0 > (3 : Int))) = true ∧ ((decide (a0 > (3 : Int))) = true ∧ (true = true ∧ (true = true ∧ (true = true ∧ (true = true ∧ (True ∧ (True ∧ ((True) ∧ (True) ∧ (.tup [.one (.sc (.int .u32 (0 : Int))), .one (.sc (.int .i64 (22 : Int)))] : Tm) = halterref26_Of.R r ∧ ([] : List Box) = [])))))))))))))) ∧ ((decide (a0 < (1 : Int))) = true → ((decide (a0 < (1 : Int))) = true ∧ ((decide (a0 < (1 : Int))) = true ∧ (true = true ∧ (true = true ∧ (true = true ∧ (true = true ∧ (true = true ∧ (true = true ∧ (true = true ∧ (True ∧ (True ∧ ((True) ∧ (True) ∧ (.tup [.one (.sc (.int .u32 (0 : Int))), .one (.sc (.int .i64 (22 : Int)))] : Tm) = halterref26_Of.R r ∧ ([] : List Box) = []))))))))))))))))))) ∧ ((decide (a1 ≥ (0 : Int))) = false → ((decide (a1 ≥ (0 : Int))) = false ∧ ((decide (a1 ≥ (0 : Int))) = false ∧ (false = false ∧ (True) ∧ (((decide (a0 < (1 : Int))) = false → ((decide (a0 < (1 : Int))) = false ∧ (True) ∧ ((decide (a0 < (1 : Int))) = false ∧ (((decide (a0 > (3 : Int))) = false → ((decide (a0 > (3 : Int))) = false ∧ (True) ∧ ((decide (a0 > (3 : Int))) = false ∧ (((decide (a1 < (1 : Int))) = false → ((decide (a1 < (1 : Int))) = false ∧ (True) ∧ ((decide (a1 < (1 : Int))) = false ∧ (((decide (a1 > (31 : Int))) = true → (True ∧ (True ∧ ((True) ∧ (True) ∧ (.tup [.one (.sc (.int .u32 (0 : Int))), .one (.sc (.int .i64 (22 : Int)))] : Tm) = halterref26_Of.R r ∧ ([] : List Box) = [])))) ∧ ((decide (a1 > (31 : Int))) = false → (True) ∧ (((a0 == (1 : Int)) = true → (True ∧ (True) ∧ (True ∧ ((True) ∧ (True) ∧ (.tup [.one (.sc (.int .u32 (IntKind.wrap .u32 (a1)))), .one (.sc (.int .i64 (0 : Int)))] : Tm) = halterref26_Of.R r ∧ ([] : List Box) = [])))) ∧ ((a0 == (1 : Int)) = false → (True) ∧ (((a0 == (2 : Int)) = true → (True ∧ (True) ∧ (True) ∧ (True) ∧ (True ∧ ((True) ∧ (True) ∧ (.tup [.one (.sc (.int .u32 (IntKind.wrap .u32 ((IntKind.wrap .i64 ((IntKind.wrap .i64 ((256 : Int) * a1)) + (127 : Int))))))), .one (.sc (.int .i64 (0 : Int)))] : Tm) = halterref26_Of.R r ∧ ([] : List Box) = [])))) ∧ ((a0 == (2 : Int)) = false → (True ∧ (True ∧ (True) ∧ (True) ∧ (True) ∧ (True) ∧ (True ∧ ((True) ∧ (True) ∧ (.tup [.one (.sc (.int .u32 (IntKind.wrap .u32 ((IntKind.wrap .i64 ((IntKind.wrap .i64 ((256 : Int) * (IntKind.wrap .i64 (a1 + (128 : Int))))) + (127 : Int))))))), .one (.sc (.int .i64 (0 : Int)))] : Tm) = halterref26_Of.R r ∧ ([] : List Box) = []))))))))))))) ∧ ((decide (a1 < (1 : Int))) = true → ((decide (a1 < (1 : Int))) = true ∧ ((decide (a1 < (1 : Int))) = true ∧ (true = true ∧ (True ∧ (True ∧ ((True) ∧ (True) ∧ (.tup [.one (.sc (.int .u32 (0 : Int))), .one (.sc (.int .i64 (22 : Int)))] : Tm) = halterref26_Of.R r ∧ ([] : List Box) = []))))))))))) ∧ ((decide (a0 > (3 : Int))) = true → ((decide (a0 > (3 : Int))) = true ∧ ((decide (a0 > (3 : Int))) = true ∧ (true = true ∧ (true = true ∧ (true = true ∧ (true = true ∧ (True ∧ (True ∧ ((True) ∧ (True) ∧ (.tup [.one (.sc (.int .u32 (0 : Int))), .one (.sc (.int .i64 (22 : Int)))] : Tm) = halterref26_Of.R r ∧ ([] : List Box) = [])))))))))))))) ∧ ((decide (a0 < (1 : Int))) = true → ((decide (a0 < (1 : Int))) = true ∧ ((decide (a0 < (1 : Int))) = true ∧ (true = true ∧ (true = true ∧ (true = true ∧ (true = true ∧ (true = true ∧ (true = true ∧ (true = true ∧ (True ∧ (True ∧ ((True) ∧ (True) ∧ (.tup [.one (.sc (.int .u32 (0 : Int))), .one (.sc (.int .i64 (22 : Int)))] : Tm) = halterref26_Of.R r ∧ ([] : List Box) = [])))))))))))))))))))))) ∧ ((a0 == (0 : Int)) = false → ((a0 == (0 : Int)) = false ∧ ((a0 == (0 : Int)) = false ∧ (false = false ∧ (false = false ∧ (false = false ∧ (false = false ∧ (True) ∧ (((decide (a0 < (1 : Int))) = false → ((decide (a0 < (1 : Int))) = false ∧ (True) ∧ ((decide (a0 < (1 : Int))) = false ∧ (((decide (a0 > (3 : Int))) = false → ((decide (a0 > (3 : Int))) = false ∧ (True) ∧ ((decide (a0 > (3 : Int))) = false ∧ (((decide (a1 < (1 : Int))) = false → ((decide (a1 < (1 : Int))) = false ∧ (True) ∧ ((decide (a1 < (1 : Int))) = false ∧ (((decide (a1 > (31 : Int))) = true → (True ∧ (True ∧ ((True) ∧ (True) ∧ (.tup [.one (.sc (.int .u32 (0 : Int))), .one (.sc (.int .i64 (22 : Int)))] : Tm) = halterref26_Of.R r ∧ ([] : List Box) = [])))) ∧ ((decide (a1 > (31 : Int))) = false → (True) ∧ (((a0 == (1 : Int)) = true → (True ∧ (True) ∧ (True ∧ ((True) ∧ (True) ∧ (.tup [.one (.sc (.int .u32 (IntKind.wrap .u32 (a1)))), .one (.sc (.int .i64 (0 : Int)))] : Tm) = halterref26_Of.R r ∧ ([] : List Box) = [])))) ∧ ((a0 == (1 : Int)) = false → (True) ∧ (((a0 == (2 : Int)) = true → (True ∧ (True) ∧ (True) ∧ (True) ∧ (True ∧ ((True) ∧ (True) ∧ (.tup [.one (.sc (.int .u32 (IntKind.wrap .u32 ((IntKind.wrap .i64 ((IntKind.wrap .i64 ((256 : Int) * a1)) + (127 : Int))))))), .one (.sc (.int .i64 (0 : Int)))] : Tm) = halterref26_Of.R r ∧ ([] : List Box) = [])))) ∧ ((a0 == (2 : Int)) = false → (True ∧ (True ∧ (True) ∧ (True) ∧ (True) ∧ (True) ∧ (True ∧ ((True) ∧ (True) ∧ (.tup [.one (.sc (.int .u32 (IntKind.wrap .u32 ((IntKind.wrap .i64 ((IntKind.wrap .i64 ((256 : Int) * (IntKind.wrap .i64 (a1 + (128 : Int))))) + (127 : Int))))))), .one (.sc (.int .i64 (0 : Int)))] : Tm) = halterref26_Of.R r ∧ ([] : List Box) = []))))))))))))) ∧ ((decide (a1 < (1 : Int))) = true → ((decide (a1 < (1 : Int))) = true ∧ ((decide (a1 < (1 : Int))) = true ∧ (true = true ∧ (True ∧ (True ∧ ((True) ∧ (True) ∧ (.tup [.one (.sc (.int .u32 (0 : Int))), .one (.sc (.int .i64 (22 : Int)))] : Tm) = halterref26_Of.R r ∧ ([] : List Box) = []))))))))))) ∧ ((decide (a0 > (3 : Int))) = true → ((decide (a0 > (3 : Int))) = true ∧ ((decide (a0 > (3 : Int))) = true ∧ (true = true ∧ (true = true ∧ (true = true ∧ (true = true ∧ (True ∧ (True ∧ ((True) ∧ (True) ∧ (.tup [.one (.sc (.int .u32 (0 : Int))), .one (.sc (.int .i64 (22 : Int)))] : Tm) = halterref26_Of.R r ∧ ([] : List Box) = [])))))))))))))) ∧ ((decide (a0 < (1 : Int))) = true → ((decide (a0 < (1 : Int))) = true ∧ ((decide (a0 < (1 : Int))) = true ∧ (true = true ∧ (true = true ∧ (true = true ∧ (true = true ∧ (true = true ∧ (true = true ∧ (true = true ∧ (True ∧ (True ∧ ((True) ∧ (True) ∧ (.tup [.one (.sc (.int .u32 (0 : Int))), .one (.sc (.int .i64 (22 : Int)))] : Tm) = halterref26_Of.R r ∧ ([] : List Box) = []))))))))))))))))))))))) (by kernel_rfl) ?_)
  refine ⟨trivial, ?_⟩
  refine ⟨fun b1 => ?_, fun b1 => ?_⟩
  · rw [if_pos (beq_t b1)] at h
    refine ⟨b1, ?_⟩
    refine ⟨trivial, ?_⟩
    refine ⟨b1, ?_⟩
    refine ⟨fun b2 => ?_, fun b2 => ?_⟩
    · rw [if_pos (of_decide_eq_true b2)] at h
      refine ⟨b2, ?_⟩
      refine ⟨trivial, ?_⟩
      refine ⟨b2, ?_⟩
      refine ⟨fun b3 => ?_, fun b3 => ?_⟩
      · rw [if_pos (of_decide_eq_true b3)] at h
        refine ⟨trivial, ?_⟩
        refine ⟨trivial, ?_⟩
        refine ⟨trivial, ?_⟩
        refine ⟨trivial, ?_⟩
        obtain rfl := Option.some.inj h
        exact ⟨trivial, trivial, rfl, rfl⟩
      · rw [if_neg (of_decide_eq_false b3)] at h
        refine ⟨trivial, ?_⟩
        refine ⟨fun b4 => ?_, fun b4 => ?_⟩
        · rw [if_neg (of_decide_eq_false b4)] at h
          refine ⟨b4, ?_⟩
          refine ⟨trivial, ?_⟩
          refine ⟨b4, ?_⟩
          refine ⟨fun b5 => ?_, fun b5 => ?_⟩
          · rw [if_neg (of_decide_eq_false b5)] at h
            refine ⟨b5, ?_⟩
            refine ⟨trivial, ?_⟩
            refine ⟨b5, ?_⟩
            refine ⟨fun b6 => ?_, fun b6 => ?_⟩
            · rw [if_neg (of_decide_eq_false b6)] at h
              refine ⟨b6, ?_⟩
              refine ⟨trivial, ?_⟩
              refine ⟨b6, ?_⟩
              refine ⟨fun b7 => ?_, fun b7 => ?_⟩
              · rw [if_pos (of_decide_eq_true b7)] at h
                refine ⟨trivial, ?_⟩
                refine ⟨trivial, ?_⟩
                obtain rfl := Option.some.inj h
                exact ⟨trivial, trivial, rfl, rfl⟩
              · rw [if_neg (of_decide_eq_false b7)] at h
                refine ⟨trivial, ?_⟩
                refine ⟨fun b8 => ?_, fun b8 => ?_⟩
                · rw [if_pos (beq_t b8)] at h
                  refine ⟨trivial, ?_⟩
                  refine ⟨trivial, ?_⟩
                  refine ⟨trivial, ?_⟩
                  obtain rfl := Option.some.inj h
                  exact ⟨trivial, trivial, rfl, rfl⟩
                · rw [if_neg (beq_f b8)] at h
                  refine ⟨trivial, ?_⟩
                  refine ⟨fun b9 => ?_, fun b9 => ?_⟩
                  · rw [if_pos (beq_t b9)] at h
                    refine ⟨trivial, ?_⟩
                    refine ⟨trivial, ?_⟩
                    refine ⟨trivial, ?_⟩
                    refine ⟨trivial, ?_⟩
                    refine ⟨trivial, ?_⟩
                    obtain rfl := Option.some.inj h
                    exact ⟨trivial, trivial, rfl, rfl⟩
                  · rw [if_neg (beq_f b9)] at h
                    refine ⟨trivial, ?_⟩
                    refine ⟨trivial, ?_⟩
                    refine ⟨trivial, ?_⟩
                    refine ⟨trivial, ?_⟩
                    refine ⟨trivial, ?_⟩
                    refine ⟨trivial, ?_⟩
                    refine ⟨trivial, ?_⟩
                    obtain rfl := Option.some.inj h
                    exact ⟨trivial, trivial, rfl, rfl⟩
            · rw [if_pos (of_decide_eq_true b6)] at h
              refine ⟨b6, ?_⟩
              refine ⟨b6, ?_⟩
              refine ⟨rfl, ?_⟩
              refine ⟨trivial, ?_⟩
              refine ⟨trivial, ?_⟩
              obtain rfl := Option.some.inj h
              exact ⟨trivial, trivial, rfl, rfl⟩
          · rw [if_pos (of_decide_eq_true b5)] at h
            refine ⟨b5, ?_⟩
            refine ⟨b5, ?_⟩
            refine ⟨rfl, ?_⟩
            refine ⟨rfl, ?_⟩
            refine ⟨rfl, ?_⟩
            refine ⟨rfl, ?_⟩
            refine ⟨trivial, ?_⟩
            refine ⟨trivial, ?_⟩
            obtain rfl := Option.some.inj h
            exact ⟨trivial, trivial, rfl, rfl⟩
        · rw [if_pos (of_decide_eq_true b4)] at h
          refine ⟨b4, ?_⟩
          refine ⟨b4, ?_⟩
          refine ⟨rfl, ?_⟩
          refine ⟨rfl, ?_⟩
          refine ⟨rfl, ?_⟩
          refine ⟨rfl, ?_⟩
          refine ⟨rfl, ?_⟩
          refine ⟨rfl, ?_⟩
          refine ⟨rfl, ?_⟩
          refine ⟨trivial, ?_⟩
          refine ⟨trivial, ?_⟩
          obtain rfl := Option.some.inj h
          exact ⟨trivial, trivial, rfl, rfl⟩
    · rw [if_neg (of_decide_eq_false b2)] at h
      refine ⟨b2, ?_⟩
      refine ⟨b2, ?_⟩
      refine ⟨rfl, ?_⟩
      refine ⟨trivial, ?_⟩
      refine ⟨fun b10 => ?_, fun b10 => ?_⟩
      · rw [if_neg (of_decide_eq_false b10)] at h
        refine ⟨b10, ?_⟩
        refine ⟨trivial, ?_⟩
        refine ⟨b10, ?_⟩
        refine ⟨fun b11 => ?_, fun b11 => ?_⟩
        · rw [if_neg (of_decide_eq_false b11)] at h
          refine ⟨b11, ?_⟩
          refine ⟨trivial, ?_⟩
          refine ⟨b11, ?_⟩
          refine ⟨fun b12 => ?_, fun b12 => ?_⟩
          · rw [if_neg (of_decide_eq_false b12)] at h
            refine ⟨b12, ?_⟩
            refine ⟨trivial, ?_⟩
            refine ⟨b12, ?_⟩
            refine ⟨fun b13 => ?_, fun b13 => ?_⟩
            · rw [if_pos (of_decide_eq_true b13)] at h
              refine ⟨trivial, ?_⟩
              refine ⟨trivial, ?_⟩
              obtain rfl := Option.some.inj h
              exact ⟨trivial, trivial, rfl, rfl⟩
            · rw [if_neg (of_decide_eq_false b13)] at h
              refine ⟨trivial, ?_⟩
              refine ⟨fun b14 => ?_, fun b14 => ?_⟩
              · rw [if_pos (beq_t b14)] at h
                refine ⟨trivial, ?_⟩
                refine ⟨trivial, ?_⟩
                refine ⟨trivial, ?_⟩
                obtain rfl := Option.some.inj h
                exact ⟨trivial, trivial, rfl, rfl⟩
              · rw [if_neg (beq_f b14)] at h
                refine ⟨trivial, ?_⟩
                refine ⟨fun b15 => ?_, fun b15 => ?_⟩
                · rw [if_pos (beq_t b15)] at h
                  refine ⟨trivial, ?_⟩
                  refine ⟨trivial, ?_⟩
                  refine ⟨trivial, ?_⟩
                  refine ⟨trivial, ?_⟩
                  refine ⟨trivial, ?_⟩
                  obtain rfl := Option.some.inj h
                  exact ⟨trivial, trivial, rfl, rfl⟩
                · rw [if_neg (beq_f b15)] at h
                  refine ⟨trivial, ?_⟩
                  refine ⟨trivial, ?_⟩
                  refine ⟨trivial, ?_⟩
                  refine ⟨trivial, ?_⟩
                  refine ⟨trivial, ?_⟩
                  refine ⟨trivial, ?_⟩
                  refine ⟨trivial, ?_⟩
                  obtain rfl := Option.some.inj h
                  exact ⟨trivial, trivial, rfl, rfl⟩
          · rw [if_pos (of_decide_eq_true b12)] at h
            refine ⟨b12, ?_⟩
            refine ⟨b12, ?_⟩
            refine ⟨rfl, ?_⟩
            refine ⟨trivial, ?_⟩
            refine ⟨trivial, ?_⟩
            obtain rfl := Option.some.inj h
            exact ⟨trivial, trivial, rfl, rfl⟩
        · rw [if_pos (of_decide_eq_true b11)] at h
          refine ⟨b11, ?_⟩
          refine ⟨b11, ?_⟩
          refine ⟨rfl, ?_⟩
          refine ⟨rfl, ?_⟩
          refine ⟨rfl, ?_⟩
          refine ⟨rfl, ?_⟩
          refine ⟨trivial, ?_⟩
          refine ⟨trivial, ?_⟩
          obtain rfl := Option.some.inj h
          exact ⟨trivial, trivial, rfl, rfl⟩
      · rw [if_pos (of_decide_eq_true b10)] at h
        refine ⟨b10, ?_⟩
        refine ⟨b10, ?_⟩
        refine ⟨rfl, ?_⟩
        refine ⟨rfl, ?_⟩
        refine ⟨rfl, ?_⟩
        refine ⟨rfl, ?_⟩
        refine ⟨rfl, ?_⟩
        refine ⟨rfl, ?_⟩
        refine ⟨rfl, ?_⟩
        refine ⟨trivial, ?_⟩
        refine ⟨trivial, ?_⟩
        obtain rfl := Option.some.inj h
        exact ⟨trivial, trivial, rfl, rfl⟩
  · rw [if_neg (beq_f b1)] at h
    refine ⟨b1, ?_⟩
    refine ⟨b1, ?_⟩
    refine ⟨rfl, ?_⟩
    refine ⟨rfl, ?_⟩
    refine ⟨rfl, ?_⟩
    refine ⟨rfl, ?_⟩
    refine ⟨trivial, ?_⟩
    refine ⟨fun b16 => ?_, fun b16 => ?_⟩
    · rw [if_neg (of_decide_eq_false b16)] at h
      refine ⟨b16, ?_⟩
      refine ⟨trivial, ?_⟩
      refine ⟨b16, ?_⟩
      refine ⟨fun b17 => ?_, fun b17 => ?_⟩
      · rw [if_neg (of_decide_eq_false b17)] at h
        refine ⟨b17, ?_⟩
        refine ⟨trivial, ?_⟩
        refine ⟨b17, ?_⟩
        refine ⟨fun b18 => ?_, fun b18 => ?_⟩
        · rw [if_neg (of_decide_eq_false b18)] at h
          refine ⟨b18, ?_⟩
          refine ⟨trivial, ?_⟩
          refine ⟨b18, ?_⟩
          refine ⟨fun b19 => ?_, fun b19 => ?_⟩
          · rw [if_pos (of_decide_eq_true b19)] at h
            refine ⟨trivial, ?_⟩
            refine ⟨trivial, ?_⟩
            obtain rfl := Option.some.inj h
            exact ⟨trivial, trivial, rfl, rfl⟩
          · rw [if_neg (of_decide_eq_false b19)] at h
            refine ⟨trivial, ?_⟩
            refine ⟨fun b20 => ?_, fun b20 => ?_⟩
            · rw [if_pos (beq_t b20)] at h
              refine ⟨trivial, ?_⟩
              refine ⟨trivial, ?_⟩
              refine ⟨trivial, ?_⟩
              obtain rfl := Option.some.inj h
              exact ⟨trivial, trivial, rfl, rfl⟩
            · rw [if_neg (beq_f b20)] at h
              refine ⟨trivial, ?_⟩
              refine ⟨fun b21 => ?_, fun b21 => ?_⟩
              · rw [if_pos (beq_t b21)] at h
                refine ⟨trivial, ?_⟩
                refine ⟨trivial, ?_⟩
                refine ⟨trivial, ?_⟩
                refine ⟨trivial, ?_⟩
                refine ⟨trivial, ?_⟩
                obtain rfl := Option.some.inj h
                exact ⟨trivial, trivial, rfl, rfl⟩
              · rw [if_neg (beq_f b21)] at h
                refine ⟨trivial, ?_⟩
                refine ⟨trivial, ?_⟩
                refine ⟨trivial, ?_⟩
                refine ⟨trivial, ?_⟩
                refine ⟨trivial, ?_⟩
                refine ⟨trivial, ?_⟩
                refine ⟨trivial, ?_⟩
                obtain rfl := Option.some.inj h
                exact ⟨trivial, trivial, rfl, rfl⟩
        · rw [if_pos (of_decide_eq_true b18)] at h
          refine ⟨b18, ?_⟩
          refine ⟨b18, ?_⟩
          refine ⟨rfl, ?_⟩
          refine ⟨trivial, ?_⟩
          refine ⟨trivial, ?_⟩
          obtain rfl := Option.some.inj h
          exact ⟨trivial, trivial, rfl, rfl⟩
      · rw [if_pos (of_decide_eq_true b17)] at h
        refine ⟨b17, ?_⟩
        refine ⟨b17, ?_⟩
        refine ⟨rfl, ?_⟩
        refine ⟨rfl, ?_⟩
        refine ⟨rfl, ?_⟩
        refine ⟨rfl, ?_⟩
        refine ⟨trivial, ?_⟩
        refine ⟨trivial, ?_⟩
        obtain rfl := Option.some.inj h
        exact ⟨trivial, trivial, rfl, rfl⟩
    · rw [if_pos (of_decide_eq_true b16)] at h
      refine ⟨b16, ?_⟩
      refine ⟨b16, ?_⟩
      refine ⟨rfl, ?_⟩
      refine ⟨rfl, ?_⟩
      refine ⟨rfl, ?_⟩
      refine ⟨rfl, ?_⟩
      refine ⟨rfl, ?_⟩
      refine ⟨rfl, ?_⟩
      refine ⟨rfl, ?_⟩
      refine ⟨trivial, ?_⟩
      refine ⟨trivial, ?_⟩
      obtain rfl := Option.some.inj h
      exact ⟨trivial, trivial, rfl, rfl⟩
/-! halter/pids.Check -/
def pids_Check.f (a0 : Int) : Option (Option Int) :=
  if a0 < (1 : Int) then
    some (some (22 : Int))
  else
    if a0 > (99 : Int) then
      some (some (22 : Int))
    else
      some none
def pids_Check.R (r : (Option Int)) : Tm := .v (.one (.err r))
theorem pids_Check.fun_ {a0 : Int} {r : (Option Int)} (h : pids_Check.f a0 = some r) : Fun cfg 22 [.one (.sc (.int .i64 a0))] [] (pids_Check.R r) [] := by
  unfold pids_Check.f at h
  refine fun_of_run cfg_ok (f := 22) (fn := Tryd.f22) Tryd.func22 rfl (by kernel_rfl) (rs := [.tmp 2]) rfl (nt := 10) rfl (l := fin) (k := (.br (.one true (.one true (.one true (.adj [] (.adj [] (.adj [] .nil)))))) (.one false (.one false (.br (.adj [] (.adj [] (.adj [] .nil))) (.adj [] (.adj [] (.adj [] (.adj [] .nil))))))))) (to_goal (q := (True) ∧ (((decide (a0 < (1 : Int))) = false → ((decide (a0 < (1 : Int))) = false ∧ (True) ∧ ((decide (a0 < (1 : Int))) = false ∧ (((decide (a0 > (99 : Int))) = true → (True ∧ (True ∧ ((True) ∧ (True) ∧ (.v (.one (.err (some (22 : Int)))) : Tm) = pids_Check.R r ∧ ([] : List Box) = [])))) ∧ ((decide (a0 > (99 : Int))) = false → (True ∧ (True ∧ (True ∧ ((True) ∧ (True) ∧ (.v (.one (.err none)) : Tm) = pids_Check.R r ∧ ([] : List Box) = []))))))))) ∧ ((decide (a0 < (1 : Int))) = true → ((decide (a0 < (1 : Int))) = true ∧ ((decide (a0 < (1 : Int))) = true ∧ (true = true ∧ (True ∧ (True ∧ ((True) ∧ (True) ∧ (.v (.one (.err (some (22 : Int)))) : Tm) = pids_Check.R r ∧ ([] : List Box) = []))))))))) (by kernel_rfl) ?_)
  refine ⟨trivial, ?_⟩
  refine ⟨fun b1 => ?_, fun b1 => ?_⟩
  · rw [if_neg (of_decide_eq_false b1)] at h
    refine ⟨b1, ?_⟩
    refine ⟨trivial, ?_⟩
    refine ⟨b1, ?_⟩
    refine ⟨fun b2 => ?_, fun b2 => ?_⟩
    · rw [if_pos (of_decide_eq_true b2)] at h
      refine ⟨trivial, ?_⟩
      refine ⟨trivial, ?_⟩
      obtain rfl := Option.some.inj h
      exact ⟨trivial, trivial, rfl, rfl⟩
    · rw [if_neg (of_decide_eq_false b2)] at h
      refine ⟨trivial, ?_⟩
      refine ⟨trivial, ?_⟩
      refine ⟨trivial, ?_⟩
      obtain rfl := Option.some.inj h
      exact ⟨trivial, trivial, rfl, rfl⟩
  · rw [if_pos (of_decide_eq_true b1)] at h
    refine ⟨b1, ?_⟩
    refine ⟨b1, ?_⟩
    refine ⟨rfl, ?_⟩
    refine ⟨trivial, ?_⟩
    refine ⟨trivial, ?_⟩
    obtain rfl := Option.some.inj h
    exact ⟨trivial, trivial, rfl, rfl⟩
/-! halter/trace.mode -/
def trace_mode.f (a0 : Int) : Option Bool :=
  if a0 ≥ (0 : Int) then
    some (decide (a0 ≤ (2 : Int)))
  else
    some false
def trace_mode.R (r : Bool) : Tm := .v (.one (.sc (.bool r)))
theorem trace_mode.fun_ {a0 : Int} {r : Bool} (h : trace_mode.f a0 = some r) : Fun cfg 25 [.one (.sc (.int .i64 a0))] [] (trace_mode.R r) [] := by
  unfold trace_mode.f at h
  refine fun_of_run cfg_ok (f := 25) (fn := Tryd.f25) Tryd.func25 rfl (by kernel_rfl) (rs := [.tmp 2]) rfl (nt := 9) rfl (l := fin) (k := (.br (.one true (.one true (.adj [] (.adj [] .nil)))) (.one false (.one false (.adj [] (.adj [] .nil)))))) (to_goal (q := (True) ∧ (((decide (a0 ≥ (0 : Int))) = true → ((decide (a0 ≥ (0 : Int))) = true ∧ (True) ∧ ((decide (a0 ≥ (0 : Int))) = true ∧ (True ∧ ((True) ∧ (True) ∧ (.v (.one (.sc (.bool (decide (a0 ≤ (2 : Int)))))) : Tm) = trace_mode.R r ∧ ([] : List Box) = []))))) ∧ ((decide (a0 ≥ (0 : Int))) = false → ((decide (a0 ≥ (0 : Int))) = false ∧ ((decide (a0 ≥ (0 : Int))) = false ∧ (True ∧ ((True) ∧ (True) ∧ (.v (.one (.sc (.bool false))) : Tm) = trace_mode.R r ∧ ([] : List Box) = []))))))) (by kernel_rfl) ?_)
  refine ⟨trivial, ?_⟩
  refine ⟨fun b1 => ?_, fun b1 => ?_⟩
  · rw [if_pos (of_decide_eq_true b1)] at h
    refine ⟨b1, ?_⟩
    refine ⟨trivial, ?_⟩
    refine ⟨b1, ?_⟩
    refine ⟨trivial, ?_⟩
    obtain rfl := Option.some.inj h
    exact ⟨trivial, trivial, rfl, rfl⟩
  · rw [if_neg (of_decide_eq_false b1)] at h
    refine ⟨b1, ?_⟩
    refine ⟨b1, ?_⟩
    refine ⟨trivial, ?_⟩
    obtain rfl := Option.some.inj h
    exact ⟨trivial, trivial, rfl, rfl⟩
/-! halter/trace.signal -/
def trace_signal.f (a0 : Int) : Option Bool :=
  if a0 ≥ (0 : Int) then
    some (decide (a0 ≤ (31 : Int)))
  else
    some false
def trace_signal.R (r : Bool) : Tm := .v (.one (.sc (.bool r)))
theorem trace_signal.fun_ {a0 : Int} {r : Bool} (h : trace_signal.f a0 = some r) : Fun cfg 26 [.one (.sc (.int .i64 a0))] [] (trace_signal.R r) [] := by
  unfold trace_signal.f at h
  refine fun_of_run cfg_ok (f := 26) (fn := Tryd.f26) Tryd.func26 rfl (by kernel_rfl) (rs := [.tmp 2]) rfl (nt := 9) rfl (l := fin) (k := (.br (.one true (.one true (.adj [] (.adj [] .nil)))) (.one false (.one false (.adj [] (.adj [] .nil)))))) (to_goal (q := (True) ∧ (((decide (a0 ≥ (0 : Int))) = true → ((decide (a0 ≥ (0 : Int))) = true ∧ (True) ∧ ((decide (a0 ≥ (0 : Int))) = true ∧ (True ∧ ((True) ∧ (True) ∧ (.v (.one (.sc (.bool (decide (a0 ≤ (31 : Int)))))) : Tm) = trace_signal.R r ∧ ([] : List Box) = []))))) ∧ ((decide (a0 ≥ (0 : Int))) = false → ((decide (a0 ≥ (0 : Int))) = false ∧ ((decide (a0 ≥ (0 : Int))) = false ∧ (True ∧ ((True) ∧ (True) ∧ (.v (.one (.sc (.bool false))) : Tm) = trace_signal.R r ∧ ([] : List Box) = []))))))) (by kernel_rfl) ?_)
  refine ⟨trivial, ?_⟩
  refine ⟨fun b1 => ?_, fun b1 => ?_⟩
  · rw [if_pos (of_decide_eq_true b1)] at h
    refine ⟨b1, ?_⟩
    refine ⟨trivial, ?_⟩
    refine ⟨b1, ?_⟩
    refine ⟨trivial, ?_⟩
    obtain rfl := Option.some.inj h
    exact ⟨trivial, trivial, rfl, rfl⟩
  · rw [if_neg (of_decide_eq_false b1)] at h
    refine ⟨b1, ?_⟩
    refine ⟨b1, ?_⟩
    refine ⟨trivial, ?_⟩
    obtain rfl := Option.some.inj h
    exact ⟨trivial, trivial, rfl, rfl⟩
/-! halter/status.kind -/
def status_kind.f (a0 : Int) : Option (Int × Int) :=
  if (Int.tmod a0 (256 : Int)) = (0 : Int) then
    some ((0 : Int), (IntKind.wrap .i64 ((shr .u32 a0 (8 : Int)))))
  else
    if ¬ (Int.tmod a0 (256 : Int)) = (127 : Int) then
      some ((1 : Int), (IntKind.wrap .i64 (a0)))
    else
      if ¬ (bits .and .i64 (IntKind.wrap .i64 ((shr .u32 a0 (8 : Int)))) (128 : Int)) = (0 : Int) then
        some ((3 : Int), (bits .andNot .i64 (IntKind.wrap .i64 ((shr .u32 a0 (8 : Int)))) (128 : Int)))
      else
        some ((2 : Int), (IntKind.wrap .i64 ((shr .u32 a0 (8 : Int)))))
def status_kind.R (r : Int × Int) : Tm := .tup [.one (.sc (.int .i64 r.1)), .one (.sc (.int .i64 r.2))]
theorem status_kind.fun_ {a0 : Int} {r : Int × Int} (h : status_kind.f a0 = some r) : Fun cfg 34 [.one (.sc (.int .u32 a0))] [] (status_kind.R r) [] := by
  unfold status_kind.f at h
  refine fun_of_run cfg_ok (f := 34) (fn := Tryd.f34) Tryd.func34 rfl (by kernel_rfl) (rs := [.tmp 2, .tmp 3]) rfl (nt := 27) rfl (l := fin) (k := (.br (.adj [] (.adj [] (.adj [] .nil))) (.br (.adj [] (.adj [] (.adj [] .nil))) (.br (.adj [] (.adj [] (.adj [] .nil))) (.adj [] (.adj [] (.adj [] (.adj [] .nil)))))))) (to_goal (q := ((256 : Int) ≠ 0) ∧ (0 ≤ (8 : Int)) ∧ (True) ∧ (True) ∧ ((((Int.tmod a0 (256 : Int)) == (0 : Int)) = true → (True ∧ (True ∧ ((True) ∧ (True) ∧ (.tup [.one (.sc (.int .i64 (0 : Int))), .one (.sc (.int .i64 (IntKind.wrap .i64 ((shr .u32 a0 (8 : Int))))))] : Tm) = status_kind.R r ∧ ([] : List Box) = [])))) ∧ (((Int.tmod a0 (256 : Int)) == (0 : Int)) = false → (True) ∧ ((((Int.tmod a0 (256 : Int)) != (127 : Int)) = true → (True ∧ (True) ∧ (True ∧ ((True) ∧ (True) ∧ (.tup [.one (.sc (.int .i64 (1 : Int))), .one (.sc (.int .i64 (IntKind.wrap .i64 (a0))))] : Tm) = status_kind.R r ∧ ([] : List Box) = [])))) ∧ (((Int.tmod a0 (256 : Int)) != (127 : Int)) = false → (True) ∧ (True) ∧ ((((bits .and .i64 (IntKind.wrap .i64 ((shr .u32 a0 (8 : Int)))) (128 : Int)) != (0 : Int)) = true → (True ∧ (True) ∧ (True ∧ ((True) ∧ (True) ∧ (.tup [.one (.sc (.int .i64 (3 : Int))), .one (.sc (.int .i64 (bits .andNot .i64 (IntKind.wrap .i64 ((shr .u32 a0 (8 : Int)))) (128 : Int))))] : Tm) = status_kind.R r ∧ ([] : List Box) = [])))) ∧ (((bits .and .i64 (IntKind.wrap .i64 ((shr .u32 a0 (8 : Int)))) (128 : Int)) != (0 : Int)) = false → (True ∧ (True ∧ (True ∧ ((True) ∧ (True) ∧ (.tup [.one (.sc (.int .i64 (2 : Int))), .one (.sc (.int .i64 (IntKind.wrap .i64 ((shr .u32 a0 (8 : Int))))))] : Tm) = status_kind.R r ∧ ([] : List Box) = []))))))))))) (by kernel_rfl) ?_)
  refine ⟨(by decide), ?_⟩
  refine ⟨(by decide), ?_⟩
  refine ⟨trivial, ?_⟩
  refine ⟨trivial, ?_⟩
  refine ⟨fun b1 => ?_, fun b1 => ?_⟩
  · rw [if_pos (beq_t b1)] at h
    refine ⟨trivial, ?_⟩
    refine ⟨trivial, ?_⟩
    obtain rfl := Option.some.inj h
    exact ⟨trivial, trivial, rfl, rfl⟩
  · rw [if_neg (beq_f b1)] at h
    refine ⟨trivial, ?_⟩
    refine ⟨fun b2 => ?_, fun b2 => ?_⟩
    · rw [if_pos (bne_t b2)] at h
      refine ⟨trivial, ?_⟩
      refine ⟨trivial, ?_⟩
      refine ⟨trivial, ?_⟩
      obtain rfl := Option.some.inj h
      exact ⟨trivial, trivial, rfl, rfl⟩
    · rw [if_neg (not_not_intro (bne_f b2))] at h
      refine ⟨trivial, ?_⟩
      refine ⟨trivial, ?_⟩
      refine ⟨fun b3 => ?_, fun b3 => ?_⟩
      · rw [if_pos (bne_t b3)] at h
        refine ⟨trivial, ?_⟩
        refine ⟨trivial, ?_⟩
        refine ⟨trivial, ?_⟩
        obtain rfl := Option.some.inj h
        exact ⟨trivial, trivial, rfl, rfl⟩
      · rw [if_neg (not_not_intro (bne_f b3))] at h
        refine ⟨trivial, ?_⟩
        refine ⟨trivial, ?_⟩
        refine ⟨trivial, ?_⟩
        obtain rfl := Option.some.inj h
        exact ⟨trivial, trivial, rfl, rfl⟩
/-! halter/status.signal -/
def status_signal.f (a0 : Int) : Option Bool :=
  if a0 ≥ (1 : Int) then
    some (decide (a0 ≤ (31 : Int)))
  else
    some false
def status_signal.R (r : Bool) : Tm := .v (.one (.sc (.bool r)))
theorem status_signal.fun_ {a0 : Int} {r : Bool} (h : status_signal.f a0 = some r) : Fun cfg 39 [.one (.sc (.int .i64 a0))] [] (status_signal.R r) [] := by
  unfold status_signal.f at h
  refine fun_of_run cfg_ok (f := 39) (fn := Tryd.f39) Tryd.func39 rfl (by kernel_rfl) (rs := [.tmp 2]) rfl (nt := 9) rfl (l := fin) (k := (.br (.one true (.one true (.adj [] (.adj [] .nil)))) (.one false (.one false (.adj [] (.adj [] .nil)))))) (to_goal (q := (True) ∧ (((decide (a0 ≥ (1 : Int))) = true → ((decide (a0 ≥ (1 : Int))) = true ∧ (True) ∧ ((decide (a0 ≥ (1 : Int))) = true ∧ (True ∧ ((True) ∧ (True) ∧ (.v (.one (.sc (.bool (decide (a0 ≤ (31 : Int)))))) : Tm) = status_signal.R r ∧ ([] : List Box) = []))))) ∧ ((decide (a0 ≥ (1 : Int))) = false → ((decide (a0 ≥ (1 : Int))) = false ∧ ((decide (a0 ≥ (1 : Int))) = false ∧ (True ∧ ((True) ∧ (True) ∧ (.v (.one (.sc (.bool false))) : Tm) = status_signal.R r ∧ ([] : List Box) = []))))))) (by kernel_rfl) ?_)
  refine ⟨trivial, ?_⟩
  refine ⟨fun b1 => ?_, fun b1 => ?_⟩
  · rw [if_pos (of_decide_eq_true b1)] at h
    refine ⟨b1, ?_⟩
    refine ⟨trivial, ?_⟩
    refine ⟨b1, ?_⟩
    refine ⟨trivial, ?_⟩
    obtain rfl := Option.some.inj h
    exact ⟨trivial, trivial, rfl, rfl⟩
  · rw [if_neg (of_decide_eq_false b1)] at h
    refine ⟨b1, ?_⟩
    refine ⟨b1, ?_⟩
    refine ⟨trivial, ?_⟩
    obtain rfl := Option.some.inj h
    exact ⟨trivial, trivial, rfl, rfl⟩
/-! halter/status.Of -/
def status_Of.f (a0 : Int) (a1 : Int) : Option (Int × (Option Int)) :=
  if a0 = (0 : Int) then
    if a1 ≥ (0 : Int) then
      if a1 < (256 : Int) then
        some ((shl .u32 (IntKind.wrap .u32 (a1)) (8 : Int)), none)
      else
        if a0 = (1 : Int) then
          (status_signal.f a1).bind fun t5 =>
          if t5 = true then
            some ((IntKind.wrap .u32 (a1)), none)
          else
            if a0 = (2 : Int) then
              (status_signal.f a1).bind fun t8 =>
              if t8 = true then
                some ((bits .or .u32 (shl .u32 (IntKind.wrap .u32 (a1)) (8 : Int)) (127 : Int)), none)
              else
                if a0 = (3 : Int) then
                  (status_signal.f a1).bind fun t11 =>
                  if t11 = true then
                    some ((bits .or .u32 (shl .u32 (IntKind.wrap .u32 ((bits .or .i64 a1 (128 : Int)))) (8 : Int)) (127 : Int)), none)
                  else
                    some ((0 : Int), (some (22 : Int)))
                else
                  some ((0 : Int), (some (22 : Int)))
            else
              if a0 = (3 : Int) then
                (status_signal.f a1).bind fun t14 =>
                if t14 = true then
                  some ((bits .or .u32 (shl .u32 (IntKind.wrap .u32 ((bits .or .i64 a1 (128 : Int)))) (8 : Int)) (127 : Int)), none)
                else
                  some ((0 : Int), (some (22 : Int)))
              else
                some ((0 : Int), (some (22 : Int)))
        else
          if a0 = (2 : Int) then
            (status_signal.f a1).bind fun t17 =>
            if t17 = true then
              some ((bits .or .u32 (shl .u32 (IntKind.wrap .u32 (a1)) (8 : Int)) (127 : Int)), none)
            else
              if a0 = (3 : Int) then
                (status_signal.f a1).bind fun t20 =>
                if t20 = true then
                  some ((bits .or .u32 (shl .u32 (IntKind.wrap .u32 ((bits .or .i64 a1 (128 : Int)))) (8 : Int)) (127 : Int)), none)
                else
                  some ((0 : Int), (some (22 : Int)))
              else
                some ((0 : Int), (some (22 : Int)))
          else
            if a0 = (3 : Int) then
              (status_signal.f a1).bind fun t23 =>
              if t23 = true then
                some ((bits .or .u32 (shl .u32 (IntKind.wrap .u32 ((bits .or .i64 a1 (128 : Int)))) (8 : Int)) (127 : Int)), none)
              else
                some ((0 : Int), (some (22 : Int)))
            else
              some ((0 : Int), (some (22 : Int)))
    else
      if a0 = (1 : Int) then
        (status_signal.f a1).bind fun t26 =>
        if t26 = true then
          some ((IntKind.wrap .u32 (a1)), none)
        else
          if a0 = (2 : Int) then
            (status_signal.f a1).bind fun t29 =>
            if t29 = true then
              some ((bits .or .u32 (shl .u32 (IntKind.wrap .u32 (a1)) (8 : Int)) (127 : Int)), none)
            else
              if a0 = (3 : Int) then
                (status_signal.f a1).bind fun t32 =>
                if t32 = true then
                  some ((bits .or .u32 (shl .u32 (IntKind.wrap .u32 ((bits .or .i64 a1 (128 : Int)))) (8 : Int)) (127 : Int)), none)
                else
                  some ((0 : Int), (some (22 : Int)))
              else
                some ((0 : Int), (some (22 : Int)))
          else
            if a0 = (3 : Int) then
              (status_signal.f a1).bind fun t35 =>
              if t35 = true then
                some ((bits .or .u32 (shl .u32 (IntKind.wrap .u32 ((bits .or .i64 a1 (128 : Int)))) (8 : Int)) (127 : Int)), none)
              else
                some ((0 : Int), (some (22 : Int)))
            else
              some ((0 : Int), (some (22 : Int)))
      else
        if a0 = (2 : Int) then
          (status_signal.f a1).bind fun t38 =>
          if t38 = true then
            some ((bits .or .u32 (shl .u32 (IntKind.wrap .u32 (a1)) (8 : Int)) (127 : Int)), none)
          else
            if a0 = (3 : Int) then
              (status_signal.f a1).bind fun t41 =>
              if t41 = true then
                some ((bits .or .u32 (shl .u32 (IntKind.wrap .u32 ((bits .or .i64 a1 (128 : Int)))) (8 : Int)) (127 : Int)), none)
              else
                some ((0 : Int), (some (22 : Int)))
            else
              some ((0 : Int), (some (22 : Int)))
        else
          if a0 = (3 : Int) then
            (status_signal.f a1).bind fun t44 =>
            if t44 = true then
              some ((bits .or .u32 (shl .u32 (IntKind.wrap .u32 ((bits .or .i64 a1 (128 : Int)))) (8 : Int)) (127 : Int)), none)
            else
              some ((0 : Int), (some (22 : Int)))
          else
            some ((0 : Int), (some (22 : Int)))
  else
    if a0 = (1 : Int) then
      (status_signal.f a1).bind fun t47 =>
      if t47 = true then
        some ((IntKind.wrap .u32 (a1)), none)
      else
        if a0 = (2 : Int) then
          (status_signal.f a1).bind fun t50 =>
          if t50 = true then
            some ((bits .or .u32 (shl .u32 (IntKind.wrap .u32 (a1)) (8 : Int)) (127 : Int)), none)
          else
            if a0 = (3 : Int) then
              (status_signal.f a1).bind fun t53 =>
              if t53 = true then
                some ((bits .or .u32 (shl .u32 (IntKind.wrap .u32 ((bits .or .i64 a1 (128 : Int)))) (8 : Int)) (127 : Int)), none)
              else
                some ((0 : Int), (some (22 : Int)))
            else
              some ((0 : Int), (some (22 : Int)))
        else
          if a0 = (3 : Int) then
            (status_signal.f a1).bind fun t56 =>
            if t56 = true then
              some ((bits .or .u32 (shl .u32 (IntKind.wrap .u32 ((bits .or .i64 a1 (128 : Int)))) (8 : Int)) (127 : Int)), none)
            else
              some ((0 : Int), (some (22 : Int)))
          else
            some ((0 : Int), (some (22 : Int)))
    else
      if a0 = (2 : Int) then
        (status_signal.f a1).bind fun t59 =>
        if t59 = true then
          some ((bits .or .u32 (shl .u32 (IntKind.wrap .u32 (a1)) (8 : Int)) (127 : Int)), none)
        else
          if a0 = (3 : Int) then
            (status_signal.f a1).bind fun t62 =>
            if t62 = true then
              some ((bits .or .u32 (shl .u32 (IntKind.wrap .u32 ((bits .or .i64 a1 (128 : Int)))) (8 : Int)) (127 : Int)), none)
            else
              some ((0 : Int), (some (22 : Int)))
          else
            some ((0 : Int), (some (22 : Int)))
      else
        if a0 = (3 : Int) then
          (status_signal.f a1).bind fun t65 =>
          if t65 = true then
            some ((bits .or .u32 (shl .u32 (IntKind.wrap .u32 ((bits .or .i64 a1 (128 : Int)))) (8 : Int)) (127 : Int)), none)
          else
            some ((0 : Int), (some (22 : Int)))
        else
          some ((0 : Int), (some (22 : Int)))
def status_Of.R (r : Int × (Option Int)) : Tm := .tup [.one (.sc (.int .u32 r.1)), .one (.err r.2)]
theorem status_Of.fun_ {a0 : Int} {a1 : Int} {r : Int × (Option Int)} (h : status_Of.f a0 a1 = some r) : Fun cfg 35 [.one (.sc (.int .i64 a0)), .one (.sc (.int .i64 a1))] [] (status_Of.R r) [] := by
  unfold status_Of.f at h
  refine fun_of_run cfg_ok (f := 35) (fn := Tryd.f35) Tryd.func35 rfl (by kernel_rfl) (rs := [.tmp 4, .tmp 5]) rfl (nt := 53) rfl (l := fin) (k := (.br (.one true (.one true (.br (.one true (.one true (.br (.adj [] (.adj [] (.adj [] .nil))) (.br (.one true (.call true [] (Bool) (fun t5 => status_signal.R t5) (fun t5 => (.one true (.br (.adj [] (.adj [] (.adj [] .nil))) (.br (.one true (.call true [] (Bool) (fun t8 => status_signal.R t8) (fun t8 => (.one true (.br (.adj [] (.adj [] (.adj [] .nil))) (.br (.one true (.call true [] (Bool) (fun t11 => status_signal.R t11) (fun t11 => (.one true (.br (.adj [] (.adj [] (.adj [] .nil))) (.adj [] (.adj [] (.adj [] (.adj [] .nil))))))))) (.one false (.one false (.one false (.adj [] (.adj [] (.adj [] (.adj [] .nil))))))))))))) (.one false (.one false (.one false (.br (.one true (.call true [] (Bool) (fun t14 => status_signal.R t14) (fun t14 => (.one true (.br (.adj [] (.adj [] (.adj [] .nil))) (.adj [] (.adj [] (.adj [] (.adj [] .nil))))))))) (.one false (.one false (.one false (.adj [] (.adj [] (.adj [] (.adj [] .nil))))))))))))))))) (.one false (.one false (.one false (.br (.one true (.call true [] (Bool) (fun t17 => status_signal.R t17) (fun t17 => (.one true (.br (.adj [] (.adj [] (.adj [] .nil))) (.br (.one true (.call true [] (Bool) (fun t20 => status_signal.R t20) (fun t20 => (.one true (.br (.adj [] (.adj [] (.adj [] .nil))) (.adj [] (.adj [] (.adj [] (.adj [] .nil))))))))) (.one false (.one false (.one false (.adj [] (.adj [] (.adj [] (.adj [] .nil))))))))))))) (.one false (.one false (.one false (.br (.one true (.call true [] (Bool) (fun t23 => status_signal.R t23) (fun t23 => (.one true (.br (.adj [] (.adj [] (.adj [] .nil))) (.adj [] (.adj [] (.adj [] (.adj [] .nil))))))))) (.one false (.one false (.one false (.adj [] (.adj [] (.adj [] (.adj [] .nil))))))))))))))))))) (.one false (.one false (.one false (.br (.one true (.call true [] (Bool) (fun t26 => status_signal.R t26) (fun t26 => (.one true (.br (.adj [] (.adj [] (.adj [] .nil))) (.br (.one true (.call true [] (Bool) (fun t29 => status_signal.R t29) (fun t29 => (.one true (.br (.adj [] (.adj [] (.adj [] .nil))) (.br (.one true (.call true [] (Bool) (fun t32 => status_signal.R t32) (fun t32 => (.one true (.br (.adj [] (.adj [] (.adj [] .nil))) (.adj [] (.adj [] (.adj [] (.adj [] .nil))))))))) (.one false (.one false (.one false (.adj [] (.adj [] (.adj [] (.adj [] .nil))))))))))))) (.one false (.one false (.one false (.br (.one true (.call true [] (Bool) (fun t35 => status_signal.R t35) (fun t35 => (.one true (.br (.adj [] (.adj [] (.adj [] .nil))) (.adj [] (.adj [] (.adj [] (.adj [] .nil))))))))) (.one false (.one false (.one false (.adj [] (.adj [] (.adj [] (.adj [] .nil))))))))))))))))) (.one false (.one false (.one false (.br (.one true (.call true [] (Bool) (fun t38 => status_signal.R t38) (fun t38 => (.one true (.br (.adj [] (.adj [] (.adj [] .nil))) (.br (.one true (.call true [] (Bool) (fun t41 => status_signal.R t41) (fun t41 => (.one true (.br (.adj [] (.adj [] (.adj [] .nil))) (.adj [] (.adj [] (.adj [] (.adj [] .nil))))))))) (.one false (.one false (.one false (.adj [] (.adj [] (.adj [] (.adj [] .nil))))))))))))) (.one false (.one false (.one false (.br (.one true (.call true [] (Bool) (fun t44 => status_signal.R t44) (fun t44 => (.one true (.br (.adj [] (.adj [] (.adj [] .nil))) (.adj [] (.adj [] (.adj [] (.adj [] .nil))))))))) (.one false (.one false (.one false (.adj [] (.adj [] (.adj [] (.adj [] .nil)))))))))))))))))))))) (.one false (.one false (.one false (.one false (.one false (.one false (.br (.one true (.call true [] (Bool) (fun t47 => status_signal.R t47) (fun t47 => (.one true (.br (.adj [] (.adj [] (.adj [] .nil))) (.br (.one true (.call true [] (Bool) (fun t50 => status_signal.R t50) (fun t50 => (.one true (.br (.adj [] (.adj [] (.adj [] .nil))) (.br (.one true (.call true [] (Bool) (fun t53 => status_signal.R t53) (fun t53 => (.one true (.br (.adj [] (.adj [] (.adj [] .nil))) (.adj [] (.adj [] (.adj [] (.adj [] .nil))))))))) (.one false (.one false (.one false (.adj [] (.adj [] (.adj [] (.adj [] .nil))))))))))))) (.one false (.one false (.one false (.br (.one true (.call true [] (Bool) (fun t56 => status_signal.R t56) (fun t56 => (.one true (.br (.adj [] (.adj [] (.adj [] .nil))) (.adj [] (.adj [] (.adj [] (.adj [] .nil))))))))) (.one false (.one false (.one false (.adj [] (.adj [] (.adj [] (.adj [] .nil))))))))))))))))) (.one false (.one false (.one false (.br (.one true (.call true [] (Bool) (fun t59 => status_signal.R t59) (fun t59 => (.one true (.br (.adj [] (.adj [] (.adj [] .nil))) (.br (.one true (.call true [] (Bool) (fun t62 => status_signal.R t62) (fun t62 => (.one true (.br (.adj [] (.adj [] (.adj [] .nil))) (.adj [] (.adj [] (.adj [] (.adj [] .nil))))))))) (.one false (.one false (.one false (.adj [] (.adj [] (.adj [] (.adj [] .nil))))))))))))) (.one false (.one false (.one false (.br (.one true (.call true [] (Bool) (fun t65 => status_signal.R t65) (fun t65 => (.one true (.br (.adj [] (.adj [] (.adj [] .nil))) (.adj [] (.adj [] (.adj [] (.adj [] .nil))))))))) (.one false (.one false (.one false (.adj [] (.adj [] (.adj [] (.adj [] .nil)))))))))))))))))))))))) (to_goal (q := (True) ∧ (((a0 == (0 : Int)) = true → ((a0 == (0 : Int)) = true ∧ (True) ∧ ((a0 == (0 : Int)) = true ∧ (((decide (a1 ≥ (0 : Int))) = true → ((decide (a1 ≥ (0 : Int))) = true ∧ (True) ∧ ((decide (a1 ≥ (0 : Int))) = true ∧ (((decide (a1 < (256 : Int))) = true → (True ∧ (True) ∧ (0 ≤ (8 : Int)) ∧ (True ∧ ((True) ∧ (True) ∧ (.tup [.one (.sc (.int .u32 (shl .u32 (IntKind.wrap .u32 (a1)) (8 : Int)))), .one (.err none)] : Tm) = status_Of.R r ∧ ([] : List Box) = [])))) ∧ ((decide (a1 < (256 : Int))) = false → (True) ∧ (((a0 == (1 : Int)) = true → ((a0 == (1 : Int)) = true ∧ (∃ t5 : Bool, (Fun cfg 39 [.one (.sc (.int .i64 a1))] [] (status_signal.R t5) [] ∧ True) ∧ ((a0 == (1 : Int)) = true ∧ ((t5 = true → (True ∧ (True) ∧ (True ∧ ((True) ∧ (True) ∧ (.tup [.one (.sc (.int .u32 (IntKind.wrap .u32 (a1)))), .one (.err none)] : Tm) = status_Of.R r ∧ ([] : List Box) = [])))) ∧ (t5 = false → (True) ∧ (((a0 == (2 : Int)) = true → ((a0 == (2 : Int)) = true ∧ (∃ t8 : Bool, (Fun cfg 39 [.one (.sc (.int .i64 a1))] [] (status_signal.R t8) [] ∧ True) ∧ ((a0 == (2 : Int)) = true ∧ ((t8 = true → (True ∧ (True) ∧ (0 ≤ (8 : Int)) ∧ (True) ∧ (True ∧ ((True) ∧ (True) ∧ (.tup [.one (.sc (.int .u32 (bits .or .u32 (shl .u32 (IntKind.wrap .u32 (a1)) (8 : Int)) (127 : Int)))), .one (.err none)] : Tm) = status_Of.R r ∧ ([] : List Box) = [])))) ∧ (t8 = false → (True) ∧ (((a0 == (3 : Int)) = true → ((a0 == (3 : Int)) = true ∧ (∃ t11 : Bool, (Fun cfg 39 [.one (.sc (.int .i64 a1))] [] (status_signal.R t11) [] ∧ True) ∧ ((a0 == (3 : Int)) = true ∧ ((t11 = true → (True ∧ (True) ∧ (True) ∧ (0 ≤ (8 : Int)) ∧ (True) ∧ (True ∧ ((True) ∧ (True) ∧ (.tup [.one (.sc (.int .u32 (bits .or .u32 (shl .u32 (IntKind.wrap .u32 ((bits .or .i64 a1 (128 : Int)))) (8 : Int)) (127 : Int)))), .one (.err none)] : Tm) = status_Of.R r ∧ ([] : List Box) = [])))) ∧ (t11 = false → (True ∧ (True ∧ (True ∧ ((True) ∧ (True) ∧ (.tup [.one (.sc (.int .u32 (0 : Int))), .one (.err (some (22 : Int)))] : Tm) = status_Of.R r ∧ ([] : List Box) = [])))))))))) ∧ ((a0 == (3 : Int)) = false → ((a0 == (3 : Int)) = false ∧ ((a0 == (3 : Int)) = false ∧ (false = false ∧ (True ∧ (True ∧ (True ∧ ((True) ∧ (True) ∧ (.tup [.one (.sc (.int .u32 (0 : Int))), .one (.err (some (22 : Int)))] : Tm) = status_Of.R r ∧ ([] : List Box) = []))))))))))))))) ∧ ((a0 == (2 : Int)) = false → ((a0 == (2 : Int)) = false ∧ ((a0 == (2 : Int)) = false ∧ (false = false ∧ (True) ∧ (((a0 == (3 : Int)) = true → ((a0 == (3 : Int)) = true ∧ (∃ t14 : Bool, (Fun cfg 39 [.one (.sc (.int .i64 a1))] [] (status_signal.R t14) [] ∧ True) ∧ ((a0 == (3 : Int)) = true ∧ ((t14 = true → (True ∧ (True) ∧ (True) ∧ (0 ≤ (8 : Int)) ∧ (True) ∧ (True ∧ ((True) ∧ (True) ∧ (.tup [.one (.sc (.int .u32 (bits .or .u32 (shl .u32 (IntKind.wrap .u32 ((bits .or .i64 a1 (128 : Int)))) (8 : Int)) (127 : Int)))), .one (.err none)] : Tm) = status_Of.R r ∧ ([] : List Box) = [])))) ∧ (t14 = false → (True ∧ (True ∧ (True ∧ ((True) ∧ (True) ∧ (.tup [.one (.sc (.int .u32 (0 : Int))), .one (.err (some (22 : Int)))] : Tm) = status_Of.R r ∧ ([] : List Box) = [])))))))))) ∧ ((a0 == (3 : Int)) = false → ((a0 == (3 : Int)) = false ∧ ((a0 == (3 : Int)) = false ∧ (false = false ∧ (True ∧ (True ∧ (True ∧ ((True) ∧ (True) ∧ (.tup [.one (.sc (.int .u32 (0 : Int))), .one (.err (some (22 : Int)))] : Tm) = status_Of.R r ∧ ([] : List Box) = [])))))))))))))))))))) ∧ ((a0 == (1 : Int)) = false → ((a0 == (1 : Int)) = false ∧ ((a0 == (1 : Int)) = false ∧ (false = false ∧ (True) ∧ (((a0 == (2 : Int)) = true → ((a0 == (2 : Int)) = true ∧ (∃ t17 : Bool, (Fun cfg 39 [.one (.sc (.int .i64 a1))] [] (status_signal.R t17) [] ∧ True) ∧ ((a0 == (2 : Int)) = true ∧ ((t17 = true → (True ∧ (True) ∧ (0 ≤ (8 : Int)) ∧ (True) ∧ (True ∧ ((True) ∧ (True) ∧ (.tup [.one (.sc (.int .u32 (bits .or .u32 (shl .u32 (IntKind.wrap .u32 (a1)) (8 : Int)) (127 : Int)))), .one (.err none)] : Tm) = status_Of.R r ∧ ([] : List Box) = [])))) ∧ (t17 = false → (True) ∧ (((a0 == (3 : Int)) = true → ((a0 == (3 : Int)) = true ∧ (∃ t20 : Bool, (Fun cfg 39 [.one (.sc (.int .i64 a1))] [] (status_signal.R t20) [] ∧ True) ∧ ((a0 == (3 : Int)) = true ∧ ((t20 = true → (True ∧ (True) ∧ (True) ∧ (0 ≤ (8 : Int)) ∧ (True) ∧ (True ∧ ((True) ∧ (True) ∧ (.tup [.one (.sc (.int .u32 (bits .or .u32 (shl .u32 (IntKind.wrap .u32 ((bits .or .i64 a1 (128 : Int)))) (8 : Int)) (127 : Int)))), .one (.err none)] : Tm) = status_Of.R r ∧ ([] : List Box) = [])))) ∧ (t20 = false → (True ∧ (True ∧ (True ∧ ((True) ∧ (True) ∧ (.tup [.one (.sc (.int .u32 (0 : Int))), .one (.err (some (22 : Int)))] : Tm) = status_Of.R r ∧ ([] : List Box) = [])))))))))) ∧ ((a0 == (3 : Int)) = false → ((a0 == (3 : Int)) = false ∧ ((a0 == (3 : Int)) = false ∧ (false = false ∧ (True ∧ (True ∧ (True ∧ ((True) ∧ (True) ∧ (.tup [.one (.sc (.int .u32 (0 : Int))), .one (.err (some (22 : Int)))] : Tm) = status_Of.R r ∧ ([] : List Box) = []))))))))))))))) ∧ ((a0 == (2 : Int)) = false → ((a0 == (2 : Int)) = false ∧ ((a0 == (2 : Int)) = false ∧ (false = false ∧ (True) ∧ (((a0 == (3 : Int)) = true → ((a0 == (3 : Int)) = true ∧ (∃ t23 : Bool, (Fun cfg 39 [.one (.sc (.int .i64 a1))] [] (status_signal.R t23) [] ∧ True) ∧ ((a0 == (3 : Int)) = true ∧ ((t23 = true → (True ∧ (True) ∧ (True) ∧ (0 ≤ (8 : Int)) ∧ (True) ∧ (True ∧ ((True) ∧ (True) ∧ (.tup [.one (.sc (.int .u32 (bits .or .u32 (shl .u32 (IntKind.wrap .u32 ((bits .or .i64 a1 (128 : Int)))) (8 : Int)) (127 : Int)))), .one (.err none)] : Tm) = status_Of.R r ∧ ([] : List Box) = [])))) ∧ (t23 = false → (True ∧ (True ∧ (True ∧ ((True) ∧ (True) ∧ (.tup [.one (.sc (.int .u32 (0 : Int))), .one (.err (some (22 : Int)))] : Tm) = status_Of.R r ∧ ([] : List Box) = [])))))))))) ∧ ((a0 == (3 : Int)) = false → ((a0 == (3 : Int)) = false ∧ ((a0 == (3 : Int)) = false ∧ (false = false ∧ (True ∧ (True ∧ (True ∧ ((True) ∧ (True) ∧ (.tup [.one (.sc (.int .u32 (0 : Int))), .one (.err (some (22 : Int)))] : Tm) = status_Of.R r ∧ ([] : List Box) = [])))))))))))))))))))))))) ∧ ((decide (a1 ≥ (0 : Int))) = false → ((decide (a1 ≥ (0 : Int))) = false ∧ ((decide (a1 ≥ (0 : Int))) = false ∧ (false = false ∧ (True) ∧ (((a0 == (1 : Int)) = true → ((a0 == (1 : Int)) = true ∧ (∃ t26 : Bool, (Fun cfg 39 [.one (.sc (.int .i64 a1))] [] (status_signal.R t26) [] ∧ True) ∧ ((a0 == (1 : Int)) = true ∧ ((t26 = true → (True ∧ (True) ∧ (True ∧ ((True) ∧ (True) ∧ (.tup [.one (.sc (.int .u32 (IntKind.wrap .u32 (a1)))), .one (.err none)] : Tm) = status_Of.R r ∧ ([] : List Box) = [])))) ∧ (t26 = false → (True) ∧ (((a0 == (2 : Int)) = true → ((a0 == (2 : Int)) = true ∧ (∃ t29 : Bool, (Fun cfg 39 [.one (.sc (.int .i64 a1))] [] (status_signal.R t29) [] ∧ True) ∧ ((a0 == (2 : Int)) = true ∧ ((t29 = true → (True ∧ (True) ∧ (0 ≤ (8 : Int)) ∧ (True) ∧ (True ∧ ((True) ∧ (True) ∧ (.tup [.one (.sc (.int .u32 (bits .or .u32 (shl .u32 (IntKind.wrap .u32 (a1)) (8 : Int)) (127 : Int)))), .one (.err none)] : Tm) = status_Of.R r ∧ ([] : List Box) = [])))) ∧ (t29 = false → (True) ∧ (((a0 == (3 : Int)) = true → ((a0 == (3 : Int)) = true ∧ (∃ t32 : Bool, (Fun cfg 39 [.one (.sc (.int .i64 a1))] [] (status_signal.R t32) [] ∧ True) ∧ ((a0 == (3 : Int)) = true ∧ ((t32 = true → (True ∧ (True) ∧ (True) ∧ (0 ≤ (8 : Int)) ∧ (True) ∧ (True ∧ ((True) ∧ (True) ∧ (.tup [.one (.sc (.int .u32 (bits .or .u32 (shl .u32 (IntKind.wrap .u32 ((bits .or .i64 a1 (128 : Int)))) (8 : Int)) (127 : Int)))), .one (.err none)] : Tm) = status_Of.R r ∧ ([] : List Box) = [])))) ∧ (t32 = false → (True ∧ (True ∧ (True ∧ ((True) ∧ (True) ∧ (.tup [.one (.sc (.int .u32 (0 : Int))), .one (.err (some (22 : Int)))] : Tm) = status_Of.R r ∧ ([] : List Box) = [])))))))))) ∧ ((a0 == (3 : Int)) = false → ((a0 == (3 : Int)) = false ∧ ((a0 == (3 : Int)) = false ∧ (false = false ∧ (True ∧ (True ∧ (True ∧ ((True) ∧ (True) ∧ (.tup [.one (.sc (.int .u32 (0 : Int))), .one (.err (some (22 : Int)))] : Tm) = status_Of.R r ∧ ([] : List Box) = []))))))))))))))) ∧ ((a0 == (2 : Int)) = false → ((a0 == (2 : Int)) = false ∧ ((a0 == (2 : Int)) = false ∧ (false = false ∧ (True) ∧ (((a0 == (3 : Int)) = true → ((a0 == (3 : Int)) = true ∧ (∃ t35 : Bool, (Fun cfg 39 [.one (.sc (.int .i64 a1))] [] (status_signal.R t35) [] ∧ True) ∧ ((a0 == (3 : Int)) = true ∧ ((t35 = true → (True ∧ (True) ∧ (True) ∧ (0 ≤ (8 : Int)) ∧ (True) ∧ (True ∧ ((True) ∧ (True) ∧ (.tup [.one (.sc (.int .u32 (bits .or .u32 (shl .u32 (IntKind.wrap .u32 ((bits .or .i64 a1 (128 : Int)))) (8 : Int)) (127 : Int)))), .one (.err none)] : Tm) = status_Of.R r ∧ ([] : List Box) = [])))) ∧ (t35 = false → (True ∧ (True ∧ (True ∧ ((True) ∧ (True) ∧ (.tup [.one (.sc (.int .u32 (0 : Int))), .one (.err (some (22 : Int)))] : Tm) = status_Of.R r ∧ ([] : List Box) = [])))))))))) ∧ ((a0 == (3 : Int)) = false → ((a0 == (3 : Int)) = false ∧ ((a0 == (3 : Int)) = false ∧ (false = false ∧ (True ∧ (True ∧ (True ∧ ((True) ∧ (True) ∧ (.tup [.one (.sc (.int .u32 (0 : Int))), .one (.err (some (22 : Int)))] : Tm) = status_Of.R r ∧ ([] : List Box) = [])))))))))))))))))))) ∧ ((a0 == (1 : Int)) = false → ((a0 == (1 : Int)) = false ∧ ((a0 == (1 : Int)) = false ∧ (false = false ∧ (True) ∧ (((a0 == (2 : Int)) = true → ((a0 == (2 : Int)) = true ∧ (∃ t38 : Bool, (Fun cfg 39 [.one (.sc (.int .i64 a1))] [] (status_signal.R t38) [] ∧ True) ∧ ((a0 == (2 : Int)) = true ∧ ((t38 = true → (True ∧ (True) ∧ (0 ≤ (8 : Int)) ∧ (True) ∧ (True ∧ ((True) ∧ (True) ∧ (.tup [.one (.sc (.int .u32 (bits .or .u32 (shl .u32 (IntKind.wrap .u32 (a1)) (8 : Int)) (127 : Int)))), .one (.err none)] : Tm) = status_Of.R r ∧ ([] : List Box) = [])))) ∧ (t38 = false → (True) ∧ (((a0 == (3 : Int)) = true → ((a0 == (3 : Int)) = true ∧ (∃ t41 : Bool, (Fun cfg 39 [.one (.sc (.int .i64 a1))] [] (status_signal.R t41) [] ∧ True) ∧ ((a0 == (3 : Int)) = true ∧ ((t41 = true → (True ∧ (True) ∧ (True) ∧ (0 ≤ (8 : Int)) ∧ (True) ∧ (True ∧ ((True) ∧ (True) ∧ (.tup [.one (.sc (.int .u32 (bits .or .u32 (shl .u32 (IntKind.wrap .u32 ((bits .or .i64 a1 (128 : Int)))) (8 : Int)) (127 : Int)))), .one (.err none)] : Tm) = status_Of.R r ∧ ([] : List Box) = [])))) ∧ (t41 = false → (True ∧ (True ∧ (True ∧ ((True) ∧ (True) ∧ (.tup [.one (.sc (.int .u32 (0 : Int))), .one (.err (some (22 : Int)))] : Tm) = status_Of.R r ∧ ([] : List Box) = [])))))))))) ∧ ((a0 == (3 : Int)) = false → ((a0 == (3 : Int)) = false ∧ ((a0 == (3 : Int)) = false ∧ (false = false ∧ (True ∧ (True ∧ (True ∧ ((True) ∧ (True) ∧ (.tup [.one (.sc (.int .u32 (0 : Int))), .one (.err (some (22 : Int)))] : Tm) = status_Of.R r ∧ ([] : List Box) = []))))))))))))))) ∧ ((a0 == (2 : Int)) = false → ((a0 == (2 : Int)) = false ∧ ((a0 == (2 : Int)) = false ∧ (false = false ∧ (True) ∧ (((a0 == (3 : Int)) = true → ((a0 == (3 : Int)) = true ∧ (∃ t44 : Bool, (Fun cfg 39 [.one (.sc (.int .i64 a1))] [] (status_signal.R t44) [] ∧ True) ∧ ((a0 == (3 : Int)) = true ∧ ((t44 = true → (True ∧ (True) ∧ (True) ∧ (0 ≤ (8 : Int)) ∧ (True) ∧ (True ∧ ((True) ∧ (True) ∧ (.tup [.one (.sc (.int .u32 (bits .or .u32 (shl .u32 (IntKind.wrap .u32 ((bits .or .i64 a1 (128 : Int)))) (8 : Int)) (127 : Int)))), .one (.err none)] : Tm) = status_Of.R r ∧ ([] : List Box) = [])))) ∧ (t44 = false → (True ∧ (True ∧ (True ∧ ((True) ∧ (True) ∧ (.tup [.one (.sc (.int .u32 (0 : Int))), .one (.err (some (22 : Int)))] : Tm) = status_Of.R r ∧ ([] : List Box) = [])))))))))) ∧ ((a0 == (3 : Int)) = false → ((a0 == (3 : Int)) = false ∧ ((a0 == (3 : Int)) = false ∧ (false = false ∧ (True ∧ (True ∧ (True ∧ ((True) ∧ (True) ∧ (.tup [.one (.sc (.int .u32 (0 : Int))), .one (.err (some (22 : Int)))] : Tm) = status_Of.R r ∧ ([] : List Box) = []))))))))))))))))))))))))))) ∧ ((a0 == (0 : Int)) = false → ((a0 == (0 : Int)) = false ∧ ((a0 == (0 : Int)) = false ∧ (false = false ∧ (false = false ∧ (false = false ∧ (false = false ∧ (True) ∧ (((a0 == (1 : Int)) = true → ((a0 == (1 : Int)) = true ∧ (∃ t47 : Bool, (Fun cfg 39 [.one (.sc (.int .i64 a1))] [] (status_signal.R t47) [] ∧ True) ∧ ((a0 == (1 : Int)) = true ∧ ((t47 = true → (True ∧ (True) ∧ (True ∧ ((True) ∧ (True) ∧ (.tup [.one (.sc (.int .u32 (IntKind.wrap .u32 (a1)))), .one (.err none)] : Tm) = status_Of.R r ∧ ([] : List Box) = [])))) ∧ (t47 = false → (True) ∧ (((a0 == (2 : Int)) = true → ((a0 == (2 : Int)) = true ∧ (∃ t50 : Bool, (Fun cfg 39 [.one (.sc (.int .i64 a1))] [] (status_signal.R t50) [] ∧ True) ∧ ((a0 == (2 : Int)) = true ∧ ((t50 = true → (True ∧ (True) ∧ (0 ≤ (8 : Int)) ∧ (True) ∧ (True ∧ ((True) ∧ (True) ∧ (.tup [.one (.sc (.int .u32 (bits .or .u32 (shl .u32 (IntKind.wrap .u32 (a1)) (8 : Int)) (127 : Int)))), .one (.err none)] : Tm) = status_Of.R r ∧ ([] : List Box) = [])))) ∧ (t50 = false → (True) ∧ (((a0 == (3 : Int)) = true → ((a0 == (3 : Int)) = true ∧ (∃ t53 : Bool, (Fun cfg 39 [.one (.sc (.int .i64 a1))] [] (status_signal.R t53) [] ∧ True) ∧ ((a0 == (3 : Int)) = true ∧ ((t53 = true → (True ∧ (True) ∧ (True) ∧ (0 ≤ (8 : Int)) ∧ (True) ∧ (True ∧ ((True) ∧ (True) ∧ (.tup [.one (.sc (.int .u32 (bits .or .u32 (shl .u32 (IntKind.wrap .u32 ((bits .or .i64 a1 (128 : Int)))) (8 : Int)) (127 : Int)))), .one (.err none)] : Tm) = status_Of.R r ∧ ([] : List Box) = [])))) ∧ (t53 = false → (True ∧ (True ∧ (True ∧ ((True) ∧ (True) ∧ (.tup [.one (.sc (.int .u32 (0 : Int))), .one (.err (some (22 : Int)))] : Tm) = status_Of.R r ∧ ([] : List Box) = [])))))))))) ∧ ((a0 == (3 : Int)) = false → ((a0 == (3 : Int)) = false ∧ ((a0 == (3 : Int)) = false ∧ (false = false ∧ (True ∧ (True ∧ (True ∧ ((True) ∧ (True) ∧ (.tup [.one (.sc (.int .u32 (0 : Int))), .one (.err (some (22 : Int)))] : Tm) = status_Of.R r ∧ ([] : List Box) = []))))))))))))))) ∧ ((a0 == (2 : Int)) = false → ((a0 == (2 : Int)) = false ∧ ((a0 == (2 : Int)) = false ∧ (false = false ∧ (True) ∧ (((a0 == (3 : Int)) = true → ((a0 == (3 : Int)) = true ∧ (∃ t56 : Bool, (Fun cfg 39 [.one (.sc (.int .i64 a1))] [] (status_signal.R t56) [] ∧ True) ∧ ((a0 == (3 : Int)) = true ∧ ((t56 = true → (True ∧ (True) ∧ (True) ∧ (0 ≤ (8 : Int)) ∧ (True) ∧ (True ∧ ((True) ∧ (True) ∧ (.tup [.one (.sc (.int .u32 (bits .or .u32 (shl .u32 (IntKind.wrap .u32 ((bits .or .i64 a1 (128 : Int)))) (8 : Int)) (127 : Int)))), .one (.err none)] : Tm) = status_Of.R r ∧ ([] : List Box) = [])))) ∧ (t56 = false → (True ∧ (True ∧ (True ∧ ((True) ∧ (True) ∧ (.tup [.one (.sc (.int .u32 (0 : Int))), .one (.err (some (22 : Int)))] : Tm) = status_Of.R r ∧ ([] : List Box) = [])))))))))) ∧ ((a0 == (3 : Int)) = false → ((a0 == (3 : Int)) = false ∧ ((a0 == (3 : Int)) = false ∧ (false = false ∧ (True ∧ (True ∧ (True ∧ ((True) ∧ (True) ∧ (.tup [.one (.sc (.int .u32 (0 : Int))), .one (.err (some (22 : Int)))] : Tm) = status_Of.R r ∧ ([] : List Box) = [])))))))))))))))))))) ∧ ((a0 == (1 : Int)) = false → ((a0 == (1 : Int)) = false ∧ ((a0 == (1 : Int)) = false ∧ (false = false ∧ (True) ∧ (((a0 == (2 : Int)) = true → ((a0 == (2 : Int)) = true ∧ (∃ t59 : Bool, (Fun cfg 39 [.one (.sc (.int .i64 a1))] [] (status_signal.R t59) [] ∧ True) ∧ ((a0 == (2 : Int)) = true ∧ ((t59 = true → (True ∧ (True) ∧ (0 ≤ (8 : Int)) ∧ (True) ∧ (True ∧ ((True) ∧ (True) ∧ (.tup [.one (.sc (.int .u32 (bits .or .u32 (shl .u32 (IntKind.wrap .u32 (a1)) (8 : Int)) (127 : Int)))), .one (.err none)] : Tm) = status_Of.R r ∧ ([] : List Box) = [])))) ∧ (t59 = false → (True) ∧ (((a0 == (3 : Int)) = true → ((a0 == (3 : Int)) = true ∧ (∃ t62 : Bool, (Fun cfg 39 [.one (.sc (.int .i64 a1))] [] (status_signal.R t62) [] ∧ True) ∧ ((a0 == (3 : Int)) = true ∧ ((t62 = true → (True ∧ (True) ∧ (True) ∧ (0 ≤ (8 : Int)) ∧ (True) ∧ (True ∧ ((True) ∧ (True) ∧ (.tup [.one (.sc (.int .u32 (bits .or .u32 (shl .u32 (IntKind.wrap .u32 ((bits .or .i64 a1 (128 : Int)))) (8 : Int)) (127 : Int)))), .one (.err none)] : Tm) = status_Of.R r ∧ ([] : List Box) = [])))) ∧ (t62 = false → (True ∧ (True ∧ (True ∧ ((True) ∧ (True) ∧ (.tup [.one (.sc (.int .u32 (0 : Int))), .one (.err (some (22 : Int)))] : Tm) = status_Of.R r ∧ ([] : List Box) = [])))))))))) ∧ ((a0 == (3 : Int)) = false → ((a0 == (3 : Int)) = false ∧ ((a0 == (3 : Int)) = false ∧ (false = false ∧ (True ∧ (True ∧ (True ∧ ((True) ∧ (True) ∧ (.tup [.one (.sc (.int .u32 (0 : Int))), .one (.err (some (22 : Int)))] : Tm) = status_Of.R r ∧ ([] : List Box) = []))))))))))))))) ∧ ((a0 == (2 : Int)) = false → ((a0 == (2 : Int)) = false ∧ ((a0 == (2 : Int)) = false ∧ (false = false ∧ (True) ∧ (((a0 == (3 : Int)) = true → ((a0 == (3 : Int)) = true ∧ (∃ t65 : Bool, (Fun cfg 39 [.one (.sc (.int .i64 a1))] [] (status_signal.R t65) [] ∧ True) ∧ ((a0 == (3 : Int)) = true ∧ ((t65 = true → (True ∧ (True) ∧ (True) ∧ (0 ≤ (8 : Int)) ∧ (True) ∧ (True ∧ ((True) ∧ (True) ∧ (.tup [.one (.sc (.int .u32 (bits .or .u32 (shl .u32 (IntKind.wrap .u32 ((bits .or .i64 a1 (128 : Int)))) (8 : Int)) (127 : Int)))), .one (.err none)] : Tm) = status_Of.R r ∧ ([] : List Box) = [])))) ∧ (t65 = false → (True ∧ (True ∧ (True ∧ ((True) ∧ (True) ∧ (.tup [.one (.sc (.int .u32 (0 : Int))), .one (.err (some (22 : Int)))] : Tm) = status_Of.R r ∧ ([] : List Box) = [])))))))))) ∧ ((a0 == (3 : Int)) = false → ((a0 == (3 : Int)) = false ∧ ((a0 == (3 : Int)) = false ∧ (false = false ∧ (True ∧ (True ∧ (True ∧ ((True) ∧ (True) ∧ (.tup [.one (.sc (.int .u32 (0 : Int))), .one (.err (some (22 : Int)))] : Tm) = status_Of.R r ∧ ([] : List Box) = [])))))))))))))))))))))))))))) (by kernel_rfl) ?_)
  refine ⟨trivial, ?_⟩
  refine ⟨fun b1 => ?_, fun b1 => ?_⟩
  · rw [if_pos (beq_t b1)] at h
    refine ⟨b1, ?_⟩
    refine ⟨trivial, ?_⟩
    refine ⟨b1, ?_⟩
    refine ⟨fun b2 => ?_, fun b2 => ?_⟩
    · rw [if_pos (of_decide_eq_true b2)] at h
      refine ⟨b2, ?_⟩
      refine ⟨trivial, ?_⟩
      refine ⟨b2, ?_⟩
      refine ⟨fun b3 => ?_, fun b3 => ?_⟩
      · rw [if_pos (of_decide_eq_true b3)] at h
        refine ⟨trivial, ?_⟩
        refine ⟨trivial, ?_⟩
        refine ⟨(by decide), ?_⟩
        refine ⟨trivial, ?_⟩
        obtain rfl := Option.some.inj h
        exact ⟨trivial, trivial, rfl, rfl⟩
      · rw [if_neg (of_decide_eq_false b3)] at h
        refine ⟨trivial, ?_⟩
        refine ⟨fun b4 => ?_, fun b4 => ?_⟩
        · rw [if_pos (beq_t b4)] at h
          refine ⟨b4, ?_⟩
          obtain ⟨t5, ht5, h⟩ := of_bind h
          refine ⟨t5, ⟨status_signal.fun_ ht5, trivial⟩, ?_⟩
          refine ⟨b4, ?_⟩
          refine ⟨fun b6 => ?_, fun b6 => ?_⟩
          · rw [if_pos b6] at h
            refine ⟨trivial, ?_⟩
            refine ⟨trivial, ?_⟩
            refine ⟨trivial, ?_⟩
            obtain rfl := Option.some.inj h
            exact ⟨trivial, trivial, rfl, rfl⟩
          · rw [if_neg (ff b6)] at h
            refine ⟨trivial, ?_⟩
            refine ⟨fun b7 => ?_, fun b7 => ?_⟩
            · rw [if_pos (beq_t b7)] at h
              refine ⟨b7, ?_⟩
              obtain ⟨t8, ht8, h⟩ := of_bind h
              refine ⟨t8, ⟨status_signal.fun_ ht8, trivial⟩, ?_⟩
              refine ⟨b7, ?_⟩
              refine ⟨fun b9 => ?_, fun b9 => ?_⟩
              · rw [if_pos b9] at h
                refine ⟨trivial, ?_⟩
                refine ⟨trivial, ?_⟩
                refine ⟨(by decide), ?_⟩
                refine ⟨trivial, ?_⟩
                refine ⟨trivial, ?_⟩
                obtain rfl := Option.some.inj h
                exact ⟨trivial, trivial, rfl, rfl⟩
              · rw [if_neg (ff b9)] at h
                refine ⟨trivial, ?_⟩
                refine ⟨fun b10 => ?_, fun b10 => ?_⟩
                · rw [if_pos (beq_t b10)] at h
                  refine ⟨b10, ?_⟩
                  obtain ⟨t11, ht11, h⟩ := of_bind h
                  refine ⟨t11, ⟨status_signal.fun_ ht11, trivial⟩, ?_⟩
                  refine ⟨b10, ?_⟩
                  refine ⟨fun b12 => ?_, fun b12 => ?_⟩
                  · rw [if_pos b12] at h
                    refine ⟨trivial, ?_⟩
                    refine ⟨trivial, ?_⟩
                    refine ⟨trivial, ?_⟩
                    refine ⟨(by decide), ?_⟩
                    refine ⟨trivial, ?_⟩
                    refine ⟨trivial, ?_⟩
                    obtain rfl := Option.some.inj h
                    exact ⟨trivial, trivial, rfl, rfl⟩
                  · rw [if_neg (ff b12)] at h
                    refine ⟨trivial, ?_⟩
                    refine ⟨trivial, ?_⟩
                    refine ⟨trivial, ?_⟩
                    obtain rfl := Option.some.inj h
                    exact ⟨trivial, trivial, rfl, rfl⟩
                · rw [if_neg (beq_f b10)] at h
                  refine ⟨b10, ?_⟩
                  refine ⟨b10, ?_⟩
                  refine ⟨rfl, ?_⟩
                  refine ⟨trivial, ?_⟩
                  refine ⟨trivial, ?_⟩
                  refine ⟨trivial, ?_⟩
                  obtain rfl := Option.some.inj h
                  exact ⟨trivial, trivial, rfl, rfl⟩
            · rw [if_neg (beq_f b7)] at h
              refine ⟨b7, ?_⟩
              refine ⟨b7, ?_⟩
              refine ⟨rfl, ?_⟩
              refine ⟨trivial, ?_⟩
              refine ⟨fun b13 => ?_, fun b13 => ?_⟩
              · rw [if_pos (beq_t b13)] at h
                refine ⟨b13, ?_⟩
                obtain ⟨t14, ht14, h⟩ := of_bind h
                refine ⟨t14, ⟨status_signal.fun_ ht14, trivial⟩, ?_⟩
                refine ⟨b13, ?_⟩
                refine ⟨fun b15 => ?_, fun b15 => ?_⟩
                · rw [if_pos b15] at h
                  refine ⟨trivial, ?_⟩
                  refine ⟨trivial, ?_⟩
                  refine ⟨trivial, ?_⟩
                  refine ⟨(by decide), ?_⟩
                  refine ⟨trivial, ?_⟩
                  refine ⟨trivial, ?_⟩
                  obtain rfl := Option.some.inj h
                  exact ⟨trivial, trivial, rfl, rfl⟩
                · rw [if_neg (ff b15)] at h
                  refine ⟨trivial, ?_⟩
                  refine ⟨trivial, ?_⟩
                  refine ⟨trivial, ?_⟩
                  obtain rfl := Option.some.inj h
                  exact ⟨trivial, trivial, rfl, rfl⟩
              · rw [if_neg (beq_f b13)] at h
                refine ⟨b13, ?_⟩
                refine ⟨b13, ?_⟩
                refine ⟨rfl, ?_⟩
                refine ⟨trivial, ?_⟩
                refine ⟨trivial, ?_⟩
                refine ⟨trivial, ?_⟩
                obtain rfl := Option.some.inj h
                exact ⟨trivial, trivial, rfl, rfl⟩
        · rw [if_neg (beq_f b4)] at h
          refine ⟨b4, ?_⟩
          refine ⟨b4, ?_⟩
          refine ⟨rfl, ?_⟩
          refine ⟨trivial, ?_⟩
          refine ⟨fun b16 => ?_, fun b16 => ?_⟩
          · rw [if_pos (beq_t b16)] at h
            refine ⟨b16, ?_⟩
            obtain ⟨t17, ht17, h⟩ := of_bind h
            refine ⟨t17, ⟨status_signal.fun_ ht17, trivial⟩, ?_⟩
            refine ⟨b16, ?_⟩
            refine ⟨fun b18 => ?_, fun b18 => ?_⟩
            · rw [if_pos b18] at h
              refine ⟨trivial, ?_⟩
              refine ⟨trivial, ?_⟩
              refine ⟨(by decide), ?_⟩
              refine ⟨trivial, ?_⟩
              refine ⟨trivial, ?_⟩
              obtain rfl := Option.some.inj h
              exact ⟨trivial, trivial, rfl, rfl⟩
            · rw [if_neg (ff b18)] at h
              refine ⟨trivial, ?_⟩
              refine ⟨fun b19 => ?_, fun b19 => ?_⟩
              · rw [if_pos (beq_t b19)] at h
                refine ⟨b19, ?_⟩
                obtain ⟨t20, ht20, h⟩ := of_bind h
                refine ⟨t20, ⟨status_signal.fun_ ht20, trivial⟩, ?_⟩
                refine ⟨b19, ?_⟩
                refine ⟨fun b21 => ?_, fun b21 => ?_⟩
                · rw [if_pos b21] at h
                  refine ⟨trivial, ?_⟩
                  refine ⟨trivial, ?_⟩
                  refine ⟨trivial, ?_⟩
                  refine ⟨(by decide), ?_⟩
                  refine ⟨trivial, ?_⟩
                  refine ⟨trivial, ?_⟩
                  obtain rfl := Option.some.inj h
                  exact ⟨trivial, trivial, rfl, rfl⟩
                · rw [if_neg (ff b21)] at h
                  refine ⟨trivial, ?_⟩
                  refine ⟨trivial, ?_⟩
                  refine ⟨trivial, ?_⟩
                  obtain rfl := Option.some.inj h
                  exact ⟨trivial, trivial, rfl, rfl⟩
              · rw [if_neg (beq_f b19)] at h
                refine ⟨b19, ?_⟩
                refine ⟨b19, ?_⟩
                refine ⟨rfl, ?_⟩
                refine ⟨trivial, ?_⟩
                refine ⟨trivial, ?_⟩
                refine ⟨trivial, ?_⟩
                obtain rfl := Option.some.inj h
                exact ⟨trivial, trivial, rfl, rfl⟩
          · rw [if_neg (beq_f b16)] at h
            refine ⟨b16, ?_⟩
            refine ⟨b16, ?_⟩
            refine ⟨rfl, ?_⟩
            refine ⟨trivial, ?_⟩
            refine ⟨fun b22 => ?_, fun b22 => ?_⟩
            · rw [if_pos (beq_t b22)] at h
              refine ⟨b22, ?_⟩
              obtain ⟨t23, ht23, h⟩ := of_bind h
              refine ⟨t23, ⟨status_signal.fun_ ht23, trivial⟩, ?_⟩
              refine ⟨b22, ?_⟩
              refine ⟨fun b24 => ?_, fun b24 => ?_⟩
              · rw [if_pos b24] at h
                refine ⟨trivial, ?_⟩
                refine ⟨trivial, ?_⟩
                refine ⟨trivial, ?_⟩
                refine ⟨(by decide), ?_⟩
                refine ⟨trivial, ?_⟩
                refine ⟨trivial, ?_⟩
                obtain rfl := Option.some.inj h
                exact ⟨trivial, trivial, rfl, rfl⟩
              · rw [if_neg (ff b24)] at h
                refine ⟨trivial, ?_⟩
                refine ⟨trivial, ?_⟩
                refine ⟨trivial, ?_⟩
                obtain rfl := Option.some.inj h
                exact ⟨trivial, trivial, rfl, rfl⟩
            · rw [if_neg (beq_f b22)] at h
              refine ⟨b22, ?_⟩
              refine ⟨b22, ?_⟩
              refine ⟨rfl, ?_⟩
              refine ⟨trivial, ?_⟩
              refine ⟨trivial, ?_⟩
              refine ⟨trivial, ?_⟩
              obtain rfl := Option.some.inj h
              exact ⟨trivial, trivial, rfl, rfl⟩
    · rw [if_neg (of_decide_eq_false b2)] at h
      refine ⟨b2, ?_⟩
      refine ⟨b2, ?_⟩
      refine ⟨rfl, ?_⟩
      refine ⟨trivial, ?_⟩
      refine ⟨fun b25 => ?_, fun b25 => ?_⟩
      · rw [if_pos (beq_t b25)] at h
        refine ⟨b25, ?_⟩
        obtain ⟨t26, ht26, h⟩ := of_bind h
        refine ⟨t26, ⟨status_signal.fun_ ht26, trivial⟩, ?_⟩
        refine ⟨b25, ?_⟩
        refine ⟨fun b27 => ?_, fun b27 => ?_⟩
        · rw [if_pos b27] at h
          refine ⟨trivial, ?_⟩
          refine ⟨trivial, ?_⟩
          refine ⟨trivial, ?_⟩
          obtain rfl := Option.some.inj h
          exact ⟨trivial, trivial, rfl, rfl⟩
        · rw [if_neg (ff b27)] at h
          refine ⟨trivial, ?_⟩
          refine ⟨fun b28 => ?_, fun b28 => ?_⟩
          · rw [if_pos (beq_t b28)] at h
            refine ⟨b28, ?_⟩
            obtain ⟨t29, ht29, h⟩ := of_bind h
            refine ⟨t29, ⟨status_signal.fun_ ht29, trivial⟩, ?_⟩
            refine ⟨b28, ?_⟩
            refine ⟨fun b30 => ?_, fun b30 => ?_⟩
            · rw [if_pos b30] at h
              refine ⟨trivial, ?_⟩
              refine ⟨trivial, ?_⟩
              refine ⟨(by decide), ?_⟩
              refine ⟨trivial, ?_⟩
              refine ⟨trivial, ?_⟩
              obtain rfl := Option.some.inj h
              exact ⟨trivial, trivial, rfl, rfl⟩
            · rw [if_neg (ff b30)] at h
              refine ⟨trivial, ?_⟩
              refine ⟨fun b31 => ?_, fun b31 => ?_⟩
              · rw [if_pos (beq_t b31)] at h
                refine ⟨b31, ?_⟩
                obtain ⟨t32, ht32, h⟩ := of_bind h
                refine ⟨t32, ⟨status_signal.fun_ ht32, trivial⟩, ?_⟩
                refine ⟨b31, ?_⟩
                refine ⟨fun b33 => ?_, fun b33 => ?_⟩
                · rw [if_pos b33] at h
                  refine ⟨trivial, ?_⟩
                  refine ⟨trivial, ?_⟩
                  refine ⟨trivial, ?_⟩
                  refine ⟨(by decide), ?_⟩
                  refine ⟨trivial, ?_⟩
                  refine ⟨trivial, ?_⟩
                  obtain rfl := Option.some.inj h
                  exact ⟨trivial, trivial, rfl, rfl⟩
                · rw [if_neg (ff b33)] at h
                  refine ⟨trivial, ?_⟩
                  refine ⟨trivial, ?_⟩
                  refine ⟨trivial, ?_⟩
                  obtain rfl := Option.some.inj h
                  exact ⟨trivial, trivial, rfl, rfl⟩
              · rw [if_neg (beq_f b31)] at h
                refine ⟨b31, ?_⟩
                refine ⟨b31, ?_⟩
                refine ⟨rfl, ?_⟩
                refine ⟨trivial, ?_⟩
                refine ⟨trivial, ?_⟩
                refine ⟨trivial, ?_⟩
                obtain rfl := Option.some.inj h
                exact ⟨trivial, trivial, rfl, rfl⟩
          · rw [if_neg (beq_f b28)] at h
            refine ⟨b28, ?_⟩
            refine ⟨b28, ?_⟩
            refine ⟨rfl, ?_⟩
            refine ⟨trivial, ?_⟩
            refine ⟨fun b34 => ?_, fun b34 => ?_⟩
            · rw [if_pos (beq_t b34)] at h
              refine ⟨b34, ?_⟩
              obtain ⟨t35, ht35, h⟩ := of_bind h
              refine ⟨t35, ⟨status_signal.fun_ ht35, trivial⟩, ?_⟩
              refine ⟨b34, ?_⟩
              refine ⟨fun b36 => ?_, fun b36 => ?_⟩
              · rw [if_pos b36] at h
                refine ⟨trivial, ?_⟩
                refine ⟨trivial, ?_⟩
                refine ⟨trivial, ?_⟩
                refine ⟨(by decide), ?_⟩
                refine ⟨trivial, ?_⟩
                refine ⟨trivial, ?_⟩
                obtain rfl := Option.some.inj h
                exact ⟨trivial, trivial, rfl, rfl⟩
              · rw [if_neg (ff b36)] at h
                refine ⟨trivial, ?_⟩
                refine ⟨trivial, ?_⟩
                refine ⟨trivial, ?_⟩
                obtain rfl := Option.some.inj h
                exact ⟨trivial, trivial, rfl, rfl⟩
            · rw [if_neg (beq_f b34)] at h
              refine ⟨b34, ?_⟩
              refine ⟨b34, ?_⟩
              refine ⟨rfl, ?_⟩
              refine ⟨trivial, ?_⟩
              refine ⟨trivial, ?_⟩
              refine ⟨trivial, ?_⟩
              obtain rfl := Option.some.inj h
              exact ⟨trivial, trivial, rfl, rfl⟩
      · rw [if_neg (beq_f b25)] at h
        refine ⟨b25, ?_⟩
        refine ⟨b25, ?_⟩
        refine ⟨rfl, ?_⟩
        refine ⟨trivial, ?_⟩
        refine ⟨fun b37 => ?_, fun b37 => ?_⟩
        · rw [if_pos (beq_t b37)] at h
          refine ⟨b37, ?_⟩
          obtain ⟨t38, ht38, h⟩ := of_bind h
          refine ⟨t38, ⟨status_signal.fun_ ht38, trivial⟩, ?_⟩
          refine ⟨b37, ?_⟩
          refine ⟨fun b39 => ?_, fun b39 => ?_⟩
          · rw [if_pos b39] at h
            refine ⟨trivial, ?_⟩
            refine ⟨trivial, ?_⟩
            refine ⟨(by decide), ?_⟩
            refine ⟨trivial, ?_⟩
            refine ⟨trivial, ?_⟩
            obtain rfl := Option.some.inj h
            exact ⟨trivial, trivial, rfl, rfl⟩
          · rw [if_neg (ff b39)] at h
            refine ⟨trivial, ?_⟩
            refine ⟨fun b40 => ?_, fun b40 => ?_⟩
            · rw [if_pos (beq_t b40)] at h
              refine ⟨b40, ?_⟩
              obtain ⟨t41, ht41, h⟩ := of_bind h
              refine ⟨t41, ⟨status_signal.fun_ ht41, trivial⟩, ?_⟩
              refine ⟨b40, ?_⟩
              refine ⟨fun b42 => ?_, fun b42 => ?_⟩
              · rw [if_pos b42] at h
                refine ⟨trivial, ?_⟩
                refine ⟨trivial, ?_⟩
                refine ⟨trivial, ?_⟩
                refine ⟨(by decide), ?_⟩
                refine ⟨trivial, ?_⟩
                refine ⟨trivial, ?_⟩
                obtain rfl := Option.some.inj h
                exact ⟨trivial, trivial, rfl, rfl⟩
              · rw [if_neg (ff b42)] at h
                refine ⟨trivial, ?_⟩
                refine ⟨trivial, ?_⟩
                refine ⟨trivial, ?_⟩
                obtain rfl := Option.some.inj h
                exact ⟨trivial, trivial, rfl, rfl⟩
            · rw [if_neg (beq_f b40)] at h
              refine ⟨b40, ?_⟩
              refine ⟨b40, ?_⟩
              refine ⟨rfl, ?_⟩
              refine ⟨trivial, ?_⟩
              refine ⟨trivial, ?_⟩
              refine ⟨trivial, ?_⟩
              obtain rfl := Option.some.inj h
              exact ⟨trivial, trivial, rfl, rfl⟩
        · rw [if_neg (beq_f b37)] at h
          refine ⟨b37, ?_⟩
          refine ⟨b37, ?_⟩
          refine ⟨rfl, ?_⟩
          refine ⟨trivial, ?_⟩
          refine ⟨fun b43 => ?_, fun b43 => ?_⟩
          · rw [if_pos (beq_t b43)] at h
            refine ⟨b43, ?_⟩
            obtain ⟨t44, ht44, h⟩ := of_bind h
            refine ⟨t44, ⟨status_signal.fun_ ht44, trivial⟩, ?_⟩
            refine ⟨b43, ?_⟩
            refine ⟨fun b45 => ?_, fun b45 => ?_⟩
            · rw [if_pos b45] at h
              refine ⟨trivial, ?_⟩
              refine ⟨trivial, ?_⟩
              refine ⟨trivial, ?_⟩
              refine ⟨(by decide), ?_⟩
              refine ⟨trivial, ?_⟩
              refine ⟨trivial, ?_⟩
              obtain rfl := Option.some.inj h
              exact ⟨trivial, trivial, rfl, rfl⟩
            · rw [if_neg (ff b45)] at h
              refine ⟨trivial, ?_⟩
              refine ⟨trivial, ?_⟩
              refine ⟨trivial, ?_⟩
              obtain rfl := Option.some.inj h
              exact ⟨trivial, trivial, rfl, rfl⟩
          · rw [if_neg (beq_f b43)] at h
            refine ⟨b43, ?_⟩
            refine ⟨b43, ?_⟩
            refine ⟨rfl, ?_⟩
            refine ⟨trivial, ?_⟩
            refine ⟨trivial, ?_⟩
            refine ⟨trivial, ?_⟩
            obtain rfl := Option.some.inj h
            exact ⟨trivial, trivial, rfl, rfl⟩
  · rw [if_neg (beq_f b1)] at h
    refine ⟨b1, ?_⟩
    refine ⟨b1, ?_⟩
    refine ⟨rfl, ?_⟩
    refine ⟨rfl, ?_⟩
    refine ⟨rfl, ?_⟩
    refine ⟨rfl, ?_⟩
    refine ⟨trivial, ?_⟩
    refine ⟨fun b46 => ?_, fun b46 => ?_⟩
    · rw [if_pos (beq_t b46)] at h
      refine ⟨b46, ?_⟩
      obtain ⟨t47, ht47, h⟩ := of_bind h
      refine ⟨t47, ⟨status_signal.fun_ ht47, trivial⟩, ?_⟩
      refine ⟨b46, ?_⟩
      refine ⟨fun b48 => ?_, fun b48 => ?_⟩
      · rw [if_pos b48] at h
        refine ⟨trivial, ?_⟩
        refine ⟨trivial, ?_⟩
        refine ⟨trivial, ?_⟩
        obtain rfl := Option.some.inj h
        exact ⟨trivial, trivial, rfl, rfl⟩
      · rw [if_neg (ff b48)] at h
        refine ⟨trivial, ?_⟩
        refine ⟨fun b49 => ?_, fun b49 => ?_⟩
        · rw [if_pos (beq_t b49)] at h
          refine ⟨b49, ?_⟩
          obtain ⟨t50, ht50, h⟩ := of_bind h
          refine ⟨t50, ⟨status_signal.fun_ ht50, trivial⟩, ?_⟩
          refine ⟨b49, ?_⟩
          refine ⟨fun b51 => ?_, fun b51 => ?_⟩
          · rw [if_pos b51] at h
            refine ⟨trivial, ?_⟩
            refine ⟨trivial, ?_⟩
            refine ⟨(by decide), ?_⟩
            refine ⟨trivial, ?_⟩
            refine ⟨trivial, ?_⟩
            obtain rfl := Option.some.inj h
            exact ⟨trivial, trivial, rfl, rfl⟩
          · rw [if_neg (ff b51)] at h
            refine ⟨trivial, ?_⟩
            refine ⟨fun b52 => ?_, fun b52 => ?_⟩
            · rw [if_pos (beq_t b52)] at h
              refine ⟨b52, ?_⟩
              obtain ⟨t53, ht53, h⟩ := of_bind h
              refine ⟨t53, ⟨status_signal.fun_ ht53, trivial⟩, ?_⟩
              refine ⟨b52, ?_⟩
              refine ⟨fun b54 => ?_, fun b54 => ?_⟩
              · rw [if_pos b54] at h
                refine ⟨trivial, ?_⟩
                refine ⟨trivial, ?_⟩
                refine ⟨trivial, ?_⟩
                refine ⟨(by decide), ?_⟩
                refine ⟨trivial, ?_⟩
                refine ⟨trivial, ?_⟩
                obtain rfl := Option.some.inj h
                exact ⟨trivial, trivial, rfl, rfl⟩
              · rw [if_neg (ff b54)] at h
                refine ⟨trivial, ?_⟩
                refine ⟨trivial, ?_⟩
                refine ⟨trivial, ?_⟩
                obtain rfl := Option.some.inj h
                exact ⟨trivial, trivial, rfl, rfl⟩
            · rw [if_neg (beq_f b52)] at h
              refine ⟨b52, ?_⟩
              refine ⟨b52, ?_⟩
              refine ⟨rfl, ?_⟩
              refine ⟨trivial, ?_⟩
              refine ⟨trivial, ?_⟩
              refine ⟨trivial, ?_⟩
              obtain rfl := Option.some.inj h
              exact ⟨trivial, trivial, rfl, rfl⟩
        · rw [if_neg (beq_f b49)] at h
          refine ⟨b49, ?_⟩
          refine ⟨b49, ?_⟩
          refine ⟨rfl, ?_⟩
          refine ⟨trivial, ?_⟩
          refine ⟨fun b55 => ?_, fun b55 => ?_⟩
          · rw [if_pos (beq_t b55)] at h
            refine ⟨b55, ?_⟩
            obtain ⟨t56, ht56, h⟩ := of_bind h
            refine ⟨t56, ⟨status_signal.fun_ ht56, trivial⟩, ?_⟩
            refine ⟨b55, ?_⟩
            refine ⟨fun b57 => ?_, fun b57 => ?_⟩
            · rw [if_pos b57] at h
              refine ⟨trivial, ?_⟩
              refine ⟨trivial, ?_⟩
              refine ⟨trivial, ?_⟩
              refine ⟨(by decide), ?_⟩
              refine ⟨trivial, ?_⟩
              refine ⟨trivial, ?_⟩
              obtain rfl := Option.some.inj h
              exact ⟨trivial, trivial, rfl, rfl⟩
            · rw [if_neg (ff b57)] at h
              refine ⟨trivial, ?_⟩
              refine ⟨trivial, ?_⟩
              refine ⟨trivial, ?_⟩
              obtain rfl := Option.some.inj h
              exact ⟨trivial, trivial, rfl, rfl⟩
          · rw [if_neg (beq_f b55)] at h
            refine ⟨b55, ?_⟩
            refine ⟨b55, ?_⟩
            refine ⟨rfl, ?_⟩
            refine ⟨trivial, ?_⟩
            refine ⟨trivial, ?_⟩
            refine ⟨trivial, ?_⟩
            obtain rfl := Option.some.inj h
            exact ⟨trivial, trivial, rfl, rfl⟩
    · rw [if_neg (beq_f b46)] at h
      refine ⟨b46, ?_⟩
      refine ⟨b46, ?_⟩
      refine ⟨rfl, ?_⟩
      refine ⟨trivial, ?_⟩
      refine ⟨fun b58 => ?_, fun b58 => ?_⟩
      · rw [if_pos (beq_t b58)] at h
        refine ⟨b58, ?_⟩
        obtain ⟨t59, ht59, h⟩ := of_bind h
        refine ⟨t59, ⟨status_signal.fun_ ht59, trivial⟩, ?_⟩
        refine ⟨b58, ?_⟩
        refine ⟨fun b60 => ?_, fun b60 => ?_⟩
        · rw [if_pos b60] at h
          refine ⟨trivial, ?_⟩
          refine ⟨trivial, ?_⟩
          refine ⟨(by decide), ?_⟩
          refine ⟨trivial, ?_⟩
          refine ⟨trivial, ?_⟩
          obtain rfl := Option.some.inj h
          exact ⟨trivial, trivial, rfl, rfl⟩
        · rw [if_neg (ff b60)] at h
          refine ⟨trivial, ?_⟩
          refine ⟨fun b61 => ?_, fun b61 => ?_⟩
          · rw [if_pos (beq_t b61)] at h
            refine ⟨b61, ?_⟩
            obtain ⟨t62, ht62, h⟩ := of_bind h
            refine ⟨t62, ⟨status_signal.fun_ ht62, trivial⟩, ?_⟩
            refine ⟨b61, ?_⟩
            refine ⟨fun b63 => ?_, fun b63 => ?_⟩
            · rw [if_pos b63] at h
              refine ⟨trivial, ?_⟩
              refine ⟨trivial, ?_⟩
              refine ⟨trivial, ?_⟩
              refine ⟨(by decide), ?_⟩
              refine ⟨trivial, ?_⟩
              refine ⟨trivial, ?_⟩
              obtain rfl := Option.some.inj h
              exact ⟨trivial, trivial, rfl, rfl⟩
            · rw [if_neg (ff b63)] at h
              refine ⟨trivial, ?_⟩
              refine ⟨trivial, ?_⟩
              refine ⟨trivial, ?_⟩
              obtain rfl := Option.some.inj h
              exact ⟨trivial, trivial, rfl, rfl⟩
          · rw [if_neg (beq_f b61)] at h
            refine ⟨b61, ?_⟩
            refine ⟨b61, ?_⟩
            refine ⟨rfl, ?_⟩
            refine ⟨trivial, ?_⟩
            refine ⟨trivial, ?_⟩
            refine ⟨trivial, ?_⟩
            obtain rfl := Option.some.inj h
            exact ⟨trivial, trivial, rfl, rfl⟩
      · rw [if_neg (beq_f b58)] at h
        refine ⟨b58, ?_⟩
        refine ⟨b58, ?_⟩
        refine ⟨rfl, ?_⟩
        refine ⟨trivial, ?_⟩
        refine ⟨fun b64 => ?_, fun b64 => ?_⟩
        · rw [if_pos (beq_t b64)] at h
          refine ⟨b64, ?_⟩
          obtain ⟨t65, ht65, h⟩ := of_bind h
          refine ⟨t65, ⟨status_signal.fun_ ht65, trivial⟩, ?_⟩
          refine ⟨b64, ?_⟩
          refine ⟨fun b66 => ?_, fun b66 => ?_⟩
          · rw [if_pos b66] at h
            refine ⟨trivial, ?_⟩
            refine ⟨trivial, ?_⟩
            refine ⟨trivial, ?_⟩
            refine ⟨(by decide), ?_⟩
            refine ⟨trivial, ?_⟩
            refine ⟨trivial, ?_⟩
            obtain rfl := Option.some.inj h
            exact ⟨trivial, trivial, rfl, rfl⟩
          · rw [if_neg (ff b66)] at h
            refine ⟨trivial, ?_⟩
            refine ⟨trivial, ?_⟩
            refine ⟨trivial, ?_⟩
            obtain rfl := Option.some.inj h
            exact ⟨trivial, trivial, rfl, rfl⟩
        · rw [if_neg (beq_f b64)] at h
          refine ⟨b64, ?_⟩
          refine ⟨b64, ?_⟩
          refine ⟨rfl, ?_⟩
          refine ⟨trivial, ?_⟩
          refine ⟨trivial, ?_⟩
          refine ⟨trivial, ?_⟩
          obtain rfl := Option.some.inj h
          exact ⟨trivial, trivial, rfl, rfl⟩
/-! halter/status.What -/
def status_What.f (a0 : Int) : Option (Int × Int × (Option Int)) :=
  (status_kind.f a0).bind fun t1 =>
  (status_Of.f t1.1 t1.2).bind fun t2 =>
  if ¬ (t2.2 = none) then
    some ((0 : Int), (0 : Int), (some (22 : Int)))
  else
    if ¬ t2.1 = a0 then
      some ((0 : Int), (0 : Int), (some (22 : Int)))
    else
      some (t1.1, t1.2, none)
def status_What.R (r : Int × Int × (Option Int)) : Tm := .tup [.one (.sc (.int .i64 r.1)), .one (.sc (.int .i64 r.2.1)), .one (.err r.2.2)]
theorem status_What.fun_ {a0 : Int} {r : Int × Int × (Option Int)} (h : status_What.f a0 = some r) : Fun cfg 28 [.one (.sc (.int .u32 a0))] [] (status_What.R r) [] := by
  unfold status_What.f at h
  refine fun_of_run cfg_ok (f := 28) (fn := Tryd.f28) Tryd.func28 rfl (by kernel_rfl) (rs := [.tmp 2, .tmp 3, .tmp 4]) rfl (nt := 30) rfl (l := fin) (k := (.call true [] (Int × Int) (fun t1 => status_kind.R t1) (fun t1 => (.call true [] (Int × (Option Int)) (fun t2 => status_Of.R t2) (fun t2 => (.br (.one true (.one true (.one true (.one true (.adj [] (.adj [] (.adj [] .nil))))))) (.one false (.one false (.one false (.br (.adj [] (.adj [] (.adj [] .nil))) (.adj [] (.adj [] (.adj [] (.adj [] .nil)))))))))))))) (to_goal (q := (∃ t1 : Int × Int, (Fun cfg 34 [.one (.sc (.int .u32 a0))] [] (status_kind.R t1) [] ∧ True) ∧ (∃ t2 : Int × (Option Int), (Fun cfg 35 [.one (.sc (.int .i64 t1.1)), .one (.sc (.int .i64 t1.2))] [] (status_Of.R t2) [] ∧ True) ∧ (True) ∧ (((!(Option.isNone t2.2)) = false → ((!(Option.isNone t2.2)) = false ∧ ((!(Option.isNone t2.2)) = false ∧ (True) ∧ ((!(Option.isNone t2.2)) = false ∧ (((t2.1 != a0) = true → (True ∧ (True ∧ ((True) ∧ (True) ∧ (.tup [.one (.sc (.int .i64 (0 : Int))), .one (.sc (.int .i64 (0 : Int))), .one (.err (some (22 : Int)))] : Tm) = status_What.R r ∧ ([] : List Box) = [])))) ∧ ((t2.1 != a0) = false → (True ∧ (True ∧ (True ∧ ((True) ∧ (True) ∧ (.tup [.one (.sc (.int .i64 t1.1)), .one (.sc (.int .i64 t1.2)), .one (.err none)] : Tm) = status_What.R r ∧ ([] : List Box) = [])))))))))) ∧ ((!(Option.isNone t2.2)) = true → ((!(Option.isNone t2.2)) = true ∧ ((!(Option.isNone t2.2)) = true ∧ ((!(Option.isNone t2.2)) = true ∧ (true = true ∧ (True ∧ (True ∧ ((True) ∧ (True) ∧ (.tup [.one (.sc (.int .i64 (0 : Int))), .one (.sc (.int .i64 (0 : Int))), .one (.err (some (22 : Int)))] : Tm) = status_What.R r ∧ ([] : List Box) = [])))))))))))) (by kernel_rfl) ?_)
  obtain ⟨t1, ht1, h⟩ := of_bind h
  refine ⟨t1, ⟨status_kind.fun_ ht1, trivial⟩, ?_⟩
  obtain ⟨t2, ht2, h⟩ := of_bind h
  refine ⟨t2, ⟨status_Of.fun_ ht2, trivial⟩, ?_⟩
  refine ⟨trivial, ?_⟩
  refine ⟨fun b3 => ?_, fun b3 => ?_⟩
  · rw [if_neg (not_not_intro (none_t (not_f b3)))] at h
    refine ⟨b3, ?_⟩
    refine ⟨b3, ?_⟩
    refine ⟨trivial, ?_⟩
    refine ⟨b3, ?_⟩
    refine ⟨fun b4 => ?_, fun b4 => ?_⟩
    · rw [if_pos (bne_t b4)] at h
      refine ⟨trivial, ?_⟩
      refine ⟨trivial, ?_⟩
      obtain rfl := Option.some.inj h
      exact ⟨trivial, trivial, rfl, rfl⟩
    · rw [if_neg (not_not_intro (bne_f b4))] at h
      refine ⟨trivial, ?_⟩
      refine ⟨trivial, ?_⟩
      refine ⟨trivial, ?_⟩
      obtain rfl := Option.some.inj h
      exact ⟨trivial, trivial, rfl, rfl⟩
  · rw [if_pos (none_f (not_t b3))] at h
    refine ⟨b3, ?_⟩
    refine ⟨b3, ?_⟩
    refine ⟨b3, ?_⟩
    refine ⟨rfl, ?_⟩
    refine ⟨trivial, ?_⟩
    refine ⟨trivial, ?_⟩
    obtain rfl := Option.some.inj h
    exact ⟨trivial, trivial, rfl, rfl⟩
/-! halter/trace.report -/
def trace_report.f (a0 : Int) : Option Bool :=
  (status_What.f a0).bind fun t1 =>
  if t1.2.2 = none then
    if t1.1 = (2 : Int) then
      some true
    else
      some (t1.1 == (3 : Int))
  else
    some false
def trace_report.R (r : Bool) : Tm := .v (.one (.sc (.bool r)))
theorem trace_report.fun_ {a0 : Int} {r : Bool} (h : trace_report.f a0 = some r) : Fun cfg 23 [.one (.sc (.int .u32 a0))] [] (trace_report.R r) [] := by
  unfold trace_report.f at h
  refine fun_of_run cfg_ok (f := 23) (fn := Tryd.f23) Tryd.func23 rfl (by kernel_rfl) (rs := [.tmp 2]) rfl (nt := 22) rfl (l := fin) (k := (.call true [] (Int × Int × (Option Int)) (fun t1 => status_What.R t1) (fun t1 => (.br (.one true (.one true (.br (.one true (.one true (.one true (.one true (.adj [] (.adj [] .nil)))))) (.one false (.one true (.one false (.one true (.adj [] (.adj [] .nil))))))))) (.one false (.one false (.one false (.one false (.adj [] (.adj [] .nil)))))))))) (to_goal (q := (∃ t1 : Int × Int × (Option Int), (Fun cfg 28 [.one (.sc (.int .u32 a0))] [] (status_What.R t1) [] ∧ True) ∧ (True) ∧ (((Option.isNone t1.2.2) = true → ((Option.isNone t1.2.2) = true ∧ (True) ∧ ((Option.isNone t1.2.2) = true ∧ (((t1.1 == (2 : Int)) = false → ((t1.1 == (2 : Int)) = false ∧ (True) ∧ ((Option.isNone t1.2.2) = true ∧ ((t1.1 == (2 : Int)) = false ∧ ((Option.isNone t1.2.2) = true ∧ (True ∧ ((True) ∧ (True) ∧ (.v (.one (.sc (.bool (t1.1 == (3 : Int))))) : Tm) = trace_report.R r ∧ ([] : List Box) = []))))))) ∧ ((t1.1 == (2 : Int)) = true → ((t1.1 == (2 : Int)) = true ∧ ((Option.isNone t1.2.2) = true ∧ ((t1.1 == (2 : Int)) = true ∧ ((Option.isNone t1.2.2) = true ∧ (True ∧ ((True) ∧ (True) ∧ (.v (.one (.sc (.bool true))) : Tm) = trace_report.R r ∧ ([] : List Box) = []))))))))))) ∧ ((Option.isNone t1.2.2) = false → ((Option.isNone t1.2.2) = false ∧ ((Option.isNone t1.2.2) = false ∧ ((Option.isNone t1.2.2) = false ∧ ((Option.isNone t1.2.2) = false ∧ (True ∧ ((True) ∧ (True) ∧ (.v (.one (.sc (.bool false))) : Tm) = trace_report.R r ∧ ([] : List Box) = [])))))))))) (by kernel_rfl) ?_)
  obtain ⟨t1, ht1, h⟩ := of_bind h
  refine ⟨t1, ⟨status_What.fun_ ht1, trivial⟩, ?_⟩
  refine ⟨trivial, ?_⟩
  refine ⟨fun b2 => ?_, fun b2 => ?_⟩
  · rw [if_pos (none_t b2)] at h
    refine ⟨b2, ?_⟩
    refine ⟨trivial, ?_⟩
    refine ⟨b2, ?_⟩
    refine ⟨fun b3 => ?_, fun b3 => ?_⟩
    · rw [if_neg (beq_f b3)] at h
      refine ⟨b3, ?_⟩
      refine ⟨trivial, ?_⟩
      refine ⟨b2, ?_⟩
      refine ⟨b3, ?_⟩
      refine ⟨b2, ?_⟩
      refine ⟨trivial, ?_⟩
      obtain rfl := Option.some.inj h
      exact ⟨trivial, trivial, rfl, rfl⟩
    · rw [if_pos (beq_t b3)] at h
      refine ⟨b3, ?_⟩
      refine ⟨b2, ?_⟩
      refine ⟨b3, ?_⟩
      refine ⟨b2, ?_⟩
      refine ⟨trivial, ?_⟩
      obtain rfl := Option.some.inj h
      exact ⟨trivial, trivial, rfl, rfl⟩
  · rw [if_neg (none_f b2)] at h
    refine ⟨b2, ?_⟩
    refine ⟨b2, ?_⟩
    refine ⟨b2, ?_⟩
    refine ⟨b2, ?_⟩
    refine ⟨trivial, ?_⟩
    obtain rfl := Option.some.inj h
    exact ⟨trivial, trivial, rfl, rfl⟩
/-! halter/trace.Check -/
def trace_Check.f (a0 : Int) (a1 : Bool) (a2 : Int) (a3 : Int) (a4 : Int) (a5 : Bool) : Option (Option Int) :=
  if a0 = (0 : Int) then
    if ¬ ((a0 = (0 : Int) ∧ (a1 = false ∧ (a2 = (0 : Int) ∧ (a3 = (0 : Int) ∧ (a4 = (0 : Int) ∧ a5 = false)))))) then
      some (some (22 : Int))
    else
      some none
  else
    (pids_Check.f a0).bind fun t3 =>
    if t3 = none then
      (trace_mode.f a3).bind fun t5 =>
      if t5 = true then
        (trace_signal.f a4).bind fun t7 =>
        if ¬ (t7 = true) then
          some (some (22 : Int))
        else
          if ¬ a2 = (0 : Int) then
            if ¬ (a1 = true) then
              some (some (22 : Int))
            else
              (trace_report.f a2).bind fun t11 =>
              if ¬ (t11 = true) then
                some (some (22 : Int))
              else
                if a5 = true then
                  if ¬ a3 = (2 : Int) then
                    some (some (22 : Int))
                  else
                    some none
                else
                  some none
          else
            if a5 = true then
              if ¬ a3 = (2 : Int) then
                some (some (22 : Int))
              else
                some none
            else
              some none
      else
        some (some (22 : Int))
    else
      some (some (22 : Int))
def trace_Check.R (r : (Option Int)) : Tm := .v (.one (.err r))
theorem trace_Check.fun_ {a0 : Int} {a1 : Bool} {a2 : Int} {a3 : Int} {a4 : Int} {a5 : Bool} {r : (Option Int)} (h : trace_Check.f a0 a1 a2 a3 a4 a5 = some r) : Fun cfg 18 [.agg [.c (.sc (.int .i64 a0)), .c (.sc (.bool a1)), .c (.sc (.int .u32 a2)), .c (.sc (.int .i64 a3)), .c (.sc (.int .i64 a4)), .c (.sc (.bool a5))]] [] (trace_Check.R r) [] := by
  unfold trace_Check.f at h
  refine fun_of_run cfg_ok (f := 18) (fn := Tryd.f18) Tryd.func18 rfl (by kernel_rfl) (rs := [.tmp 2]) rfl (nt := 53) rfl (l := fin) (k := (.br (.br (.adj [] (.adj [] (.adj [.drop 0] .nil))) (.adj [] (.adj [] (.adj [] (.adj [.drop 0] .nil))))) (.call true [] ((Option Int)) (fun t3 => pids_Check.R t3) (fun t3 => (.br (.one true (.one true (.call true [] (Bool) (fun t5 => trace_mode.R t5) (fun t5 => (.one true (.br (.one true (.one true (.call true [] (Bool) (fun t7 => trace_signal.R t7) (fun t7 => (.one true (.br (.one true (.one true (.one true (.one true (.one true (.one true (.one true (.one true (.one true (.one true (.one true (.adj [] (.adj [] (.adj [.drop 0] .nil)))))))))))))) (.one false (.one false (.one false (.br (.one true (.one true (.one true (.br (.one true (.one true (.one true (.one true (.one true (.one false (.one true (.one false (.one true (.one true (.one true (.one true (.one true (.one true (.adj [] (.adj [] (.adj [.drop 0] .nil))))))))))))))))) (.one false (.one false (.call true [] (Bool) (fun t11 => trace_report.R t11) (fun t11 => (.one false (.one true (.one false (.one false (.one true (.one false (.br (.one true (.one true (.one true (.one true (.one true (.adj [] (.adj [] (.adj [.drop 0] .nil)))))))) (.one false (.one false (.br (.one true (.one true (.one false (.one true (.one false (.br (.adj [] (.adj [] (.adj [.drop 0] .nil))) (.adj [] (.adj [] (.adj [] (.adj [.drop 0] .nil)))))))))) (.one false (.one false (.one false (.one false (.one false (.one false (.adj [] (.adj [] (.adj [] (.adj [.drop 0] .nil)))))))))))))))))))))))))))) (.one false (.one false (.one false (.one false (.one false (.one false (.one false (.one false (.one false (.one false (.br (.one true (.one true (.one false (.one true (.one false (.br (.adj [] (.adj [] (.adj [.drop 0] .nil))) (.adj [] (.adj [] (.adj [] (.adj [.drop 0] .nil)))))))))) (.one false (.one false (.one false (.one false (.one false (.one false (.adj [] (.adj [] (.adj [] (.adj [.drop 0] .nil))))))))))))))))))))))))))))))) (.one false (.one false (.one false (.one true (.one true (.one true (.one true (.one true (.one true (.one true (.one true (.one true (.one true (.one true (.one true (.adj [] (.adj [] (.adj [.drop 0] .nil)))))))))))))))))))))))) (.one false (.one false (.one false (.one false (.one false (.one false (.one false (.one true (.one true (.one true (.one true (.one true (.one true (.one true (.one true (.one true (.one true (.one true (.one true (.adj [] (.adj [] (.adj [.drop 0] .nil))))))))))))))))))))))))))) (to_goal (q := (True) ∧ (True) ∧ (((a0 == (0 : Int)) = true → (True) ∧ (True) ∧ (((!((a0 == (0 : Int)) && ((a1 == false) && ((a2 == (0 : Int)) && ((a3 == (0 : Int)) && ((a4 == (0 : Int)) && ((a5 == false) && true))))))) = true → (True ∧ (True ∧ ((True) ∧ ((True) ∧ True) ∧ (.v (.one (.err (some (22 : Int)))) : Tm) = trace_Check.R r ∧ ([] : List Box) = [])))) ∧ ((!((a0 == (0 : Int)) && ((a1 == false) && ((a2 == (0 : Int)) && ((a3 == (0 : Int)) && ((a4 == (0 : Int)) && ((a5 == false) && true))))))) = false → (True ∧ (True ∧ (True ∧ ((True) ∧ ((True) ∧ True) ∧ (.v (.one (.err none)) : Tm) = trace_Check.R r ∧ ([] : List Box) = []))))))) ∧ ((a0 == (0 : Int)) = false → (True) ∧ (∃ t3 : (Option Int), (Fun cfg 22 [.one (.sc (.int .i64 a0))] [] (pids_Check.R t3) [] ∧ True) ∧ (True) ∧ (((Option.isNone t3) = true → ((Option.isNone t3) = true ∧ (True) ∧ ((Option.isNone t3) = true ∧ (∃ t5 : Bool, (Fun cfg 25 [.one (.sc (.int .i64 a3))] [] (trace_mode.R t5) [] ∧ True) ∧ ((Option.isNone t3) = true ∧ ((t5 = true → (t5 = true ∧ (True) ∧ (t5 = true ∧ (∃ t7 : Bool, (Fun cfg 26 [.one (.sc (.int .i64 a4))] [] (trace_signal.R t7) [] ∧ True) ∧ (t5 = true ∧ (((!t7) = false → ((!t7) = false ∧ (True) ∧ ((!t7) = false ∧ (True) ∧ ((!t7) = false ∧ (((a2 != (0 : Int)) = true → ((a2 != (0 : Int)) = true ∧ (True) ∧ ((a2 != (0 : Int)) = true ∧ ((a2 != (0 : Int)) = true ∧ (((!a1) = false → ((!a1) = false ∧ (True) ∧ ((!a1) = false ∧ (∃ t11 : Bool, (Fun cfg 23 [.one (.sc (.int .u32 a2))] [] (trace_report.R t11) [] ∧ True) ∧ ((!a1) = false ∧ ((a2 != (0 : Int)) = true ∧ ((!a1) = false ∧ ((!t7) = false ∧ ((a2 != (0 : Int)) = true ∧ ((!t7) = false ∧ (((!t11) = false → ((!t11) = false ∧ (True) ∧ ((!t11) = false ∧ ((a5 = true → (a5 = true ∧ (True) ∧ (a5 = true ∧ (True) ∧ ((!t11) = false ∧ (a5 = true ∧ ((!t11) = false ∧ (((a3 != (2 : Int)) = true → (True ∧ (True ∧ ((True) ∧ ((True) ∧ True) ∧ (.v (.one (.err (some (22 : Int)))) : Tm) = trace_Check.R r ∧ ([] : List Box) = [])))) ∧ ((a3 != (2 : Int)) = false → (True ∧ (True ∧ (True ∧ ((True) ∧ ((True) ∧ True) ∧ (.v (.one (.err none)) : Tm) = trace_Check.R r ∧ ([] : List Box) = [])))))))))))) ∧ (a5 = false → (a5 = false ∧ (a5 = false ∧ ((!t11) = false ∧ (a5 = false ∧ ((!t11) = false ∧ (false = false ∧ (True ∧ (True ∧ (True ∧ ((True) ∧ ((True) ∧ True) ∧ (.v (.one (.err none)) : Tm) = trace_Check.R r ∧ ([] : List Box) = []))))))))))))))) ∧ ((!t11) = true → ((!t11) = true ∧ ((!t11) = true ∧ ((!t11) = true ∧ ((!t11) = true ∧ (true = true ∧ (True ∧ (True ∧ ((True) ∧ ((True) ∧ True) ∧ (.v (.one (.err (some (22 : Int)))) : Tm) = trace_Check.R r ∧ ([] : List Box) = [])))))))))))))))))))) ∧ ((!a1) = true → ((!a1) = true ∧ ((!a1) = true ∧ ((!a1) = true ∧ ((a2 != (0 : Int)) = true ∧ ((!a1) = true ∧ ((!t7) = false ∧ ((a2 != (0 : Int)) = true ∧ ((!t7) = false ∧ (true = true ∧ (true = true ∧ (true = true ∧ (true = true ∧ (true = true ∧ (true = true ∧ (True ∧ (True ∧ ((True) ∧ ((True) ∧ True) ∧ (.v (.one (.err (some (22 : Int)))) : Tm) = trace_Check.R r ∧ ([] : List Box) = []))))))))))))))))))))))) ∧ ((a2 != (0 : Int)) = false → ((a2 != (0 : Int)) = false ∧ ((a2 != (0 : Int)) = false ∧ ((a2 != (0 : Int)) = false ∧ ((a2 != (0 : Int)) = false ∧ ((!t7) = false ∧ ((a2 != (0 : Int)) = false ∧ ((!t7) = false ∧ (false = false ∧ (false = false ∧ (True) ∧ (false = false ∧ ((a5 = true → (a5 = true ∧ (True) ∧ (a5 = true ∧ (True) ∧ (false = false ∧ (a5 = true ∧ (false = false ∧ (((a3 != (2 : Int)) = true → (True ∧ (True ∧ ((True) ∧ ((True) ∧ True) ∧ (.v (.one (.err (some (22 : Int)))) : Tm) = trace_Check.R r ∧ ([] : List Box) = [])))) ∧ ((a3 != (2 : Int)) = false → (True ∧ (True ∧ (True ∧ ((True) ∧ ((True) ∧ True) ∧ (.v (.one (.err none)) : Tm) = trace_Check.R r ∧ ([] : List Box) = [])))))))))))) ∧ (a5 = false → (a5 = false ∧ (a5 = false ∧ (false = false ∧ (a5 = false ∧ (false = false ∧ (false = false ∧ (True ∧ (True ∧ (True ∧ ((True) ∧ ((True) ∧ True) ∧ (.v (.one (.err none)) : Tm) = trace_Check.R r ∧ ([] : List Box) = [])))))))))))))))))))))))))))) ∧ ((!t7) = true → ((!t7) = true ∧ ((!t7) = true ∧ ((!t7) = true ∧ ((!t7) = true ∧ ((!t7) = true ∧ (true = true ∧ (true = true ∧ (true = true ∧ (true = true ∧ (true = true ∧ (true = true ∧ (True ∧ (True ∧ ((True) ∧ ((True) ∧ True) ∧ (.v (.one (.err (some (22 : Int)))) : Tm) = trace_Check.R r ∧ ([] : List Box) = []))))))))))))))))))))) ∧ (t5 = false → (t5 = false ∧ (t5 = false ∧ (t5 = false ∧ (true = true ∧ (true = true ∧ (true = true ∧ (true = true ∧ (true = true ∧ (true = true ∧ (true = true ∧ (true = true ∧ (true = true ∧ (true = true ∧ (true = true ∧ (true = true ∧ (True ∧ (True ∧ ((True) ∧ ((True) ∧ True) ∧ (.v (.one (.err (some (22 : Int)))) : Tm) = trace_Check.R r ∧ ([] : List Box) = []))))))))))))))))))))))))) ∧ ((Option.isNone t3) = false → ((Option.isNone t3) = false ∧ ((Option.isNone t3) = false ∧ ((Option.isNone t3) = false ∧ (false = false ∧ (false = false ∧ (false = false ∧ (false = false ∧ (true = true ∧ (true = true ∧ (true = true ∧ (true = true ∧ (true = true ∧ (true = true ∧ (true = true ∧ (true = true ∧ (true = true ∧ (true = true ∧ (true = true ∧ (true = true ∧ (True ∧ (True ∧ ((True) ∧ ((True) ∧ True) ∧ (.v (.one (.err (some (22 : Int)))) : Tm) = trace_Check.R r ∧ ([] : List Box) = [])))))))))))))))))))))))))))) (by kernel_rfl) ?_)
  refine ⟨trivial, ?_⟩
  refine ⟨trivial, ?_⟩
  refine ⟨fun b1 => ?_, fun b1 => ?_⟩
  · rw [if_pos (beq_t b1)] at h
    refine ⟨trivial, ?_⟩
    refine ⟨trivial, ?_⟩
    refine ⟨fun b2 => ?_, fun b2 => ?_⟩
    · rw [if_pos (and_f (fun h => (beq_f h)) (fun h => (and_f (fun h => (bb_f h)) (fun h => (and_f (fun h => (beq_f h)) (fun h => (and_f (fun h => (beq_f h)) (fun h => (and_f (fun h => (beq_f h)) (fun h => (bb_f (and_l0 h))) h)) h)) h)) h)) (not_t b2))] at h
      refine ⟨trivial, ?_⟩
      refine ⟨trivial, ?_⟩
      obtain rfl := Option.some.inj h
      exact ⟨trivial, ⟨trivial, trivial⟩, rfl, rfl⟩
    · rw [if_neg (not_not_intro (and_t (fun h => (beq_t h)) (fun h => (and_t (fun h => (bb_t h)) (fun h => (and_t (fun h => (beq_t h)) (fun h => (and_t (fun h => (beq_t h)) (fun h => (and_t (fun h => (beq_t h)) (fun h => (bb_t (and_l h))) h)) h)) h)) h)) (not_f b2)))] at h
      refine ⟨trivial, ?_⟩
      refine ⟨trivial, ?_⟩
      refine ⟨trivial, ?_⟩
      obtain rfl := Option.some.inj h
      exact ⟨trivial, ⟨trivial, trivial⟩, rfl, rfl⟩
  · rw [if_neg (beq_f b1)] at h
    refine ⟨trivial, ?_⟩
    obtain ⟨t3, ht3, h⟩ := of_bind h
    refine ⟨t3, ⟨pids_Check.fun_ ht3, trivial⟩, ?_⟩
    refine ⟨trivial, ?_⟩
    refine ⟨fun b4 => ?_, fun b4 => ?_⟩
    · rw [if_pos (none_t b4)] at h
      refine ⟨b4, ?_⟩
      refine ⟨trivial, ?_⟩
      refine ⟨b4, ?_⟩
      obtain ⟨t5, ht5, h⟩ := of_bind h
      refine ⟨t5, ⟨trace_mode.fun_ ht5, trivial⟩, ?_⟩
      refine ⟨b4, ?_⟩
      refine ⟨fun b6 => ?_, fun b6 => ?_⟩
      · rw [if_pos b6] at h
        refine ⟨b6, ?_⟩
        refine ⟨trivial, ?_⟩
        refine ⟨b6, ?_⟩
        obtain ⟨t7, ht7, h⟩ := of_bind h
        refine ⟨t7, ⟨trace_signal.fun_ ht7, trivial⟩, ?_⟩
        refine ⟨b6, ?_⟩
        refine ⟨fun b8 => ?_, fun b8 => ?_⟩
        · rw [if_neg (not_not_intro (not_f b8))] at h
          refine ⟨b8, ?_⟩
          refine ⟨trivial, ?_⟩
          refine ⟨b8, ?_⟩
          refine ⟨trivial, ?_⟩
          refine ⟨b8, ?_⟩
          refine ⟨fun b9 => ?_, fun b9 => ?_⟩
          · rw [if_pos (bne_t b9)] at h
            refine ⟨b9, ?_⟩
            refine ⟨trivial, ?_⟩
            refine ⟨b9, ?_⟩
            refine ⟨b9, ?_⟩
            refine ⟨fun b10 => ?_, fun b10 => ?_⟩
            · rw [if_neg (not_not_intro (not_f b10))] at h
              refine ⟨b10, ?_⟩
              refine ⟨trivial, ?_⟩
              refine ⟨b10, ?_⟩
              obtain ⟨t11, ht11, h⟩ := of_bind h
              refine ⟨t11, ⟨trace_report.fun_ ht11, trivial⟩, ?_⟩
              refine ⟨b10, ?_⟩
              refine ⟨b9, ?_⟩
              refine ⟨b10, ?_⟩
              refine ⟨b8, ?_⟩
              refine ⟨b9, ?_⟩
              refine ⟨b8, ?_⟩
              refine ⟨fun b12 => ?_, fun b12 => ?_⟩
              · rw [if_neg (not_not_intro (not_f b12))] at h
                refine ⟨b12, ?_⟩
                refine ⟨trivial, ?_⟩
                refine ⟨b12, ?_⟩
                refine ⟨fun b13 => ?_, fun b13 => ?_⟩
                · rw [if_pos b13] at h
                  refine ⟨b13, ?_⟩
                  refine ⟨trivial, ?_⟩
                  refine ⟨b13, ?_⟩
                  refine ⟨trivial, ?_⟩
                  refine ⟨b12, ?_⟩
                  refine ⟨b13, ?_⟩
                  refine ⟨b12, ?_⟩
                  refine ⟨fun b14 => ?_, fun b14 => ?_⟩
                  · rw [if_pos (bne_t b14)] at h
                    refine ⟨trivial, ?_⟩
                    refine ⟨trivial, ?_⟩
                    obtain rfl := Option.some.inj h
                    exact ⟨trivial, ⟨trivial, trivial⟩, rfl, rfl⟩
                  · rw [if_neg (not_not_intro (bne_f b14))] at h
                    refine ⟨trivial, ?_⟩
                    refine ⟨trivial, ?_⟩
                    refine ⟨trivial, ?_⟩
                    obtain rfl := Option.some.inj h
                    exact ⟨trivial, ⟨trivial, trivial⟩, rfl, rfl⟩
                · rw [if_neg (ff b13)] at h
                  refine ⟨b13, ?_⟩
                  refine ⟨b13, ?_⟩
                  refine ⟨b12, ?_⟩
                  refine ⟨b13, ?_⟩
                  refine ⟨b12, ?_⟩
                  refine ⟨rfl, ?_⟩
                  refine ⟨trivial, ?_⟩
                  refine ⟨trivial, ?_⟩
                  refine ⟨trivial, ?_⟩
                  obtain rfl := Option.some.inj h
                  exact ⟨trivial, ⟨trivial, trivial⟩, rfl, rfl⟩
              · rw [if_pos (ff (not_t b12))] at h
                refine ⟨b12, ?_⟩
                refine ⟨b12, ?_⟩
                refine ⟨b12, ?_⟩
                refine ⟨b12, ?_⟩
                refine ⟨rfl, ?_⟩
                refine ⟨trivial, ?_⟩
                refine ⟨trivial, ?_⟩
                obtain rfl := Option.some.inj h
                exact ⟨trivial, ⟨trivial, trivial⟩, rfl, rfl⟩
            · rw [if_pos (ff (not_t b10))] at h
              refine ⟨b10, ?_⟩
              refine ⟨b10, ?_⟩
              refine ⟨b10, ?_⟩
              refine ⟨b9, ?_⟩
              refine ⟨b10, ?_⟩
              refine ⟨b8, ?_⟩
              refine ⟨b9, ?_⟩
              refine ⟨b8, ?_⟩
              refine ⟨rfl, ?_⟩
              refine ⟨rfl, ?_⟩
              refine ⟨rfl, ?_⟩
              refine ⟨rfl, ?_⟩
              refine ⟨rfl, ?_⟩
              refine ⟨rfl, ?_⟩
              refine ⟨trivial, ?_⟩
              refine ⟨trivial, ?_⟩
              obtain rfl := Option.some.inj h
              exact ⟨trivial, ⟨trivial, trivial⟩, rfl, rfl⟩
          · rw [if_neg (not_not_intro (bne_f b9))] at h
            refine ⟨b9, ?_⟩
            refine ⟨b9, ?_⟩
            refine ⟨b9, ?_⟩
            refine ⟨b9, ?_⟩
            refine ⟨b8, ?_⟩
            refine ⟨b9, ?_⟩
            refine ⟨b8, ?_⟩
            refine ⟨rfl, ?_⟩
            refine ⟨rfl, ?_⟩
            refine ⟨trivial, ?_⟩
            refine ⟨rfl, ?_⟩
            refine ⟨fun b15 => ?_, fun b15 => ?_⟩
            · rw [if_pos b15] at h
              refine ⟨b15, ?_⟩
              refine ⟨trivial, ?_⟩
              refine ⟨b15, ?_⟩
              refine ⟨trivial, ?_⟩
              refine ⟨rfl, ?_⟩
              refine ⟨b15, ?_⟩
              refine ⟨rfl, ?_⟩
              refine ⟨fun b16 => ?_, fun b16 => ?_⟩
              · rw [if_pos (bne_t b16)] at h
                refine ⟨trivial, ?_⟩
                refine ⟨trivial, ?_⟩
                obtain rfl := Option.some.inj h
                exact ⟨trivial, ⟨trivial, trivial⟩, rfl, rfl⟩
              · rw [if_neg (not_not_intro (bne_f b16))] at h
                refine ⟨trivial, ?_⟩
                refine ⟨trivial, ?_⟩
                refine ⟨trivial, ?_⟩
                obtain rfl := Option.some.inj h
                exact ⟨trivial, ⟨trivial, trivial⟩, rfl, rfl⟩
            · rw [if_neg (ff b15)] at h
              refine ⟨b15, ?_⟩
              refine ⟨b15, ?_⟩
              refine ⟨rfl, ?_⟩
              refine ⟨b15, ?_⟩
              refine ⟨rfl, ?_⟩
              refine ⟨rfl, ?_⟩
              refine ⟨trivial, ?_⟩
              refine ⟨trivial, ?_⟩
              refine ⟨trivial, ?_⟩
              obtain rfl := Option.some.inj h
              exact ⟨trivial, ⟨trivial, trivial⟩, rfl, rfl⟩
        · rw [if_pos (ff (not_t b8))] at h
          refine ⟨b8, ?_⟩
          refine ⟨b8, ?_⟩
          refine ⟨b8, ?_⟩
          refine ⟨b8, ?_⟩
          refine ⟨b8, ?_⟩
          refine ⟨rfl, ?_⟩
          refine ⟨rfl, ?_⟩
          refine ⟨rfl, ?_⟩
          refine ⟨rfl, ?_⟩
          refine ⟨rfl, ?_⟩
          refine ⟨rfl, ?_⟩
          refine ⟨trivial, ?_⟩
          refine ⟨trivial, ?_⟩
          obtain rfl := Option.some.inj h
          exact ⟨trivial, ⟨trivial, trivial⟩, rfl, rfl⟩
      · rw [if_neg (ff b6)] at h
        refine ⟨b6, ?_⟩
        refine ⟨b6, ?_⟩
        refine ⟨b6, ?_⟩
        refine ⟨rfl, ?_⟩
        refine ⟨rfl, ?_⟩
        refine ⟨rfl, ?_⟩
        refine ⟨rfl, ?_⟩
        refine ⟨rfl, ?_⟩
        refine ⟨rfl, ?_⟩
        refine ⟨rfl, ?_⟩
        refine ⟨rfl, ?_⟩
        refine ⟨rfl, ?_⟩
        refine ⟨rfl, ?_⟩
        refine ⟨rfl, ?_⟩
        refine ⟨rfl, ?_⟩
        refine ⟨trivial, ?_⟩
        refine ⟨trivial, ?_⟩
        obtain rfl := Option.some.inj h
        exact ⟨trivial, ⟨trivial, trivial⟩, rfl, rfl⟩
    · rw [if_neg (none_f b4)] at h
      refine ⟨b4, ?_⟩
      refine ⟨b4, ?_⟩
      refine ⟨b4, ?_⟩
      refine ⟨rfl, ?_⟩
      refine ⟨rfl, ?_⟩
      refine ⟨rfl, ?_⟩
      refine ⟨rfl, ?_⟩
      refine ⟨rfl, ?_⟩
      refine ⟨rfl, ?_⟩
      refine ⟨rfl, ?_⟩
      refine ⟨rfl, ?_⟩
      refine ⟨rfl, ?_⟩
      refine ⟨rfl, ?_⟩
      refine ⟨rfl, ?_⟩
      refine ⟨rfl, ?_⟩
      refine ⟨rfl, ?_⟩
      refine ⟨rfl, ?_⟩
      refine ⟨rfl, ?_⟩
      refine ⟨rfl, ?_⟩
      refine ⟨trivial, ?_⟩
      refine ⟨trivial, ?_⟩
      obtain rfl := Option.some.inj h
      exact ⟨trivial, ⟨trivial, trivial⟩, rfl, rfl⟩
/-! halter/trace.Attach -/
def trace_Attach.f (a0 : Int) (a1 : Bool) (a2 : Int) (a3 : Int) (a4 : Int) (a5 : Bool) (a6 : Int) : Option (Int × Bool × Int × Int × Int × Bool × (Option Int)) :=
  (trace_Check.f a0 a1 a2 a3 a4 a5).bind fun t1 =>
  if ¬ (t1 = none) then
    some ((0 : Int), false, (0 : Int), (0 : Int), (0 : Int), false, (some (22 : Int)))
  else
    (pids_Check.f a6).bind fun t3 =>
    if ¬ (t3 = none) then
      some ((0 : Int), false, (0 : Int), (0 : Int), (0 : Int), false, (some (22 : Int)))
    else
      if ¬ a0 = (0 : Int) then
        some ((0 : Int), false, (0 : Int), (0 : Int), (0 : Int), false, (some (1 : Int)))
      else
        some (a6, false, (0 : Int), (0 : Int), (0 : Int), false, none)
def trace_Attach.R (r : Int × Bool × Int × Int × Int × Bool × (Option Int)) : Tm := .tup [.agg [.c (.sc (.int .i64 r.1)), .c (.sc (.bool r.2.1)), .c (.sc (.int .u32 r.2.2.1)), .c (.sc (.int .i64 r.2.2.2.1)), .c (.sc (.int .i64 r.2.2.2.2.1)), .c (.sc (.bool r.2.2.2.2.2.1))], .one (.err r.2.2.2.2.2.2)]
theorem trace_Attach.fun_ {a0 : Int} {a1 : Bool} {a2 : Int} {a3 : Int} {a4 : Int} {a5 : Bool} {a6 : Int} {r : Int × Bool × Int × Int × Int × Bool × (Option Int)} (h : trace_Attach.f a0 a1 a2 a3 a4 a5 a6 = some r) : Fun cfg 6 [.agg [.c (.sc (.int .i64 a0)), .c (.sc (.bool a1)), .c (.sc (.int .u32 a2)), .c (.sc (.int .i64 a3)), .c (.sc (.int .i64 a4)), .c (.sc (.bool a5))], .one (.sc (.int .i64 a6))] [] (trace_Attach.R r) [] := by
  unfold trace_Attach.f at h
  refine fun_of_run cfg_ok (f := 6) (fn := Tryd.f6) Tryd.func6 rfl (by kernel_rfl) (rs := [.cell 4 26, .tmp 5]) rfl (nt := 25) rfl (l := fin) (k := (.call true [] ((Option Int)) (fun t1 => trace_Check.R t1) (fun t1 => (.br (.one true (.one true (.one true (.one true (.adj [] (.adj [] (.adj [.drop 0] .nil))))))) (.one false (.call true [] ((Option Int)) (fun t3 => pids_Check.R t3) (fun t3 => (.one false (.one false (.br (.adj [] (.adj [] (.adj [.drop 0] .nil))) (.br (.adj [] (.adj [] (.adj [.drop 0] .nil))) (.adj [] (.adj [] (.adj [] (.adj [.drop 0] .nil))))))))))))))) (to_goal (q := (True) ∧ (∃ t1 : (Option Int), (Fun cfg 18 [.agg [.c (.sc (.int .i64 a0)), .c (.sc (.bool a1)), .c (.sc (.int .u32 a2)), .c (.sc (.int .i64 a3)), .c (.sc (.int .i64 a4)), .c (.sc (.bool a5))]] [] (trace_Check.R t1) [] ∧ True) ∧ (True) ∧ (((!(Option.isNone t1)) = false → ((!(Option.isNone t1)) = false ∧ (∃ t3 : (Option Int), (Fun cfg 22 [.one (.sc (.int .i64 a6))] [] (pids_Check.R t3) [] ∧ True) ∧ ((!(Option.isNone t1)) = false ∧ (True) ∧ ((!(Option.isNone t1)) = false ∧ (((!(Option.isNone t3)) = true → (True ∧ (True) ∧ (True ∧ (((True) ∧ True) ∧ ((True) ∧ True) ∧ (.tup [.agg [.c (.sc (.int .i64 (0 : Int))), .c (.sc (.bool false)), .c (.sc (.int .u32 (0 : Int))), .c (.sc (.int .i64 (0 : Int))), .c (.sc (.int .i64 (0 : Int))), .c (.sc (.bool false))], .one (.err (some (22 : Int)))] : Tm) = trace_Attach.R r ∧ ([] : List Box) = [])))) ∧ ((!(Option.isNone t3)) = false → (True) ∧ (True) ∧ (((a0 != (0 : Int)) = true → (True ∧ (True) ∧ (True ∧ (((True) ∧ True) ∧ ((True) ∧ True) ∧ (.tup [.agg [.c (.sc (.int .i64 (0 : Int))), .c (.sc (.bool false)), .c (.sc (.int .u32 (0 : Int))), .c (.sc (.int .i64 (0 : Int))), .c (.sc (.int .i64 (0 : Int))), .c (.sc (.bool false))], .one (.err (some (1 : Int)))] : Tm) = trace_Attach.R r ∧ ([] : List Box) = [])))) ∧ ((a0 != (0 : Int)) = false → (True ∧ (True ∧ (True) ∧ (True ∧ (((True) ∧ True) ∧ ((True) ∧ True) ∧ (.tup [.agg [.c (.sc (.int .i64 a6)), .c (.sc (.bool false)), .c (.sc (.int .u32 (0 : Int))), .c (.sc (.int .i64 (0 : Int))), .c (.sc (.int .i64 (0 : Int))), .c (.sc (.bool false))], .one (.err none)] : Tm) = trace_Attach.R r ∧ ([] : List Box) = []))))))))))))) ∧ ((!(Option.isNone t1)) = true → ((!(Option.isNone t1)) = true ∧ ((!(Option.isNone t1)) = true ∧ ((!(Option.isNone t1)) = true ∧ (true = true ∧ (True ∧ (True) ∧ (True ∧ (((True) ∧ True) ∧ ((True) ∧ True) ∧ (.tup [.agg [.c (.sc (.int .i64 (0 : Int))), .c (.sc (.bool false)), .c (.sc (.int .u32 (0 : Int))), .c (.sc (.int .i64 (0 : Int))), .c (.sc (.int .i64 (0 : Int))), .c (.sc (.bool false))], .one (.err (some (22 : Int)))] : Tm) = trace_Attach.R r ∧ ([] : List Box) = []))))))))))) (by kernel_rfl) ?_)
  refine ⟨trivial, ?_⟩
  obtain ⟨t1, ht1, h⟩ := of_bind h
  refine ⟨t1, ⟨trace_Check.fun_ ht1, trivial⟩, ?_⟩
  refine ⟨trivial, ?_⟩
  refine ⟨fun b2 => ?_, fun b2 => ?_⟩
  · rw [if_neg (not_not_intro (none_t (not_f b2)))] at h
    refine ⟨b2, ?_⟩
    obtain ⟨t3, ht3, h⟩ := of_bind h
    refine ⟨t3, ⟨pids_Check.fun_ ht3, trivial⟩, ?_⟩
    refine ⟨b2, ?_⟩
    refine ⟨trivial, ?_⟩
    refine ⟨b2, ?_⟩
    refine ⟨fun b4 => ?_, fun b4 => ?_⟩
    · rw [if_pos (none_f (not_t b4))] at h
      refine ⟨trivial, ?_⟩
      refine ⟨trivial, ?_⟩
      refine ⟨trivial, ?_⟩
      obtain rfl := Option.some.inj h
      exact ⟨⟨trivial, trivial⟩, ⟨trivial, trivial⟩, rfl, rfl⟩
    · rw [if_neg (not_not_intro (none_t (not_f b4)))] at h
      refine ⟨trivial, ?_⟩
      refine ⟨trivial, ?_⟩
      refine ⟨fun b5 => ?_, fun b5 => ?_⟩
      · rw [if_pos (bne_t b5)] at h
        refine ⟨trivial, ?_⟩
        refine ⟨trivial, ?_⟩
        refine ⟨trivial, ?_⟩
        obtain rfl := Option.some.inj h
        exact ⟨⟨trivial, trivial⟩, ⟨trivial, trivial⟩, rfl, rfl⟩
      · rw [if_neg (not_not_intro (bne_f b5))] at h
        refine ⟨trivial, ?_⟩
        refine ⟨trivial, ?_⟩
        refine ⟨trivial, ?_⟩
        refine ⟨trivial, ?_⟩
        obtain rfl := Option.some.inj h
        exact ⟨⟨trivial, trivial⟩, ⟨trivial, trivial⟩, rfl, rfl⟩
  · rw [if_pos (none_f (not_t b2))] at h
    refine ⟨b2, ?_⟩
    refine ⟨b2, ?_⟩
    refine ⟨b2, ?_⟩
    refine ⟨rfl, ?_⟩
    refine ⟨trivial, ?_⟩
    refine ⟨trivial, ?_⟩
    refine ⟨trivial, ?_⟩
    obtain rfl := Option.some.inj h
    exact ⟨⟨trivial, trivial⟩, ⟨trivial, trivial⟩, rfl, rfl⟩
/-! halter/trace.Stop -/
def trace_Stop.f (a0 : Int) (a1 : Bool) (a2 : Int) (a3 : Int) (a4 : Int) (a5 : Bool) (a6 : Int) (a7 : Bool) : Option (Int × Bool × Int × Int × Int × Bool × (Option Int)) :=
  (trace_Check.f a0 a1 a2 a3 a4 a5).bind fun t1 =>
  if ¬ (t1 = none) then
    some ((0 : Int), false, (0 : Int), (0 : Int), (0 : Int), false, (some (22 : Int)))
  else
    (trace_report.f a6).bind fun t3 =>
    if ¬ (t3 = true) then
      some ((0 : Int), false, (0 : Int), (0 : Int), (0 : Int), false, (some (22 : Int)))
    else
      if a7 = true then
        if ¬ a3 = (2 : Int) then
          some ((0 : Int), false, (0 : Int), (0 : Int), (0 : Int), false, (some (22 : Int)))
        else
          if a0 = (0 : Int) then
            some ((0 : Int), false, (0 : Int), (0 : Int), (0 : Int), false, (some (3 : Int)))
          else
            if a1 = true then
              some ((0 : Int), false, (0 : Int), (0 : Int), (0 : Int), false, (some (22 : Int)))
            else
              some (a0, true, a6, a3, a4, a7, none)
      else
        if a0 = (0 : Int) then
          some ((0 : Int), false, (0 : Int), (0 : Int), (0 : Int), false, (some (3 : Int)))
        else
          if a1 = true then
            some ((0 : Int), false, (0 : Int), (0 : Int), (0 : Int), false, (some (22 : Int)))
          else
            some (a0, true, a6, a3, a4, a7, none)
def trace_Stop.R (r : Int × Bool × Int × Int × Int × Bool × (Option Int)) : Tm := .tup [.agg [.c (.sc (.int .i64 r.1)), .c (.sc (.bool r.2.1)), .c (.sc (.int .u32 r.2.2.1)), .c (.sc (.int .i64 r.2.2.2.1)), .c (.sc (.int .i64 r.2.2.2.2.1)), .c (.sc (.bool r.2.2.2.2.2.1))], .one (.err r.2.2.2.2.2.2)]
theorem trace_Stop.fun_ {a0 : Int} {a1 : Bool} {a2 : Int} {a3 : Int} {a4 : Int} {a5 : Bool} {a6 : Int} {a7 : Bool} {r : Int × Bool × Int × Int × Int × Bool × (Option Int)} (h : trace_Stop.f a0 a1 a2 a3 a4 a5 a6 a7 = some r) : Fun cfg 8 [.agg [.c (.sc (.int .i64 a0)), .c (.sc (.bool a1)), .c (.sc (.int .u32 a2)), .c (.sc (.int .i64 a3)), .c (.sc (.int .i64 a4)), .c (.sc (.bool a5))], .one (.sc (.int .u32 a6)), .one (.sc (.bool a7))] [] (trace_Stop.R r) [] := by
  unfold trace_Stop.f at h
  refine fun_of_run cfg_ok (f := 8) (fn := Tryd.f8) Tryd.func8 rfl (by kernel_rfl) (rs := [.cell 6 26, .tmp 7]) rfl (nt := 44) rfl (l := fin) (k := (.call true [] ((Option Int)) (fun t1 => trace_Check.R t1) (fun t1 => (.br (.one true (.one true (.one true (.one true (.one true (.one true (.one true (.one true (.adj [] (.adj [] (.adj [.drop 0] .nil))))))))))) (.one false (.call true [] (Bool) (fun t3 => trace_report.R t3) (fun t3 => (.one false (.one false (.br (.one true (.one true (.one true (.one true (.adj [] (.adj [] (.adj [.drop 0] .nil))))))) (.one false (.br (.one true (.one true (.one false (.one true (.one false (.br (.adj [] (.adj [] (.adj [.drop 0] .nil))) (.br (.adj [] (.adj [] (.adj [.drop 0] .nil))) (.br (.adj [] (.adj [] (.adj [.drop 0] .nil))) (.adj [] (.adj [] (.adj [] (.adj [] (.adj [.drop 0] .nil))))))))))))) (.one false (.one false (.one false (.one false (.one false (.one false (.br (.adj [] (.adj [] (.adj [.drop 0] .nil))) (.br (.adj [] (.adj [] (.adj [.drop 0] .nil))) (.adj [] (.adj [] (.adj [] (.adj [] (.adj [.drop 0] .nil))))))))))))))))))))))))) (to_goal (q := (True) ∧ (∃ t1 : (Option Int), (Fun cfg 18 [.agg [.c (.sc (.int .i64 a0)), .c (.sc (.bool a1)), .c (.sc (.int .u32 a2)), .c (.sc (.int .i64 a3)), .c (.sc (.int .i64 a4)), .c (.sc (.bool a5))]] [] (trace_Check.R t1) [] ∧ True) ∧ (True) ∧ (((!(Option.isNone t1)) = false → ((!(Option.isNone t1)) = false ∧ (∃ t3 : Bool, (Fun cfg 23 [.one (.sc (.int .u32 a6))] [] (trace_report.R t3) [] ∧ True) ∧ ((!(Option.isNone t1)) = false ∧ ((!(Option.isNone t1)) = false ∧ (((!t3) = false → ((!t3) = false ∧ ((a7 = true → (a7 = true ∧ (True) ∧ (a7 = true ∧ (True) ∧ ((!t3) = false ∧ (a7 = true ∧ ((!t3) = false ∧ (((a3 != (2 : Int)) = true → (True ∧ (True) ∧ (True ∧ (((True) ∧ True) ∧ ((True) ∧ True) ∧ (.tup [.agg [.c (.sc (.int .i64 (0 : Int))), .c (.sc (.bool false)), .c (.sc (.int .u32 (0 : Int))), .c (.sc (.int .i64 (0 : Int))), .c (.sc (.int .i64 (0 : Int))), .c (.sc (.bool false))], .one (.err (some (22 : Int)))] : Tm) = trace_Stop.R r ∧ ([] : List Box) = [])))) ∧ ((a3 != (2 : Int)) = false → (True) ∧ (True) ∧ (((a0 == (0 : Int)) = true → (True ∧ (True) ∧ (True ∧ (((True) ∧ True) ∧ ((True) ∧ True) ∧ (.tup [.agg [.c (.sc (.int .i64 (0 : Int))), .c (.sc (.bool false)), .c (.sc (.int .u32 (0 : Int))), .c (.sc (.int .i64 (0 : Int))), .c (.sc (.int .i64 (0 : Int))), .c (.sc (.bool false))], .one (.err (some (3 : Int)))] : Tm) = trace_Stop.R r ∧ ([] : List Box) = [])))) ∧ ((a0 == (0 : Int)) = false → (True) ∧ ((a1 = true → (True ∧ (True) ∧ (True ∧ (((True) ∧ True) ∧ ((True) ∧ True) ∧ (.tup [.agg [.c (.sc (.int .i64 (0 : Int))), .c (.sc (.bool false)), .c (.sc (.int .u32 (0 : Int))), .c (.sc (.int .i64 (0 : Int))), .c (.sc (.int .i64 (0 : Int))), .c (.sc (.bool false))], .one (.err (some (22 : Int)))] : Tm) = trace_Stop.R r ∧ ([] : List Box) = [])))) ∧ (a1 = false → (True ∧ (True ∧ (True) ∧ (True) ∧ (True) ∧ (True ∧ (True) ∧ (True) ∧ (True ∧ (((True) ∧ True) ∧ ((True) ∧ True) ∧ (.tup [.agg [.c (.sc (.int .i64 a0)), .c (.sc (.bool true)), .c (.sc (.int .u32 a6)), .c (.sc (.int .i64 a3)), .c (.sc (.int .i64 a4)), .c (.sc (.bool a7))], .one (.err none)] : Tm) = trace_Stop.R r ∧ ([] : List Box) = []))))))))))))))))) ∧ (a7 = false → (a7 = false ∧ (a7 = false ∧ ((!t3) = false ∧ (a7 = false ∧ ((!t3) = false ∧ (false = false ∧ (True) ∧ (True) ∧ (((a0 == (0 : Int)) = true → (True ∧ (True) ∧ (True ∧ (((True) ∧ True) ∧ ((True) ∧ True) ∧ (.tup [.agg [.c (.sc (.int .i64 (0 : Int))), .c (.sc (.bool false)), .c (.sc (.int .u32 (0 : Int))), .c (.sc (.int .i64 (0 : Int))), .c (.sc (.int .i64 (0 : Int))), .c (.sc (.bool false))], .one (.err (some (3 : Int)))] : Tm) = trace_Stop.R r ∧ ([] : List Box) = [])))) ∧ ((a0 == (0 : Int)) = false → (True) ∧ ((a1 = true → (True ∧ (True) ∧ (True ∧ (((True) ∧ True) ∧ ((True) ∧ True) ∧ (.tup [.agg [.c (.sc (.int .i64 (0 : Int))), .c (.sc (.bool false)), .c (.sc (.int .u32 (0 : Int))), .c (.sc (.int .i64 (0 : Int))), .c (.sc (.int .i64 (0 : Int))), .c (.sc (.bool false))], .one (.err (some (22 : Int)))] : Tm) = trace_Stop.R r ∧ ([] : List Box) = [])))) ∧ (a1 = false → (True ∧ (True ∧ (True) ∧ (True) ∧ (True) ∧ (True ∧ (True) ∧ (True) ∧ (True ∧ (((True) ∧ True) ∧ ((True) ∧ True) ∧ (.tup [.agg [.c (.sc (.int .i64 a0)), .c (.sc (.bool true)), .c (.sc (.int .u32 a6)), .c (.sc (.int .i64 a3)), .c (.sc (.int .i64 a4)), .c (.sc (.bool a7))], .one (.err none)] : Tm) = trace_Stop.R r ∧ ([] : List Box) = []))))))))))))))))))) ∧ ((!t3) = true → ((!t3) = true ∧ ((!t3) = true ∧ ((!t3) = true ∧ (true = true ∧ (True ∧ (True) ∧ (True ∧ (((True) ∧ True) ∧ ((True) ∧ True) ∧ (.tup [.agg [.c (.sc (.int .i64 (0 : Int))), .c (.sc (.bool false)), .c (.sc (.int .u32 (0 : Int))), .c (.sc (.int .i64 (0 : Int))), .c (.sc (.int .i64 (0 : Int))), .c (.sc (.bool false))], .one (.err (some (22 : Int)))] : Tm) = trace_Stop.R r ∧ ([] : List Box) = [])))))))))))))) ∧ ((!(Option.isNone t1)) = true → ((!(Option.isNone t1)) = true ∧ ((!(Option.isNone t1)) = true ∧ ((!(Option.isNone t1)) = true ∧ (true = true ∧ (true = true ∧ (true = true ∧ (true = true ∧ (true = true ∧ (True ∧ (True) ∧ (True ∧ (((True) ∧ True) ∧ ((True) ∧ True) ∧ (.tup [.agg [.c (.sc (.int .i64 (0 : Int))), .c (.sc (.bool false)), .c (.sc (.int .u32 (0 : Int))), .c (.sc (.int .i64 (0 : Int))), .c (.sc (.int .i64 (0 : Int))), .c (.sc (.bool false))], .one (.err (some (22 : Int)))] : Tm) = trace_Stop.R r ∧ ([] : List Box) = []))))))))))))))) (by kernel_rfl) ?_)
  refine ⟨trivial, ?_⟩
  obtain ⟨t1, ht1, h⟩ := of_bind h
  refine ⟨t1, ⟨trace_Check.fun_ ht1, trivial⟩, ?_⟩
  refine ⟨trivial, ?_⟩
  refine ⟨fun b2 => ?_, fun b2 => ?_⟩
  · rw [if_neg (not_not_intro (none_t (not_f b2)))] at h
    refine ⟨b2, ?_⟩
    obtain ⟨t3, ht3, h⟩ := of_bind h
    refine ⟨t3, ⟨trace_report.fun_ ht3, trivial⟩, ?_⟩
    refine ⟨b2, ?_⟩
    refine ⟨b2, ?_⟩
    refine ⟨fun b4 => ?_, fun b4 => ?_⟩
    · rw [if_neg (not_not_intro (not_f b4))] at h
      refine ⟨b4, ?_⟩
      refine ⟨fun b5 => ?_, fun b5 => ?_⟩
      · rw [if_pos b5] at h
        refine ⟨b5, ?_⟩
        refine ⟨trivial, ?_⟩
        refine ⟨b5, ?_⟩
        refine ⟨trivial, ?_⟩
        refine ⟨b4, ?_⟩
        refine ⟨b5, ?_⟩
        refine ⟨b4, ?_⟩
        refine ⟨fun b6 => ?_, fun b6 => ?_⟩
        · rw [if_pos (bne_t b6)] at h
          refine ⟨trivial, ?_⟩
          refine ⟨trivial, ?_⟩
          refine ⟨trivial, ?_⟩
          obtain rfl := Option.some.inj h
          exact ⟨⟨trivial, trivial⟩, ⟨trivial, trivial⟩, rfl, rfl⟩
        · rw [if_neg (not_not_intro (bne_f b6))] at h
          refine ⟨trivial, ?_⟩
          refine ⟨trivial, ?_⟩
          refine ⟨fun b7 => ?_, fun b7 => ?_⟩
          · rw [if_pos (beq_t b7)] at h
            refine ⟨trivial, ?_⟩
            refine ⟨trivial, ?_⟩
            refine ⟨trivial, ?_⟩
            obtain rfl := Option.some.inj h
            exact ⟨⟨trivial, trivial⟩, ⟨trivial, trivial⟩, rfl, rfl⟩
          · rw [if_neg (beq_f b7)] at h
            refine ⟨trivial, ?_⟩
            refine ⟨fun b8 => ?_, fun b8 => ?_⟩
            · rw [if_pos b8] at h
              refine ⟨trivial, ?_⟩
              refine ⟨trivial, ?_⟩
              refine ⟨trivial, ?_⟩
              obtain rfl := Option.some.inj h
              exact ⟨⟨trivial, trivial⟩, ⟨trivial, trivial⟩, rfl, rfl⟩
            · rw [if_neg (ff b8)] at h
              refine ⟨trivial, ?_⟩
              refine ⟨trivial, ?_⟩
              refine ⟨trivial, ?_⟩
              refine ⟨trivial, ?_⟩
              refine ⟨trivial, ?_⟩
              refine ⟨trivial, ?_⟩
              refine ⟨trivial, ?_⟩
              refine ⟨trivial, ?_⟩
              refine ⟨trivial, ?_⟩
              obtain rfl := Option.some.inj h
              exact ⟨⟨trivial, trivial⟩, ⟨trivial, trivial⟩, rfl, rfl⟩
      · rw [if_neg (ff b5)] at h
        refine ⟨b5, ?_⟩
        refine ⟨b5, ?_⟩
        refine ⟨b4, ?_⟩
        refine ⟨b5, ?_⟩
        refine ⟨b4, ?_⟩
        refine ⟨rfl, ?_⟩
        refine ⟨trivial, ?_⟩
        refine ⟨trivial, ?_⟩
        refine ⟨fun b9 => ?_, fun b9 => ?_⟩
        · rw [if_pos (beq_t b9)] at h
          refine ⟨trivial, ?_⟩
          refine ⟨trivial, ?_⟩
          refine ⟨trivial, ?_⟩
          obtain rfl := Option.some.inj h
          exact ⟨⟨trivial, trivial⟩, ⟨trivial, trivial⟩, rfl, rfl⟩
        · rw [if_neg (beq_f b9)] at h
          refine ⟨trivial, ?_⟩
          refine ⟨fun b10 => ?_, fun b10 => ?_⟩
          · rw [if_pos b10] at h
            refine ⟨trivial, ?_⟩
            refine ⟨trivial, ?_⟩
            refine ⟨trivial, ?_⟩
            obtain rfl := Option.some.inj h
            exact ⟨⟨trivial, trivial⟩, ⟨trivial, trivial⟩, rfl, rfl⟩
          · rw [if_neg (ff b10)] at h
            refine ⟨trivial, ?_⟩
            refine ⟨trivial, ?_⟩
            refine ⟨trivial, ?_⟩
            refine ⟨trivial, ?_⟩
            refine ⟨trivial, ?_⟩
            refine ⟨trivial, ?_⟩
            refine ⟨trivial, ?_⟩
            refine ⟨trivial, ?_⟩
            refine ⟨trivial, ?_⟩
            obtain rfl := Option.some.inj h
            exact ⟨⟨trivial, trivial⟩, ⟨trivial, trivial⟩, rfl, rfl⟩
    · rw [if_pos (ff (not_t b4))] at h
      refine ⟨b4, ?_⟩
      refine ⟨b4, ?_⟩
      refine ⟨b4, ?_⟩
      refine ⟨rfl, ?_⟩
      refine ⟨trivial, ?_⟩
      refine ⟨trivial, ?_⟩
      refine ⟨trivial, ?_⟩
      obtain rfl := Option.some.inj h
      exact ⟨⟨trivial, trivial⟩, ⟨trivial, trivial⟩, rfl, rfl⟩
  · rw [if_pos (none_f (not_t b2))] at h
    refine ⟨b2, ?_⟩
    refine ⟨b2, ?_⟩
    refine ⟨b2, ?_⟩
    refine ⟨rfl, ?_⟩
    refine ⟨rfl, ?_⟩
    refine ⟨rfl, ?_⟩
    refine ⟨rfl, ?_⟩
    refine ⟨rfl, ?_⟩
    refine ⟨trivial, ?_⟩
    refine ⟨trivial, ?_⟩
    refine ⟨trivial, ?_⟩
    obtain rfl := Option.some.inj h
    exact ⟨⟨trivial, trivial⟩, ⟨trivial, trivial⟩, rfl, rfl⟩
/-! halter/trace.Collect -/
def trace_Collect.f (a0 : Int) (a1 : Bool) (a2 : Int) (a3 : Int) (a4 : Int) (a5 : Bool) : Option (Int × Int × Bool × Int × Int × Int × Bool × (Option Int)) :=
  (trace_Check.f a0 a1 a2 a3 a4 a5).bind fun t1 =>
  if ¬ (t1 = none) then
    some ((0 : Int), (0 : Int), false, (0 : Int), (0 : Int), (0 : Int), false, (some (22 : Int)))
  else
    if a2 = (0 : Int) then
      some ((0 : Int), (0 : Int), false, (0 : Int), (0 : Int), (0 : Int), false, (some (10 : Int)))
    else
      some (a2, a0, a1, (0 : Int), a3, a4, a5, none)
def trace_Collect.R (r : Int × Int × Bool × Int × Int × Int × Bool × (Option Int)) : Tm := .tup [.one (.sc (.int .u32 r.1)), .agg [.c (.sc (.int .i64 r.2.1)), .c (.sc (.bool r.2.2.1)), .c (.sc (.int .u32 r.2.2.2.1)), .c (.sc (.int .i64 r.2.2.2.2.1)), .c (.sc (.int .i64 r.2.2.2.2.2.1)), .c (.sc (.bool r.2.2.2.2.2.2.1))], .one (.err r.2.2.2.2.2.2.2)]
theorem trace_Collect.fun_ {a0 : Int} {a1 : Bool} {a2 : Int} {a3 : Int} {a4 : Int} {a5 : Bool} {r : Int × Int × Bool × Int × Int × Int × Bool × (Option Int)} (h : trace_Collect.f a0 a1 a2 a3 a4 a5 = some r) : Fun cfg 10 [.agg [.c (.sc (.int .i64 a0)), .c (.sc (.bool a1)), .c (.sc (.int .u32 a2)), .c (.sc (.int .i64 a3)), .c (.sc (.int .i64 a4)), .c (.sc (.bool a5))]] [] (trace_Collect.R r) [] := by
  unfold trace_Collect.f at h
  refine fun_of_run cfg_ok (f := 10) (fn := Tryd.f10) Tryd.func10 rfl (by kernel_rfl) (rs := [.tmp 2, .cell 3 26, .tmp 4]) rfl (nt := 23) rfl (l := fin) (k := (.call true [] ((Option Int)) (fun t1 => trace_Check.R t1) (fun t1 => (.br (.adj [] (.adj [] (.adj [.drop 0] .nil))) (.br (.adj [] (.adj [] (.adj [.drop 0] .nil))) (.dr [(0, ⟨none, .no⟩), (2, ⟨none, .no⟩), (1, ⟨none, .no⟩), (3, ⟨none, .no⟩), (4, ⟨none, .no⟩)] (.adj [] (.adj [.drop 0] .nil)))))))) (to_goal (q := (True) ∧ (∃ t1 : (Option Int), (Fun cfg 18 [.agg [.c (.sc (.int .i64 a0)), .c (.sc (.bool a1)), .c (.sc (.int .u32 a2)), .c (.sc (.int .i64 a3)), .c (.sc (.int .i64 a4)), .c (.sc (.bool a5))]] [] (trace_Check.R t1) [] ∧ True) ∧ (True) ∧ (((!(Option.isNone t1)) = true → (True ∧ (True) ∧ (True ∧ (((True) ∧ True) ∧ ((True) ∧ True) ∧ (.tup [.one (.sc (.int .u32 (0 : Int))), .agg [.c (.sc (.int .i64 (0 : Int))), .c (.sc (.bool false)), .c (.sc (.int .u32 (0 : Int))), .c (.sc (.int .i64 (0 : Int))), .c (.sc (.int .i64 (0 : Int))), .c (.sc (.bool false))], .one (.err (some (22 : Int)))] : Tm) = trace_Collect.R r ∧ ([] : List Box) = [])))) ∧ ((!(Option.isNone t1)) = false → (True) ∧ (True) ∧ (((a2 == (0 : Int)) = true → (True ∧ (True) ∧ (True ∧ (((True) ∧ True) ∧ ((True) ∧ True) ∧ (.tup [.one (.sc (.int .u32 (0 : Int))), .agg [.c (.sc (.int .i64 (0 : Int))), .c (.sc (.bool false)), .c (.sc (.int .u32 (0 : Int))), .c (.sc (.int .i64 (0 : Int))), .c (.sc (.int .i64 (0 : Int))), .c (.sc (.bool false))], .one (.err (some (10 : Int)))] : Tm) = trace_Collect.R r ∧ ([] : List Box) = [])))) ∧ ((a2 == (0 : Int)) = false → (True) ∧ (True) ∧ (True) ∧ (True) ∧ (True ∧ (((True) ∧ True) ∧ ((True) ∧ True) ∧ (.tup [.one (.sc (.int .u32 a2)), .agg [.c (.sc (.int .i64 a0)), .c (.sc (.bool a1)), .c (.sc (.int .u32 (0 : Int))), .c (.sc (.int .i64 a3)), .c (.sc (.int .i64 a4)), .c (.sc (.bool a5))], .one (.err none)] : Tm) = trace_Collect.R r ∧ ([] : List Box) = [])))))))) (by kernel_rfl) ?_)
  refine ⟨trivial, ?_⟩
  obtain ⟨t1, ht1, h⟩ := of_bind h
  refine ⟨t1, ⟨trace_Check.fun_ ht1, trivial⟩, ?_⟩
  refine ⟨trivial, ?_⟩
  refine ⟨fun b2 => ?_, fun b2 => ?_⟩
  · rw [if_pos (none_f (not_t b2))] at h
    refine ⟨trivial, ?_⟩
    refine ⟨trivial, ?_⟩
    refine ⟨trivial, ?_⟩
    obtain rfl := Option.some.inj h
    exact ⟨⟨trivial, trivial⟩, ⟨trivial, trivial⟩, rfl, rfl⟩
  · rw [if_neg (not_not_intro (none_t (not_f b2)))] at h
    refine ⟨trivial, ?_⟩
    refine ⟨trivial, ?_⟩
    refine ⟨fun b3 => ?_, fun b3 => ?_⟩
    · rw [if_pos (beq_t b3)] at h
      refine ⟨trivial, ?_⟩
      refine ⟨trivial, ?_⟩
      refine ⟨trivial, ?_⟩
      obtain rfl := Option.some.inj h
      exact ⟨⟨trivial, trivial⟩, ⟨trivial, trivial⟩, rfl, rfl⟩
    · rw [if_neg (beq_f b3)] at h
      refine ⟨trivial, ?_⟩
      refine ⟨trivial, ?_⟩
      refine ⟨trivial, trivial, ?_⟩
      refine ⟨trivial, ?_⟩
      obtain rfl := Option.some.inj h
      exact ⟨⟨trivial, trivial⟩, ⟨trivial, trivial⟩, rfl, rfl⟩
/-! halter/trace.Resume -/
def trace_Resume.f (a0 : Int) (a1 : Bool) (a2 : Int) (a3 : Int) (a4 : Int) (a5 : Bool) (a6 : Int) (a7 : Int) : Option (Int × Bool × Int × Int × Int × Bool × (Option Int)) :=
  (trace_Check.f a0 a1 a2 a3 a4 a5).bind fun t1 =>
  if ¬ (t1 = none) then
    some ((0 : Int), false, (0 : Int), (0 : Int), (0 : Int), false, (some (22 : Int)))
  else
    (trace_mode.f a6).bind fun t3 =>
    if ¬ (t3 = true) then
      some ((0 : Int), false, (0 : Int), (0 : Int), (0 : Int), false, (some (22 : Int)))
    else
      (trace_signal.f a7).bind fun t5 =>
      if ¬ (t5 = true) then
        some ((0 : Int), false, (0 : Int), (0 : Int), (0 : Int), false, (some (22 : Int)))
      else
        if ¬ (a1 = true) then
          some ((0 : Int), false, (0 : Int), (0 : Int), (0 : Int), false, (some (3 : Int)))
        else
          if a5 = true then
            some (a0, false, (0 : Int), a6, a7, (a6 == (2 : Int)), none)
          else
            some (a0, false, (0 : Int), a6, a7, false, none)
def trace_Resume.R (r : Int × Bool × Int × Int × Int × Bool × (Option Int)) : Tm := .tup [.agg [.c (.sc (.int .i64 r.1)), .c (.sc (.bool r.2.1)), .c (.sc (.int .u32 r.2.2.1)), .c (.sc (.int .i64 r.2.2.2.1)), .c (.sc (.int .i64 r.2.2.2.2.1)), .c (.sc (.bool r.2.2.2.2.2.1))], .one (.err r.2.2.2.2.2.2)]
theorem trace_Resume.fun_ {a0 : Int} {a1 : Bool} {a2 : Int} {a3 : Int} {a4 : Int} {a5 : Bool} {a6 : Int} {a7 : Int} {r : Int × Bool × Int × Int × Int × Bool × (Option Int)} (h : trace_Resume.f a0 a1 a2 a3 a4 a5 a6 a7 = some r) : Fun cfg 12 [.agg [.c (.sc (.int .i64 a0)), .c (.sc (.bool a1)), .c (.sc (.int .u32 a2)), .c (.sc (.int .i64 a3)), .c (.sc (.int .i64 a4)), .c (.sc (.bool a5))], .one (.sc (.int .i64 a6)), .one (.sc (.int .i64 a7))] [] (trace_Resume.R r) [] := by
  unfold trace_Resume.f at h
  refine fun_of_run cfg_ok (f := 12) (fn := Tryd.f12) Tryd.func12 rfl (by kernel_rfl) (rs := [.cell 6 26, .tmp 7]) rfl (nt := 44) rfl (l := fin) (k := (.call true [] ((Option Int)) (fun t1 => trace_Check.R t1) (fun t1 => (.br (.one true (.one true (.one true (.one true (.one true (.one true (.one true (.one true (.adj [] (.adj [] (.adj [.drop 0] .nil))))))))))) (.one false (.call true [] (Bool) (fun t3 => trace_mode.R t3) (fun t3 => (.one false (.one false (.br (.one true (.one true (.one true (.one true (.adj [] (.adj [] (.adj [.drop 0] .nil))))))) (.one false (.call true [] (Bool) (fun t5 => trace_signal.R t5) (fun t5 => (.one false (.one false (.br (.adj [] (.adj [] (.adj [.drop 0] .nil))) (.br (.adj [] (.adj [] (.adj [.drop 0] .nil))) (.br (.one true (.one true (.adj [] (.adj [] (.adj [.drop 0] .nil))))) (.one false (.one false (.adj [] (.adj [] (.adj [.drop 0] .nil))))))))))))))))))))))) (to_goal (q := (True) ∧ (∃ t1 : (Option Int), (Fun cfg 18 [.agg [.c (.sc (.int .i64 a0)), .c (.sc (.bool a1)), .c (.sc (.int .u32 a2)), .c (.sc (.int .i64 a3)), .c (.sc (.int .i64 a4)), .c (.sc (.bool a5))]] [] (trace_Check.R t1) [] ∧ True) ∧ (True) ∧ (((!(Option.isNone t1)) = false → ((!(Option.isNone t1)) = false ∧ (∃ t3 : Bool, (Fun cfg 25 [.one (.sc (.int .i64 a6))] [] (trace_mode.R t3) [] ∧ True) ∧ ((!(Option.isNone t1)) = false ∧ ((!(Option.isNone t1)) = false ∧ (((!t3) = false → ((!t3) = false ∧ (∃ t5 : Bool, (Fun cfg 26 [.one (.sc (.int .i64 a7))] [] (trace_signal.R t5) [] ∧ True) ∧ ((!t3) = false ∧ ((!t3) = false ∧ (((!t5) = true → (True ∧ (True) ∧ (True ∧ (((True) ∧ True) ∧ ((True) ∧ True) ∧ (.tup [.agg [.c (.sc (.int .i64 (0 : Int))), .c (.sc (.bool false)), .c (.sc (.int .u32 (0 : Int))), .c (.sc (.int .i64 (0 : Int))), .c (.sc (.int .i64 (0 : Int))), .c (.sc (.bool false))], .one (.err (some (22 : Int)))] : Tm) = trace_Resume.R r ∧ ([] : List Box) = [])))) ∧ ((!t5) = false → (True) ∧ (((!a1) = true → (True ∧ (True) ∧ (True ∧ (((True) ∧ True) ∧ ((True) ∧ True) ∧ (.tup [.agg [.c (.sc (.int .i64 (0 : Int))), .c (.sc (.bool false)), .c (.sc (.int .u32 (0 : Int))), .c (.sc (.int .i64 (0 : Int))), .c (.sc (.int .i64 (0 : Int))), .c (.sc (.bool false))], .one (.err (some (3 : Int)))] : Tm) = trace_Resume.R r ∧ ([] : List Box) = [])))) ∧ ((!a1) = false → (True) ∧ (True) ∧ (True) ∧ (True) ∧ (True) ∧ ((a5 = true → (a5 = true ∧ (True) ∧ (a5 = true ∧ (True) ∧ (True ∧ (True) ∧ (True) ∧ (True ∧ (((True) ∧ True) ∧ ((True) ∧ True) ∧ (.tup [.agg [.c (.sc (.int .i64 a0)), .c (.sc (.bool false)), .c (.sc (.int .u32 (0 : Int))), .c (.sc (.int .i64 a6)), .c (.sc (.int .i64 a7)), .c (.sc (.bool (a6 == (2 : Int))))], .one (.err none)] : Tm) = trace_Resume.R r ∧ ([] : List Box) = [])))))) ∧ (a5 = false → (a5 = false ∧ (a5 = false ∧ (True) ∧ (True ∧ (True) ∧ (True) ∧ (True ∧ (((True) ∧ True) ∧ ((True) ∧ True) ∧ (.tup [.agg [.c (.sc (.int .i64 a0)), .c (.sc (.bool false)), .c (.sc (.int .u32 (0 : Int))), .c (.sc (.int .i64 a6)), .c (.sc (.int .i64 a7)), .c (.sc (.bool false))], .one (.err none)] : Tm) = trace_Resume.R r ∧ ([] : List Box) = [])))))))))))))))) ∧ ((!t3) = true → ((!t3) = true ∧ ((!t3) = true ∧ ((!t3) = true ∧ (true = true ∧ (True ∧ (True) ∧ (True ∧ (((True) ∧ True) ∧ ((True) ∧ True) ∧ (.tup [.agg [.c (.sc (.int .i64 (0 : Int))), .c (.sc (.bool false)), .c (.sc (.int .u32 (0 : Int))), .c (.sc (.int .i64 (0 : Int))), .c (.sc (.int .i64 (0 : Int))), .c (.sc (.bool false))], .one (.err (some (22 : Int)))] : Tm) = trace_Resume.R r ∧ ([] : List Box) = [])))))))))))))) ∧ ((!(Option.isNone t1)) = true → ((!(Option.isNone t1)) = true ∧ ((!(Option.isNone t1)) = true ∧ ((!(Option.isNone t1)) = true ∧ (true = true ∧ (true = true ∧ (true = true ∧ (true = true ∧ (true = true ∧ (True ∧ (True) ∧ (True ∧ (((True) ∧ True) ∧ ((True) ∧ True) ∧ (.tup [.agg [.c (.sc (.int .i64 (0 : Int))), .c (.sc (.bool false)), .c (.sc (.int .u32 (0 : Int))), .c (.sc (.int .i64 (0 : Int))), .c (.sc (.int .i64 (0 : Int))), .c (.sc (.bool false))], .one (.err (some (22 : Int)))] : Tm) = trace_Resume.R r ∧ ([] : List Box) = []))))))))))))))) (by kernel_rfl) ?_)
  refine ⟨trivial, ?_⟩
  obtain ⟨t1, ht1, h⟩ := of_bind h
  refine ⟨t1, ⟨trace_Check.fun_ ht1, trivial⟩, ?_⟩
  refine ⟨trivial, ?_⟩
  refine ⟨fun b2 => ?_, fun b2 => ?_⟩
  · rw [if_neg (not_not_intro (none_t (not_f b2)))] at h
    refine ⟨b2, ?_⟩
    obtain ⟨t3, ht3, h⟩ := of_bind h
    refine ⟨t3, ⟨trace_mode.fun_ ht3, trivial⟩, ?_⟩
    refine ⟨b2, ?_⟩
    refine ⟨b2, ?_⟩
    refine ⟨fun b4 => ?_, fun b4 => ?_⟩
    · rw [if_neg (not_not_intro (not_f b4))] at h
      refine ⟨b4, ?_⟩
      obtain ⟨t5, ht5, h⟩ := of_bind h
      refine ⟨t5, ⟨trace_signal.fun_ ht5, trivial⟩, ?_⟩
      refine ⟨b4, ?_⟩
      refine ⟨b4, ?_⟩
      refine ⟨fun b6 => ?_, fun b6 => ?_⟩
      · rw [if_pos (ff (not_t b6))] at h
        refine ⟨trivial, ?_⟩
        refine ⟨trivial, ?_⟩
        refine ⟨trivial, ?_⟩
        obtain rfl := Option.some.inj h
        exact ⟨⟨trivial, trivial⟩, ⟨trivial, trivial⟩, rfl, rfl⟩
      · rw [if_neg (not_not_intro (not_f b6))] at h
        refine ⟨trivial, ?_⟩
        refine ⟨fun b7 => ?_, fun b7 => ?_⟩
        · rw [if_pos (ff (not_t b7))] at h
          refine ⟨trivial, ?_⟩
          refine ⟨trivial, ?_⟩
          refine ⟨trivial, ?_⟩
          obtain rfl := Option.some.inj h
          exact ⟨⟨trivial, trivial⟩, ⟨trivial, trivial⟩, rfl, rfl⟩
        · rw [if_neg (not_not_intro (not_f b7))] at h
          refine ⟨trivial, ?_⟩
          refine ⟨trivial, ?_⟩
          refine ⟨trivial, ?_⟩
          refine ⟨trivial, ?_⟩
          refine ⟨trivial, ?_⟩
          refine ⟨fun b8 => ?_, fun b8 => ?_⟩
          · rw [if_pos b8] at h
            refine ⟨b8, ?_⟩
            refine ⟨trivial, ?_⟩
            refine ⟨b8, ?_⟩
            refine ⟨trivial, ?_⟩
            refine ⟨trivial, ?_⟩
            refine ⟨trivial, ?_⟩
            refine ⟨trivial, ?_⟩
            refine ⟨trivial, ?_⟩
            obtain rfl := Option.some.inj h
            exact ⟨⟨trivial, trivial⟩, ⟨trivial, trivial⟩, rfl, rfl⟩
          · rw [if_neg (ff b8)] at h
            refine ⟨b8, ?_⟩
            refine ⟨b8, ?_⟩
            refine ⟨trivial, ?_⟩
            refine ⟨trivial, ?_⟩
            refine ⟨trivial, ?_⟩
            refine ⟨trivial, ?_⟩
            refine ⟨trivial, ?_⟩
            obtain rfl := Option.some.inj h
            exact ⟨⟨trivial, trivial⟩, ⟨trivial, trivial⟩, rfl, rfl⟩
    · rw [if_pos (ff (not_t b4))] at h
      refine ⟨b4, ?_⟩
      refine ⟨b4, ?_⟩
      refine ⟨b4, ?_⟩
      refine ⟨rfl, ?_⟩
      refine ⟨trivial, ?_⟩
      refine ⟨trivial, ?_⟩
      refine ⟨trivial, ?_⟩
      obtain rfl := Option.some.inj h
      exact ⟨⟨trivial, trivial⟩, ⟨trivial, trivial⟩, rfl, rfl⟩
  · rw [if_pos (none_f (not_t b2))] at h
    refine ⟨b2, ?_⟩
    refine ⟨b2, ?_⟩
    refine ⟨b2, ?_⟩
    refine ⟨rfl, ?_⟩
    refine ⟨rfl, ?_⟩
    refine ⟨rfl, ?_⟩
    refine ⟨rfl, ?_⟩
    refine ⟨rfl, ?_⟩
    refine ⟨trivial, ?_⟩
    refine ⟨trivial, ?_⟩
    refine ⟨trivial, ?_⟩
    obtain rfl := Option.some.inj h
    exact ⟨⟨trivial, trivial⟩, ⟨trivial, trivial⟩, rfl, rfl⟩
/-! halter/trace.Free -/
def trace_Free.f (a0 : Int) (a1 : Bool) (a2 : Int) (a3 : Int) (a4 : Int) (a5 : Bool) : Option (Int × Bool × Int × Int × Int × Bool) :=
  some ((0 : Int), false, (0 : Int), (0 : Int), (0 : Int), false)
def trace_Free.R (r : Int × Bool × Int × Int × Int × Bool) : Tm := .v (.agg [.c (.sc (.int .i64 r.1)), .c (.sc (.bool r.2.1)), .c (.sc (.int .u32 r.2.2.1)), .c (.sc (.int .i64 r.2.2.2.1)), .c (.sc (.int .i64 r.2.2.2.2.1)), .c (.sc (.bool r.2.2.2.2.2))])
theorem trace_Free.fun_ {a0 : Int} {a1 : Bool} {a2 : Int} {a3 : Int} {a4 : Int} {a5 : Bool} {r : Int × Bool × Int × Int × Int × Bool} (h : trace_Free.f a0 a1 a2 a3 a4 a5 = some r) : Fun cfg 17 [.agg [.c (.sc (.int .i64 a0)), .c (.sc (.bool a1)), .c (.sc (.int .u32 a2)), .c (.sc (.int .i64 a3)), .c (.sc (.int .i64 a4)), .c (.sc (.bool a5))]] [] (trace_Free.R r) [] := by
  unfold trace_Free.f at h
  refine fun_of_run cfg_ok (f := 17) (fn := Tryd.f17) Tryd.func17 rfl (by kernel_rfl) (rs := [.cell 2 26]) rfl (nt := 4) rfl (l := fin) (k := (.adj [] (.adj [] (.adj [] (.adj [.drop 0] .nil))))) (to_goal (q := (True ∧ (True ∧ (True) ∧ (True ∧ (((True) ∧ True) ∧ ((True) ∧ True) ∧ (.v (.agg [.c (.sc (.int .i64 (0 : Int))), .c (.sc (.bool false)), .c (.sc (.int .u32 (0 : Int))), .c (.sc (.int .i64 (0 : Int))), .c (.sc (.int .i64 (0 : Int))), .c (.sc (.bool false))]) : Tm) = trace_Free.R r ∧ ([] : List Box) = []))))) (by kernel_rfl) ?_)
  refine ⟨trivial, ?_⟩
  refine ⟨trivial, ?_⟩
  refine ⟨trivial, ?_⟩
  refine ⟨trivial, ?_⟩
  obtain rfl := Option.some.inj h
  exact ⟨⟨trivial, trivial⟩, ⟨trivial, trivial⟩, rfl, rfl⟩
/-! halter/trace.Take -/
def trace_Take.f (a0 : Int) (a1 : Bool) (a2 : Int) (a3 : Int) (a4 : Int) (a5 : Bool) : Option (Int × Int × Bool × Int × Int × Int × Bool) :=
  (trace_Check.f a0 a1 a2 a3 a4 a5).bind fun t1 =>
  if ¬ (t1 = none) then
    some ((0 : Int), a0, a1, a2, a3, a4, a5)
  else
    some (a4, a0, a1, a2, a3, (0 : Int), a5)
def trace_Take.R (r : Int × Int × Bool × Int × Int × Int × Bool) : Tm := .tup [.one (.sc (.int .i64 r.1)), .agg [.c (.sc (.int .i64 r.2.1)), .c (.sc (.bool r.2.2.1)), .c (.sc (.int .u32 r.2.2.2.1)), .c (.sc (.int .i64 r.2.2.2.2.1)), .c (.sc (.int .i64 r.2.2.2.2.2.1)), .c (.sc (.bool r.2.2.2.2.2.2))]]
theorem trace_Take.fun_ {a0 : Int} {a1 : Bool} {a2 : Int} {a3 : Int} {a4 : Int} {a5 : Bool} {r : Int × Int × Bool × Int × Int × Int × Bool} (h : trace_Take.f a0 a1 a2 a3 a4 a5 = some r) : Fun cfg 14 [.agg [.c (.sc (.int .i64 a0)), .c (.sc (.bool a1)), .c (.sc (.int .u32 a2)), .c (.sc (.int .i64 a3)), .c (.sc (.int .i64 a4)), .c (.sc (.bool a5))]] [] (trace_Take.R r) [] := by
  unfold trace_Take.f at h
  refine fun_of_run cfg_ok (f := 14) (fn := Tryd.f14) Tryd.func14 rfl (by kernel_rfl) (rs := [.tmp 2, .cell 3 26]) rfl (nt := 14) rfl (l := fin) (k := (.call true [] ((Option Int)) (fun t1 => trace_Check.R t1) (fun t1 => (.br (.dr [(1, ⟨none, .no⟩), (0, ⟨none, .no⟩), (2, ⟨none, .no⟩)] (.adj [] (.adj [.drop 0] .nil))) (.dr [(0, ⟨none, .no⟩), (2, ⟨none, .no⟩), (1, ⟨none, .no⟩), (3, ⟨none, .no⟩)] (.adj [] (.adj [.drop 0] .nil))))))) (to_goal (q := (True) ∧ (∃ t1 : (Option Int), (Fun cfg 18 [.agg [.c (.sc (.int .i64 a0)), .c (.sc (.bool a1)), .c (.sc (.int .u32 a2)), .c (.sc (.int .i64 a3)), .c (.sc (.int .i64 a4)), .c (.sc (.bool a5))]] [] (trace_Check.R t1) [] ∧ True) ∧ (True) ∧ (((!(Option.isNone t1)) = true → (True) ∧ (True) ∧ (True ∧ (((True) ∧ True) ∧ ((True) ∧ True) ∧ (.tup [.one (.sc (.int .i64 (0 : Int))), .agg [.c (.sc (.int .i64 a0)), .c (.sc (.bool a1)), .c (.sc (.int .u32 a2)), .c (.sc (.int .i64 a3)), .c (.sc (.int .i64 a4)), .c (.sc (.bool a5))]] : Tm) = trace_Take.R r ∧ ([] : List Box) = []))) ∧ ((!(Option.isNone t1)) = false → (True) ∧ (True) ∧ (True) ∧ (True) ∧ (True ∧ (((True) ∧ True) ∧ ((True) ∧ True) ∧ (.tup [.one (.sc (.int .i64 a4)), .agg [.c (.sc (.int .i64 a0)), .c (.sc (.bool a1)), .c (.sc (.int .u32 a2)), .c (.sc (.int .i64 a3)), .c (.sc (.int .i64 (0 : Int))), .c (.sc (.bool a5))]] : Tm) = trace_Take.R r ∧ ([] : List Box) = [])))))) (by kernel_rfl) ?_)
  refine ⟨trivial, ?_⟩
  obtain ⟨t1, ht1, h⟩ := of_bind h
  refine ⟨t1, ⟨trace_Check.fun_ ht1, trivial⟩, ?_⟩
  refine ⟨trivial, ?_⟩
  refine ⟨fun b2 => ?_, fun b2 => ?_⟩
  · rw [if_pos (none_f (not_t b2))] at h
    refine ⟨trivial, trivial, ?_⟩
    refine ⟨trivial, ?_⟩
    obtain rfl := Option.some.inj h
    exact ⟨⟨trivial, trivial⟩, ⟨trivial, trivial⟩, rfl, rfl⟩
  · rw [if_neg (not_not_intro (none_t (not_f b2)))] at h
    refine ⟨trivial, ?_⟩
    refine ⟨trivial, ?_⟩
    refine ⟨trivial, trivial, ?_⟩
    refine ⟨trivial, ?_⟩
    obtain rfl := Option.some.inj h
    exact ⟨⟨trivial, trivial⟩, ⟨trivial, trivial⟩, rfl, rfl⟩
/-! halter/halterlaw27.sure -/
def halterlaw27_sure.f : Option Bool :=
  (trace_Attach.f (0 : Int) false (0 : Int) (0 : Int) (0 : Int) false (3 : Int)).bind fun t1 =>
  (trace_Stop.f t1.1 t1.2.1 t1.2.2.1 t1.2.2.2.1 t1.2.2.2.2.1 t1.2.2.2.2.2.1 (1407 : Int) false).bind fun t2 =>
  (trace_Collect.f t2.1 t2.2.1 t2.2.2.1 t2.2.2.2.1 t2.2.2.2.2.1 t2.2.2.2.2.2.1).bind fun t3 =>
  (trace_Collect.f t3.2.1 t3.2.2.1 t3.2.2.2.1 t3.2.2.2.2.1 t3.2.2.2.2.2.1 t3.2.2.2.2.2.2.1).bind fun t4 =>
  (trace_Resume.f t3.2.1 t3.2.2.1 t3.2.2.2.1 t3.2.2.2.2.1 t3.2.2.2.2.2.1 t3.2.2.2.2.2.2.1 (1 : Int) (2 : Int)).bind fun t5 =>
  (trace_Take.f t5.1 t5.2.1 t5.2.2.1 t5.2.2.2.1 t5.2.2.2.2.1 t5.2.2.2.2.2.1).bind fun t6 =>
  if t1.2.2.2.2.2.2 = none then
    if t2.2.2.2.2.2.2 = none then
      if t3.2.2.2.2.2.2.2 = none then
        if t5.2.2.2.2.2.2 = none then
          if t2.2.1 = true then
            if t3.1 = (1407 : Int) then
              (num.f t4.2.2.2.2.2.2.2).bind fun t13 =>
              if t13 = (10 : Int) then
                if ¬ (t5.2.1 = true) then
                  if t6.1 = (2 : Int) then
                    if t6.2.2.2.2.2.1 = (0 : Int) then
                      (trace_Free.f t6.2.1 t6.2.2.1 t6.2.2.2.1 t6.2.2.2.2.1 t6.2.2.2.2.2.1 t6.2.2.2.2.2.2).bind fun t18 =>
                      some ((t18.1 == (0 : Int)) && ((t18.2.1 == false) && ((t18.2.2.1 == (0 : Int)) && ((t18.2.2.2.1 == (0 : Int)) && ((t18.2.2.2.2.1 == (0 : Int)) && ((t18.2.2.2.2.2 == false) && true))))))
                    else
                      some false
                  else
                    some false
                else
                  some false
              else
                some false
            else
              some false
          else
            some false
        else
          some false
      else
        some false
    else
      some false
  else
    some false
def halterlaw27_sure.R (r : Bool) : Tm := .v (.one (.sc (.bool r)))
theorem halterlaw27_sure.fun_ {r : Bool} (h : halterlaw27_sure.f = some r) : Fun cfg 20 [] [] (halterlaw27_sure.R r) [] := by
  unfold halterlaw27_sure.f at h
  refine fun_of_run cfg_ok (f := 20) (fn := Tryd.f20) Tryd.func20 rfl (by kernel_rfl) (rs := [.tmp 0]) rfl (nt := 94) rfl (l := fin) (k := (.call true [] (Int × Bool × Int × Int × Int × Bool × (Option Int)) (fun t1 => trace_Attach.R t1) (fun t1 => (.call true [] (Int × Bool × Int × Int × Int × Bool × (Option Int)) (fun t2 => trace_Stop.R t2) (fun t2 => (.call true [] (Int × Int × Bool × Int × Int × Int × Bool × (Option Int)) (fun t3 => trace_Collect.R t3) (fun t3 => (.call true [] (Int × Int × Bool × Int × Int × Int × Bool × (Option Int)) (fun t4 => trace_Collect.R t4) (fun t4 => (.call true [] (Int × Bool × Int × Int × Int × Bool × (Option Int)) (fun t5 => trace_Resume.R t5) (fun t5 => (.call true [] (Int × Int × Bool × Int × Int × Int × Bool) (fun t6 => trace_Take.R t6) (fun t6 => (.br (.one true (.one true (.br (.one true (.one true (.br (.one true (.one true (.br (.one true (.one true (.br (.one true (.one true (.br (.one true (.call true [] (Int) (fun t13 => num.R t13) (fun t13 => (.one true (.one true (.br (.one true (.one true (.one true (.br (.one true (.one true (.br (.one true (.one true (.one true (.br (.one true (.call true [] (Int × Bool × Int × Int × Int × Bool) (fun t18 => trace_Free.R t18) (fun t18 => (.one true (.one true (.one true (.adj [] (.adj [.drop 0] .nil)))))))) (.one false (.one false (.one false (.one false (.adj [] (.adj [.drop 0] .nil)))))))))) (.one false (.one false (.one false (.one false (.one false (.one false (.one false (.one false (.adj [] (.adj [.drop 0] .nil))))))))))))) (.one false (.one false (.one false (.one false (.one false (.one false (.one false (.one false (.one false (.one false (.one false (.adj [] (.adj [.drop 0] .nil))))))))))))))))) (.one false (.one false (.one false (.one false (.one false (.one false (.one false (.one false (.one false (.one false (.one false (.one false (.one false (.one false (.one false (.adj [] (.adj [.drop 0] .nil))))))))))))))))))))))) (.one false (.one false (.one false (.one false (.one false (.one false (.one false (.one false (.one false (.one false (.one false (.one false (.one false (.one false (.one false (.one false (.one false (.one false (.one false (.adj [] (.adj [.drop 0] .nil)))))))))))))))))))))))) (.one false (.one false (.one false (.one false (.one false (.one false (.one false (.one false (.one false (.one false (.one false (.one false (.one false (.one false (.one false (.one false (.one false (.one false (.one false (.one false (.one false (.one false (.adj [] (.adj [.drop 0] .nil))))))))))))))))))))))))))) (.one false (.one false (.one false (.one false (.one false (.one false (.one false (.one false (.one false (.one false (.one false (.one false (.one false (.one false (.one false (.one false (.one false (.one false (.one false (.one false (.one false (.one false (.one false (.one false (.one false (.adj [] (.adj [.drop 0] .nil)))))))))))))))))))))))))))))) (.one false (.one false (.one false (.one false (.one false (.one false (.one false (.one false (.one false (.one false (.one false (.one false (.one false (.one false (.one false (.one false (.one false (.one false (.one false (.one false (.one false (.one false (.one false (.one false (.one false (.one false (.one false (.one false (.adj [] (.adj [.drop 0] .nil))))))))))))))))))))))))))))))))) (.one false (.one false (.one false (.one false (.one false (.one false (.one false (.one false (.one false (.one false (.one false (.one false (.one false (.one false (.one false (.one false (.one false (.one false (.one false (.one false (.one false (.one false (.one false (.one false (.one false (.one false (.one false (.one false (.one false (.one false (.one false (.adj [] (.adj [.drop 0] .nil)))))))))))))))))))))))))))))))))))) (.one false (.one false (.one false (.one false (.one false (.one false (.one false (.one false (.one false (.one false (.one false (.one false (.one false (.one false (.one false (.one false (.one false (.one false (.one false (.one false (.one false (.one false (.one false (.one false (.one false (.one false (.one false (.one false (.one false (.one false (.one false (.one false (.one false (.one false (.adj [] (.adj [.drop 0] .nil)))))))))))))))))))))))))))))))))))))))))))))))))) (to_goal (q := (∃ t1 : Int × Bool × Int × Int × Int × Bool × (Option Int), (Fun cfg 6 [.agg [.c (.sc (.int .i64 (0 : Int))), .c (.sc (.bool false)), .c (.sc (.int .u32 (0 : Int))), .c (.sc (.int .i64 (0 : Int))), .c (.sc (.int .i64 (0 : Int))), .c (.sc (.bool false))], .one (.sc (.int .i64 (3 : Int)))] [] (trace_Attach.R t1) [] ∧ True) ∧ (True) ∧ (True) ∧ (∃ t2 : Int × Bool × Int × Int × Int × Bool × (Option Int), (Fun cfg 8 [.agg [.c (.sc (.int .i64 t1.1)), .c (.sc (.bool t1.2.1)), .c (.sc (.int .u32 t1.2.2.1)), .c (.sc (.int .i64 t1.2.2.2.1)), .c (.sc (.int .i64 t1.2.2.2.2.1)), .c (.sc (.bool t1.2.2.2.2.2.1))], .one (.sc (.int .u32 (1407 : Int))), .one (.sc (.bool false))] [] (trace_Stop.R t2) [] ∧ True) ∧ (True) ∧ (True) ∧ (∃ t3 : Int × Int × Bool × Int × Int × Int × Bool × (Option Int), (Fun cfg 10 [.agg [.c (.sc (.int .i64 t2.1)), .c (.sc (.bool t2.2.1)), .c (.sc (.int .u32 t2.2.2.1)), .c (.sc (.int .i64 t2.2.2.2.1)), .c (.sc (.int .i64 t2.2.2.2.2.1)), .c (.sc (.bool t2.2.2.2.2.2.1))]] [] (trace_Collect.R t3) [] ∧ True) ∧ (True) ∧ (True) ∧ (∃ t4 : Int × Int × Bool × Int × Int × Int × Bool × (Option Int), (Fun cfg 10 [.agg [.c (.sc (.int .i64 t3.2.1)), .c (.sc (.bool t3.2.2.1)), .c (.sc (.int .u32 t3.2.2.2.1)), .c (.sc (.int .i64 t3.2.2.2.2.1)), .c (.sc (.int .i64 t3.2.2.2.2.2.1)), .c (.sc (.bool t3.2.2.2.2.2.2.1))]] [] (trace_Collect.R t4) [] ∧ True) ∧ (True) ∧ (True) ∧ (∃ t5 : Int × Bool × Int × Int × Int × Bool × (Option Int), (Fun cfg 12 [.agg [.c (.sc (.int .i64 t3.2.1)), .c (.sc (.bool t3.2.2.1)), .c (.sc (.int .u32 t3.2.2.2.1)), .c (.sc (.int .i64 t3.2.2.2.2.1)), .c (.sc (.int .i64 t3.2.2.2.2.2.1)), .c (.sc (.bool t3.2.2.2.2.2.2.1))], .one (.sc (.int .i64 (1 : Int))), .one (.sc (.int .i64 (2 : Int)))] [] (trace_Resume.R t5) [] ∧ True) ∧ (True) ∧ (True) ∧ (∃ t6 : Int × Int × Bool × Int × Int × Int × Bool, (Fun cfg 14 [.agg [.c (.sc (.int .i64 t5.1)), .c (.sc (.bool t5.2.1)), .c (.sc (.int .u32 t5.2.2.1)), .c (.sc (.int .i64 t5.2.2.2.1)), .c (.sc (.int .i64 t5.2.2.2.2.1)), .c (.sc (.bool t5.2.2.2.2.2.1))]] [] (trace_Take.R t6) [] ∧ True) ∧ (True) ∧ (True) ∧ (((Option.isNone t1.2.2.2.2.2.2) = true → ((Option.isNone t1.2.2.2.2.2.2) = true ∧ (True) ∧ ((Option.isNone t1.2.2.2.2.2.2) = true ∧ (((Option.isNone t2.2.2.2.2.2.2) = true → ((Option.isNone t2.2.2.2.2.2.2) = true ∧ (True) ∧ ((Option.isNone t2.2.2.2.2.2.2) = true ∧ (((Option.isNone t3.2.2.2.2.2.2.2) = true → ((Option.isNone t3.2.2.2.2.2.2.2) = true ∧ (True) ∧ ((Option.isNone t3.2.2.2.2.2.2.2) = true ∧ (((Option.isNone t5.2.2.2.2.2.2) = true → ((Option.isNone t5.2.2.2.2.2.2) = true ∧ (True) ∧ ((Option.isNone t5.2.2.2.2.2.2) = true ∧ ((t2.2.1 = true → (t2.2.1 = true ∧ (True) ∧ (t2.2.1 = true ∧ (((t3.1 == (1407 : Int)) = true → ((t3.1 == (1407 : Int)) = true ∧ (∃ t13 : Int, (Fun cfg 16 [.one (.err t4.2.2.2.2.2.2.2)] [] (num.R t13) [] ∧ True) ∧ ((t3.1 == (1407 : Int)) = true ∧ (True) ∧ ((t3.1 == (1407 : Int)) = true ∧ (((t13 == (10 : Int)) = true → ((t13 == (10 : Int)) = true ∧ (True) ∧ ((t13 == (10 : Int)) = true ∧ ((t13 == (10 : Int)) = true ∧ (((!t5.2.1) = true → ((!t5.2.1) = true ∧ (True) ∧ ((!t5.2.1) = true ∧ (((t6.1 == (2 : Int)) = true → ((t6.1 == (2 : Int)) = true ∧ (True) ∧ ((t6.1 == (2 : Int)) = true ∧ (True) ∧ ((t6.1 == (2 : Int)) = true ∧ (((t6.2.2.2.2.2.1 == (0 : Int)) = true → (True) ∧ ((t6.2.2.2.2.2.1 == (0 : Int)) = true ∧ (∃ t18 : Int × Bool × Int × Int × Int × Bool, (Fun cfg 17 [.agg [.c (.sc (.int .i64 t6.2.1)), .c (.sc (.bool t6.2.2.1)), .c (.sc (.int .u32 t6.2.2.2.1)), .c (.sc (.int .i64 t6.2.2.2.2.1)), .c (.sc (.int .i64 t6.2.2.2.2.2.1)), .c (.sc (.bool t6.2.2.2.2.2.2))]] [] (trace_Free.R t18) [] ∧ True) ∧ ((t6.2.2.2.2.2.1 == (0 : Int)) = true ∧ ((t6.2.2.2.2.2.1 == (0 : Int)) = true ∧ (True) ∧ ((t6.2.2.2.2.2.1 == (0 : Int)) = true ∧ (True ∧ ((True) ∧ ((True) ∧ True) ∧ (.v (.one (.sc (.bool ((t18.1 == (0 : Int)) && ((t18.2.1 == false) && ((t18.2.2.1 == (0 : Int)) && ((t18.2.2.2.1 == (0 : Int)) && ((t18.2.2.2.2.1 == (0 : Int)) && ((t18.2.2.2.2.2 == false) && true))))))))) : Tm) = halterlaw27_sure.R r ∧ ([] : List Box) = [])))))))) ∧ ((t6.2.2.2.2.2.1 == (0 : Int)) = false → ((t6.2.2.2.2.2.1 == (0 : Int)) = false ∧ ((t6.2.2.2.2.2.1 == (0 : Int)) = false ∧ ((t6.2.2.2.2.2.1 == (0 : Int)) = false ∧ ((t6.2.2.2.2.2.1 == (0 : Int)) = false ∧ (True ∧ ((True) ∧ ((True) ∧ True) ∧ (.v (.one (.sc (.bool false))) : Tm) = halterlaw27_sure.R r ∧ ([] : List Box) = [])))))))))))) ∧ ((t6.1 == (2 : Int)) = false → ((t6.1 == (2 : Int)) = false ∧ ((t6.1 == (2 : Int)) = false ∧ ((t6.1 == (2 : Int)) = false ∧ (false = false ∧ (false = false ∧ (false = false ∧ (false = false ∧ (false = false ∧ (True ∧ ((True) ∧ ((True) ∧ True) ∧ (.v (.one (.sc (.bool false))) : Tm) = halterlaw27_sure.R r ∧ ([] : List Box) = []))))))))))))))) ∧ ((!t5.2.1) = false → ((!t5.2.1) = false ∧ ((!t5.2.1) = false ∧ (false = false ∧ (false = false ∧ (false = false ∧ (false = false ∧ (false = false ∧ (false = false ∧ (false = false ∧ (false = false ∧ (false = false ∧ (True ∧ ((True) ∧ ((True) ∧ True) ∧ (.v (.one (.sc (.bool false))) : Tm) = halterlaw27_sure.R r ∧ ([] : List Box) = []))))))))))))))))))) ∧ ((t13 == (10 : Int)) = false → ((t13 == (10 : Int)) = false ∧ ((t13 == (10 : Int)) = false ∧ ((t13 == (10 : Int)) = false ∧ (false = false ∧ (false = false ∧ (false = false ∧ (false = false ∧ (false = false ∧ (false = false ∧ (false = false ∧ (false = false ∧ (false = false ∧ (false = false ∧ (false = false ∧ (false = false ∧ (True ∧ ((True) ∧ ((True) ∧ True) ∧ (.v (.one (.sc (.bool false))) : Tm) = halterlaw27_sure.R r ∧ ([] : List Box) = [])))))))))))))))))))))))) ∧ ((t3.1 == (1407 : Int)) = false → ((t3.1 == (1407 : Int)) = false ∧ ((t3.1 == (1407 : Int)) = false ∧ ((t3.1 == (1407 : Int)) = false ∧ (false = false ∧ (false = false ∧ (false = false ∧ (false = false ∧ (false = false ∧ (false = false ∧ (false = false ∧ (false = false ∧ (false = false ∧ (false = false ∧ (false = false ∧ (false = false ∧ (false = false ∧ (false = false ∧ (false = false ∧ (false = false ∧ (True ∧ ((True) ∧ ((True) ∧ True) ∧ (.v (.one (.sc (.bool false))) : Tm) = halterlaw27_sure.R r ∧ ([] : List Box) = [])))))))))))))))))))))))))) ∧ (t2.2.1 = false → (t2.2.1 = false ∧ (t2.2.1 = false ∧ (false = false ∧ (false = false ∧ (false = false ∧ (false = false ∧ (false = false ∧ (false = false ∧ (false = false ∧ (false = false ∧ (false = false ∧ (false = false ∧ (false = false ∧ (false = false ∧ (false = false ∧ (false = false ∧ (false = false ∧ (false = false ∧ (false = false ∧ (false = false ∧ (false = false ∧ (false = false ∧ (True ∧ ((True) ∧ ((True) ∧ True) ∧ (.v (.one (.sc (.bool false))) : Tm) = halterlaw27_sure.R r ∧ ([] : List Box) = []))))))))))))))))))))))))))))) ∧ ((Option.isNone t5.2.2.2.2.2.2) = false → ((Option.isNone t5.2.2.2.2.2.2) = false ∧ ((Option.isNone t5.2.2.2.2.2.2) = false ∧ (false = false ∧ (false = false ∧ (false = false ∧ (false = false ∧ (false = false ∧ (false = false ∧ (false = false ∧ (false = false ∧ (false = false ∧ (false = false ∧ (false = false ∧ (false = false ∧ (false = false ∧ (false = false ∧ (false = false ∧ (false = false ∧ (false = false ∧ (false = false ∧ (false = false ∧ (false = false ∧ (false = false ∧ (false = false ∧ (false = false ∧ (True ∧ ((True) ∧ ((True) ∧ True) ∧ (.v (.one (.sc (.bool false))) : Tm) = halterlaw27_sure.R r ∧ ([] : List Box) = [])))))))))))))))))))))))))))))))) ∧ ((Option.isNone t3.2.2.2.2.2.2.2) = false → ((Option.isNone t3.2.2.2.2.2.2.2) = false ∧ ((Option.isNone t3.2.2.2.2.2.2.2) = false ∧ (false = false ∧ (false = false ∧ (false = false ∧ (false = false ∧ (false = false ∧ (false = false ∧ (false = false ∧ (false = false ∧ (false = false ∧ (false = false ∧ (false = false ∧ (false = false ∧ (false = false ∧ (false = false ∧ (false = false ∧ (false = false ∧ (false = false ∧ (false = false ∧ (false = false ∧ (false = false ∧ (false = false ∧ (false = false ∧ (false = false ∧ (false = false ∧ (false = false ∧ (false = false ∧ (True ∧ ((True) ∧ ((True) ∧ True) ∧ (.v (.one (.sc (.bool false))) : Tm) = halterlaw27_sure.R r ∧ ([] : List Box) = []))))))))))))))))))))))))))))))))))) ∧ ((Option.isNone t2.2.2.2.2.2.2) = false → ((Option.isNone t2.2.2.2.2.2.2) = false ∧ ((Option.isNone t2.2.2.2.2.2.2) = false ∧ (false = false ∧ (false = false ∧ (false = false ∧ (false = false ∧ (false = false ∧ (false = false ∧ (false = false ∧ (false = false ∧ (false = false ∧ (false = false ∧ (false = false ∧ (false = false ∧ (false = false ∧ (false = false ∧ (false = false ∧ (false = false ∧ (false = false ∧ (false = false ∧ (false = false ∧ (false = false ∧ (false = false ∧ (false = false ∧ (false = false ∧ (false = false ∧ (false = false ∧ (false = false ∧ (false = false ∧ (false = false ∧ (false = false ∧ (True ∧ ((True) ∧ ((True) ∧ True) ∧ (.v (.one (.sc (.bool false))) : Tm) = halterlaw27_sure.R r ∧ ([] : List Box) = [])))))))))))))))))))))))))))))))))))))) ∧ ((Option.isNone t1.2.2.2.2.2.2) = false → ((Option.isNone t1.2.2.2.2.2.2) = false ∧ ((Option.isNone t1.2.2.2.2.2.2) = false ∧ (false = false ∧ (false = false ∧ (false = false ∧ (false = false ∧ (false = false ∧ (false = false ∧ (false = false ∧ (false = false ∧ (false = false ∧ (false = false ∧ (false = false ∧ (false = false ∧ (false = false ∧ (false = false ∧ (false = false ∧ (false = false ∧ (false = false ∧ (false = false ∧ (false = false ∧ (false = false ∧ (false = false ∧ (false = false ∧ (false = false ∧ (false = false ∧ (false = false ∧ (false = false ∧ (false = false ∧ (false = false ∧ (false = false ∧ (false = false ∧ (false = false ∧ (false = false ∧ (True ∧ ((True) ∧ ((True) ∧ True) ∧ (.v (.one (.sc (.bool false))) : Tm) = halterlaw27_sure.R r ∧ ([] : List Box) = []))))))))))))))))))))))))))))))))))))))))))))) (by kernel_rfl) ?_)
  obtain ⟨t1, ht1, h⟩ := of_bind h
  refine ⟨t1, ⟨trace_Attach.fun_ ht1, trivial⟩, ?_⟩
  refine ⟨trivial, ?_⟩
  refine ⟨trivial, ?_⟩
  obtain ⟨t2, ht2, h⟩ := of_bind h
  refine ⟨t2, ⟨trace_Stop.fun_ ht2, trivial⟩, ?_⟩
  refine ⟨trivial, ?_⟩
  refine ⟨trivial, ?_⟩
  obtain ⟨t3, ht3, h⟩ := of_bind h
  refine ⟨t3, ⟨trace_Collect.fun_ ht3, trivial⟩, ?_⟩
  refine ⟨trivial, ?_⟩
  refine ⟨trivial, ?_⟩
  obtain ⟨t4, ht4, h⟩ := of_bind h
  refine ⟨t4, ⟨trace_Collect.fun_ ht4, trivial⟩, ?_⟩
  refine ⟨trivial, ?_⟩
  refine ⟨trivial, ?_⟩
  obtain ⟨t5, ht5, h⟩ := of_bind h
  refine ⟨t5, ⟨trace_Resume.fun_ ht5, trivial⟩, ?_⟩
  refine ⟨trivial, ?_⟩
  refine ⟨trivial, ?_⟩
  obtain ⟨t6, ht6, h⟩ := of_bind h
  refine ⟨t6, ⟨trace_Take.fun_ ht6, trivial⟩, ?_⟩
  refine ⟨trivial, ?_⟩
  refine ⟨trivial, ?_⟩
  refine ⟨fun b7 => ?_, fun b7 => ?_⟩
  · rw [if_pos (none_t b7)] at h
    refine ⟨b7, ?_⟩
    refine ⟨trivial, ?_⟩
    refine ⟨b7, ?_⟩
    refine ⟨fun b8 => ?_, fun b8 => ?_⟩
    · rw [if_pos (none_t b8)] at h
      refine ⟨b8, ?_⟩
      refine ⟨trivial, ?_⟩
      refine ⟨b8, ?_⟩
      refine ⟨fun b9 => ?_, fun b9 => ?_⟩
      · rw [if_pos (none_t b9)] at h
        refine ⟨b9, ?_⟩
        refine ⟨trivial, ?_⟩
        refine ⟨b9, ?_⟩
        refine ⟨fun b10 => ?_, fun b10 => ?_⟩
        · rw [if_pos (none_t b10)] at h
          refine ⟨b10, ?_⟩
          refine ⟨trivial, ?_⟩
          refine ⟨b10, ?_⟩
          refine ⟨fun b11 => ?_, fun b11 => ?_⟩
          · rw [if_pos b11] at h
            refine ⟨b11, ?_⟩
            refine ⟨trivial, ?_⟩
            refine ⟨b11, ?_⟩
            refine ⟨fun b12 => ?_, fun b12 => ?_⟩
            · rw [if_pos (beq_t b12)] at h
              refine ⟨b12, ?_⟩
              obtain ⟨t13, ht13, h⟩ := of_bind h
              refine ⟨t13, ⟨num.fun_ ht13, trivial⟩, ?_⟩
              refine ⟨b12, ?_⟩
              refine ⟨trivial, ?_⟩
              refine ⟨b12, ?_⟩
              refine ⟨fun b14 => ?_, fun b14 => ?_⟩
              · rw [if_pos (beq_t b14)] at h
                refine ⟨b14, ?_⟩
                refine ⟨trivial, ?_⟩
                refine ⟨b14, ?_⟩
                refine ⟨b14, ?_⟩
                refine ⟨fun b15 => ?_, fun b15 => ?_⟩
                · rw [if_pos (ff (not_t b15))] at h
                  refine ⟨b15, ?_⟩
                  refine ⟨trivial, ?_⟩
                  refine ⟨b15, ?_⟩
                  refine ⟨fun b16 => ?_, fun b16 => ?_⟩
                  · rw [if_pos (beq_t b16)] at h
                    refine ⟨b16, ?_⟩
                    refine ⟨trivial, ?_⟩
                    refine ⟨b16, ?_⟩
                    refine ⟨trivial, ?_⟩
                    refine ⟨b16, ?_⟩
                    refine ⟨fun b17 => ?_, fun b17 => ?_⟩
                    · rw [if_pos (beq_t b17)] at h
                      refine ⟨trivial, ?_⟩
                      refine ⟨b17, ?_⟩
                      obtain ⟨t18, ht18, h⟩ := of_bind h
                      refine ⟨t18, ⟨trace_Free.fun_ ht18, trivial⟩, ?_⟩
                      refine ⟨b17, ?_⟩
                      refine ⟨b17, ?_⟩
                      refine ⟨trivial, ?_⟩
                      refine ⟨b17, ?_⟩
                      refine ⟨trivial, ?_⟩
                      obtain rfl := Option.some.inj h
                      exact ⟨trivial, ⟨trivial, trivial⟩, rfl, rfl⟩
                    · rw [if_neg (beq_f b17)] at h
                      refine ⟨b17, ?_⟩
                      refine ⟨b17, ?_⟩
                      refine ⟨b17, ?_⟩
                      refine ⟨b17, ?_⟩
                      refine ⟨trivial, ?_⟩
                      obtain rfl := Option.some.inj h
                      exact ⟨trivial, ⟨trivial, trivial⟩, rfl, rfl⟩
                  · rw [if_neg (beq_f b16)] at h
                    refine ⟨b16, ?_⟩
                    refine ⟨b16, ?_⟩
                    refine ⟨b16, ?_⟩
                    refine ⟨rfl, ?_⟩
                    refine ⟨rfl, ?_⟩
                    refine ⟨rfl, ?_⟩
                    refine ⟨rfl, ?_⟩
                    refine ⟨rfl, ?_⟩
                    refine ⟨trivial, ?_⟩
                    obtain rfl := Option.some.inj h
                    exact ⟨trivial, ⟨trivial, trivial⟩, rfl, rfl⟩
                · rw [if_neg (not_not_intro (not_f b15))] at h
                  refine ⟨b15, ?_⟩
                  refine ⟨b15, ?_⟩
                  refine ⟨rfl, ?_⟩
                  refine ⟨rfl, ?_⟩
                  refine ⟨rfl, ?_⟩
                  refine ⟨rfl, ?_⟩
                  refine ⟨rfl, ?_⟩
                  refine ⟨rfl, ?_⟩
                  refine ⟨rfl, ?_⟩
                  refine ⟨rfl, ?_⟩
                  refine ⟨rfl, ?_⟩
                  refine ⟨trivial, ?_⟩
                  obtain rfl := Option.some.inj h
                  exact ⟨trivial, ⟨trivial, trivial⟩, rfl, rfl⟩
              · rw [if_neg (beq_f b14)] at h
                refine ⟨b14, ?_⟩
                refine ⟨b14, ?_⟩
                refine ⟨b14, ?_⟩
                refine ⟨rfl, ?_⟩
                refine ⟨rfl, ?_⟩
                refine ⟨rfl, ?_⟩
                refine ⟨rfl, ?_⟩
                refine ⟨rfl, ?_⟩
                refine ⟨rfl, ?_⟩
                refine ⟨rfl, ?_⟩
                refine ⟨rfl, ?_⟩
                refine ⟨rfl, ?_⟩
                refine ⟨rfl, ?_⟩
                refine ⟨rfl, ?_⟩
                refine ⟨rfl, ?_⟩
                refine ⟨trivial, ?_⟩
                obtain rfl := Option.some.inj h
                exact ⟨trivial, ⟨trivial, trivial⟩, rfl, rfl⟩
            · rw [if_neg (beq_f b12)] at h
              refine ⟨b12, ?_⟩
              refine ⟨b12, ?_⟩
              refine ⟨b12, ?_⟩
              refine ⟨rfl, ?_⟩
              refine ⟨rfl, ?_⟩
              refine ⟨rfl, ?_⟩
              refine ⟨rfl, ?_⟩
              refine ⟨rfl, ?_⟩
              refine ⟨rfl, ?_⟩
              refine ⟨rfl, ?_⟩
              refine ⟨rfl, ?_⟩
              refine ⟨rfl, ?_⟩
              refine ⟨rfl, ?_⟩
              refine ⟨rfl, ?_⟩
              refine ⟨rfl, ?_⟩
              refine ⟨rfl, ?_⟩
              refine ⟨rfl, ?_⟩
              refine ⟨rfl, ?_⟩
              refine ⟨rfl, ?_⟩
              refine ⟨trivial, ?_⟩
              obtain rfl := Option.some.inj h
              exact ⟨trivial, ⟨trivial, trivial⟩, rfl, rfl⟩
          · rw [if_neg (ff b11)] at h
            refine ⟨b11, ?_⟩
            refine ⟨b11, ?_⟩
            refine ⟨rfl, ?_⟩
            refine ⟨rfl, ?_⟩
            refine ⟨rfl, ?_⟩
            refine ⟨rfl, ?_⟩
            refine ⟨rfl, ?_⟩
            refine ⟨rfl, ?_⟩
            refine ⟨rfl, ?_⟩
            refine ⟨rfl, ?_⟩
            refine ⟨rfl, ?_⟩
            refine ⟨rfl, ?_⟩
            refine ⟨rfl, ?_⟩
            refine ⟨rfl, ?_⟩
            refine ⟨rfl, ?_⟩
            refine ⟨rfl, ?_⟩
            refine ⟨rfl, ?_⟩
            refine ⟨rfl, ?_⟩
            refine ⟨rfl, ?_⟩
            refine ⟨rfl, ?_⟩
            refine ⟨rfl, ?_⟩
            refine ⟨rfl, ?_⟩
            refine ⟨trivial, ?_⟩
            obtain rfl := Option.some.inj h
            exact ⟨trivial, ⟨trivial, trivial⟩, rfl, rfl⟩
        · rw [if_neg (none_f b10)] at h
          refine ⟨b10, ?_⟩
          refine ⟨b10, ?_⟩
          refine ⟨rfl, ?_⟩
          refine ⟨rfl, ?_⟩
          refine ⟨rfl, ?_⟩
          refine ⟨rfl, ?_⟩
          refine ⟨rfl, ?_⟩
          refine ⟨rfl, ?_⟩
          refine ⟨rfl, ?_⟩
          refine ⟨rfl, ?_⟩
          refine ⟨rfl, ?_⟩
          refine ⟨rfl, ?_⟩
          refine ⟨rfl, ?_⟩
          refine ⟨rfl, ?_⟩
          refine ⟨rfl, ?_⟩
          refine ⟨rfl, ?_⟩
          refine ⟨rfl, ?_⟩
          refine ⟨rfl, ?_⟩
          refine ⟨rfl, ?_⟩
          refine ⟨rfl, ?_⟩
          refine ⟨rfl, ?_⟩
          refine ⟨rfl, ?_⟩
          refine ⟨rfl, ?_⟩
          refine ⟨rfl, ?_⟩
          refine ⟨rfl, ?_⟩
          refine ⟨trivial, ?_⟩
          obtain rfl := Option.some.inj h
          exact ⟨trivial, ⟨trivial, trivial⟩, rfl, rfl⟩
      · rw [if_neg (none_f b9)] at h
        refine ⟨b9, ?_⟩
        refine ⟨b9, ?_⟩
        refine ⟨rfl, ?_⟩
        refine ⟨rfl, ?_⟩
        refine ⟨rfl, ?_⟩
        refine ⟨rfl, ?_⟩
        refine ⟨rfl, ?_⟩
        refine ⟨rfl, ?_⟩
        refine ⟨rfl, ?_⟩
        refine ⟨rfl, ?_⟩
        refine ⟨rfl, ?_⟩
        refine ⟨rfl, ?_⟩
        refine ⟨rfl, ?_⟩
        refine ⟨rfl, ?_⟩
        refine ⟨rfl, ?_⟩
        refine ⟨rfl, ?_⟩
        refine ⟨rfl, ?_⟩
        refine ⟨rfl, ?_⟩
        refine ⟨rfl, ?_⟩
        refine ⟨rfl, ?_⟩
        refine ⟨rfl, ?_⟩
        refine ⟨rfl, ?_⟩
        refine ⟨rfl, ?_⟩
        refine ⟨rfl, ?_⟩
        refine ⟨rfl, ?_⟩
        refine ⟨rfl, ?_⟩
        refine ⟨rfl, ?_⟩
        refine ⟨rfl, ?_⟩
        refine ⟨trivial, ?_⟩
        obtain rfl := Option.some.inj h
        exact ⟨trivial, ⟨trivial, trivial⟩, rfl, rfl⟩
    · rw [if_neg (none_f b8)] at h
      refine ⟨b8, ?_⟩
      refine ⟨b8, ?_⟩
      refine ⟨rfl, ?_⟩
      refine ⟨rfl, ?_⟩
      refine ⟨rfl, ?_⟩
      refine ⟨rfl, ?_⟩
      refine ⟨rfl, ?_⟩
      refine ⟨rfl, ?_⟩
      refine ⟨rfl, ?_⟩
      refine ⟨rfl, ?_⟩
      refine ⟨rfl, ?_⟩
      refine ⟨rfl, ?_⟩
      refine ⟨rfl, ?_⟩
      refine ⟨rfl, ?_⟩
      refine ⟨rfl, ?_⟩
      refine ⟨rfl, ?_⟩
      refine ⟨rfl, ?_⟩
      refine ⟨rfl, ?_⟩
      refine ⟨rfl, ?_⟩
      refine ⟨rfl, ?_⟩
      refine ⟨rfl, ?_⟩
      refine ⟨rfl, ?_⟩
      refine ⟨rfl, ?_⟩
      refine ⟨rfl, ?_⟩
      refine ⟨rfl, ?_⟩
      refine ⟨rfl, ?_⟩
      refine ⟨rfl, ?_⟩
      refine ⟨rfl, ?_⟩
      refine ⟨rfl, ?_⟩
      refine ⟨rfl, ?_⟩
      refine ⟨rfl, ?_⟩
      refine ⟨trivial, ?_⟩
      obtain rfl := Option.some.inj h
      exact ⟨trivial, ⟨trivial, trivial⟩, rfl, rfl⟩
  · rw [if_neg (none_f b7)] at h
    refine ⟨b7, ?_⟩
    refine ⟨b7, ?_⟩
    refine ⟨rfl, ?_⟩
    refine ⟨rfl, ?_⟩
    refine ⟨rfl, ?_⟩
    refine ⟨rfl, ?_⟩
    refine ⟨rfl, ?_⟩
    refine ⟨rfl, ?_⟩
    refine ⟨rfl, ?_⟩
    refine ⟨rfl, ?_⟩
    refine ⟨rfl, ?_⟩
    refine ⟨rfl, ?_⟩
    refine ⟨rfl, ?_⟩
    refine ⟨rfl, ?_⟩
    refine ⟨rfl, ?_⟩
    refine ⟨rfl, ?_⟩
    refine ⟨rfl, ?_⟩
    refine ⟨rfl, ?_⟩
    refine ⟨rfl, ?_⟩
    refine ⟨rfl, ?_⟩
    refine ⟨rfl, ?_⟩
    refine ⟨rfl, ?_⟩
    refine ⟨rfl, ?_⟩
    refine ⟨rfl, ?_⟩
    refine ⟨rfl, ?_⟩
    refine ⟨rfl, ?_⟩
    refine ⟨rfl, ?_⟩
    refine ⟨rfl, ?_⟩
    refine ⟨rfl, ?_⟩
    refine ⟨rfl, ?_⟩
    refine ⟨rfl, ?_⟩
    refine ⟨rfl, ?_⟩
    refine ⟨rfl, ?_⟩
    refine ⟨rfl, ?_⟩
    refine ⟨trivial, ?_⟩
    obtain rfl := Option.some.inj h
    exact ⟨trivial, ⟨trivial, trivial⟩, rfl, rfl⟩
/-! halter/halterlaw27.TraceOnce -/
def halterlaw27_TraceOnce.l0 (a0 : (List (Int × (Int × (Int × Int))))) : Nat → Int → Bool → Int → Int → Int → Bool → Bool → Bool → Bool → Int → Option ((Int × Bool × Int × Int × Int × Bool) ⊕ (Int × Bool × Int × Int × Int × Bool))
  | 0, _, _, _, _, _, _, _, _, _, _ => none
  | n + 1, x94, x95, x96, x97, x98, x99, x100, x101, x102, x103 =>
    if x103 < (((List.length a0) : Nat) : Int) then
      if x103 < (60 : Int) then
        if 0 ≤ x103 ∧ x103 < (((List.length a0) : Nat) : Int) then
          if 0 ≤ x103 ∧ x103 < (((List.length a0) : Nat) : Int) then
            (halterref26_Of.f (IntKind.wrap .i64 ((2 : Int) + (IntKind.wrap .i64 ((Int.tmod (IntKind.wrap .u64 ((List.getD a0 (Int.toNat x103) ((0 : Int), ((0 : Int), ((0 : Int), (0 : Int))))).2.2.1)) (2 : Int)))))) (IntKind.wrap .i64 ((1 : Int) + (IntKind.wrap .i64 ((Int.tmod (IntKind.wrap .u64 ((List.getD a0 (Int.toNat x103) ((0 : Int), ((0 : Int), ((0 : Int), (0 : Int))))).2.2.2)) (31 : Int))))))).bind fun t210 =>
            if 0 ≤ x103 ∧ x103 < (((List.length a0) : Nat) : Int) then
              if (IntKind.wrap .i64 ((Int.tmod (IntKind.wrap .u64 ((List.getD a0 (Int.toNat x103) ((0 : Int), ((0 : Int), ((0 : Int), (0 : Int))))).1)) (6 : Int)))) = (0 : Int) then
                if 0 ≤ x103 ∧ x103 < (((List.length a0) : Nat) : Int) then
                  (trace_Attach.f x94 x95 x96 x97 x98 x99 (IntKind.wrap .i64 ((1 : Int) + (IntKind.wrap .i64 ((Int.tmod (IntKind.wrap .u64 ((List.getD a0 (Int.toNat x103) ((0 : Int), ((0 : Int), ((0 : Int), (0 : Int))))).2.1)) (99 : Int))))))).bind fun t213 =>
                  if ¬ ((Option.isNone t213.2.2.2.2.2.2) = (!x100)) then
                    some (.inr (x94, x95, x96, x97, x98, x99))
                  else
                    if t213.2.2.2.2.2.2 = none then
                      (trace_Check.f t213.1 t213.2.1 t213.2.2.1 t213.2.2.2.1 t213.2.2.2.2.1 t213.2.2.2.2.2.1).bind fun t216 =>
                      if ¬ (t216 = none) then
                        some (.inr (t213.1, t213.2.1, t213.2.2.1, t213.2.2.2.1, t213.2.2.2.2.1, t213.2.2.2.2.2.1))
                      else
                        if ¬ (t213.2.1 = x101) then
                          some (.inr (t213.1, t213.2.1, t213.2.2.1, t213.2.2.2.1, t213.2.2.2.2.1, t213.2.2.2.2.2.1))
                        else
                          if ¬ ((t213.2.2.1 != (0 : Int)) = x102) then
                            some (.inr (t213.1, t213.2.1, t213.2.2.1, t213.2.2.2.1, t213.2.2.2.2.1, t213.2.2.2.2.2.1))
                          else
                            if ¬ ((t213.1 != (0 : Int)) = true) then
                              some (.inr (t213.1, t213.2.1, t213.2.2.1, t213.2.2.2.1, t213.2.2.2.2.1, t213.2.2.2.2.2.1))
                            else
                              halterlaw27_TraceOnce.l0 a0 n t213.1 t213.2.1 t213.2.2.1 t213.2.2.2.1 t213.2.2.2.2.1 t213.2.2.2.2.2.1 true x101 x102 (IntKind.wrap .i64 (x103 + (1 : Int)))
                    else
                      (trace_Check.f x94 x95 x96 x97 x98 x99).bind fun t221 =>
                      if ¬ (t221 = none) then
                        some (.inr (x94, x95, x96, x97, x98, x99))
                      else
                        if ¬ (x95 = x101) then
                          some (.inr (x94, x95, x96, x97, x98, x99))
                        else
                          if ¬ ((x96 != (0 : Int)) = x102) then
                            some (.inr (x94, x95, x96, x97, x98, x99))
                          else
                            if ¬ ((x94 != (0 : Int)) = true) then
                              some (.inr (x94, x95, x96, x97, x98, x99))
                            else
                              halterlaw27_TraceOnce.l0 a0 n x94 x95 x96 x97 x98 x99 true x101 x102 (IntKind.wrap .i64 (x103 + (1 : Int)))
                else none
              else
                if (IntKind.wrap .i64 ((Int.tmod (IntKind.wrap .u64 ((List.getD a0 (Int.toNat x103) ((0 : Int), ((0 : Int), ((0 : Int), (0 : Int))))).1)) (6 : Int)))) = (1 : Int) then
                  (trace_Stop.f x94 x95 x96 x97 x98 x99 t210.1 false).bind fun t227 =>
                  if x100 = true then
                    if ¬ ((Option.isNone t227.2.2.2.2.2.2) = (!x101)) then
                      some (.inr (x94, x95, x96, x97, x98, x99))
                    else
                      if t227.2.2.2.2.2.2 = none then
                        (trace_Check.f t227.1 t227.2.1 t227.2.2.1 t227.2.2.2.1 t227.2.2.2.2.1 t227.2.2.2.2.2.1).bind fun t231 =>
                        if ¬ (t231 = none) then
                          some (.inr (t227.1, t227.2.1, t227.2.2.1, t227.2.2.2.1, t227.2.2.2.2.1, t227.2.2.2.2.2.1))
                        else
                          if ¬ (t227.2.1 = true) then
                            some (.inr (t227.1, t227.2.1, t227.2.2.1, t227.2.2.2.1, t227.2.2.2.2.1, t227.2.2.2.2.2.1))
                          else
                            if ¬ ((t227.2.2.1 != (0 : Int)) = true) then
                              some (.inr (t227.1, t227.2.1, t227.2.2.1, t227.2.2.2.1, t227.2.2.2.2.1, t227.2.2.2.2.2.1))
                            else
                              if ¬ ((t227.1 != (0 : Int)) = x100) then
                                some (.inr (t227.1, t227.2.1, t227.2.2.1, t227.2.2.2.1, t227.2.2.2.2.1, t227.2.2.2.2.2.1))
                              else
                                halterlaw27_TraceOnce.l0 a0 n t227.1 t227.2.1 t227.2.2.1 t227.2.2.2.1 t227.2.2.2.2.1 t227.2.2.2.2.2.1 x100 true true (IntKind.wrap .i64 (x103 + (1 : Int)))
                      else
                        (trace_Check.f x94 x95 x96 x97 x98 x99).bind fun t236 =>
                        if ¬ (t236 = none) then
                          some (.inr (x94, x95, x96, x97, x98, x99))
                        else
                          if ¬ (x95 = x101) then
                            some (.inr (x94, x95, x96, x97, x98, x99))
                          else
                            if ¬ ((x96 != (0 : Int)) = x102) then
                              some (.inr (x94, x95, x96, x97, x98, x99))
                            else
                              if ¬ ((x94 != (0 : Int)) = x100) then
                                some (.inr (x94, x95, x96, x97, x98, x99))
                              else
                                halterlaw27_TraceOnce.l0 a0 n x94 x95 x96 x97 x98 x99 x100 x101 x102 (IntKind.wrap .i64 (x103 + (1 : Int)))
                  else
                    if ¬ ((Option.isNone t227.2.2.2.2.2.2) = false) then
                      some (.inr (x94, x95, x96, x97, x98, x99))
                    else
                      if t227.2.2.2.2.2.2 = none then
                        (trace_Check.f t227.1 t227.2.1 t227.2.2.1 t227.2.2.2.1 t227.2.2.2.2.1 t227.2.2.2.2.2.1).bind fun t243 =>
                        if ¬ (t243 = none) then
                          some (.inr (t227.1, t227.2.1, t227.2.2.1, t227.2.2.2.1, t227.2.2.2.2.1, t227.2.2.2.2.2.1))
                        else
                          if ¬ (t227.2.1 = true) then
                            some (.inr (t227.1, t227.2.1, t227.2.2.1, t227.2.2.2.1, t227.2.2.2.2.1, t227.2.2.2.2.2.1))
                          else
                            if ¬ ((t227.2.2.1 != (0 : Int)) = true) then
                              some (.inr (t227.1, t227.2.1, t227.2.2.1, t227.2.2.2.1, t227.2.2.2.2.1, t227.2.2.2.2.2.1))
                            else
                              if ¬ ((t227.1 != (0 : Int)) = x100) then
                                some (.inr (t227.1, t227.2.1, t227.2.2.1, t227.2.2.2.1, t227.2.2.2.2.1, t227.2.2.2.2.2.1))
                              else
                                halterlaw27_TraceOnce.l0 a0 n t227.1 t227.2.1 t227.2.2.1 t227.2.2.2.1 t227.2.2.2.2.1 t227.2.2.2.2.2.1 x100 true true (IntKind.wrap .i64 (x103 + (1 : Int)))
                      else
                        (trace_Check.f x94 x95 x96 x97 x98 x99).bind fun t248 =>
                        if ¬ (t248 = none) then
                          some (.inr (x94, x95, x96, x97, x98, x99))
                        else
                          if ¬ (x95 = x101) then
                            some (.inr (x94, x95, x96, x97, x98, x99))
                          else
                            if ¬ ((x96 != (0 : Int)) = x102) then
                              some (.inr (x94, x95, x96, x97, x98, x99))
                            else
                              if ¬ ((x94 != (0 : Int)) = x100) then
                                some (.inr (x94, x95, x96, x97, x98, x99))
                              else
                                halterlaw27_TraceOnce.l0 a0 n x94 x95 x96 x97 x98 x99 x100 x101 x102 (IntKind.wrap .i64 (x103 + (1 : Int)))
                else
                  if (IntKind.wrap .i64 ((Int.tmod (IntKind.wrap .u64 ((List.getD a0 (Int.toNat x103) ((0 : Int), ((0 : Int), ((0 : Int), (0 : Int))))).1)) (6 : Int)))) = (2 : Int) then
                    (trace_Collect.f x94 x95 x96 x97 x98 x99).bind fun t254 =>
                    if ¬ ((Option.isNone t254.2.2.2.2.2.2.2) = x102) then
                      some (.inr (x94, x95, x96, x97, x98, x99))
                    else
                      if t254.2.2.2.2.2.2.2 = none then
                        if t254.1 = (0 : Int) then
                          some (.inr (x94, x95, x96, x97, x98, x99))
                        else
                          (trace_Check.f t254.2.1 t254.2.2.1 t254.2.2.2.1 t254.2.2.2.2.1 t254.2.2.2.2.2.1 t254.2.2.2.2.2.2.1).bind fun t258 =>
                          if ¬ (t258 = none) then
                            some (.inr (t254.2.1, t254.2.2.1, t254.2.2.2.1, t254.2.2.2.2.1, t254.2.2.2.2.2.1, t254.2.2.2.2.2.2.1))
                          else
                            if ¬ (t254.2.2.1 = x101) then
                              some (.inr (t254.2.1, t254.2.2.1, t254.2.2.2.1, t254.2.2.2.2.1, t254.2.2.2.2.2.1, t254.2.2.2.2.2.2.1))
                            else
                              if ¬ ((t254.2.2.2.1 != (0 : Int)) = false) then
                                some (.inr (t254.2.1, t254.2.2.1, t254.2.2.2.1, t254.2.2.2.2.1, t254.2.2.2.2.2.1, t254.2.2.2.2.2.2.1))
                              else
                                if ¬ ((t254.2.1 != (0 : Int)) = x100) then
                                  some (.inr (t254.2.1, t254.2.2.1, t254.2.2.2.1, t254.2.2.2.2.1, t254.2.2.2.2.2.1, t254.2.2.2.2.2.2.1))
                                else
                                  halterlaw27_TraceOnce.l0 a0 n t254.2.1 t254.2.2.1 t254.2.2.2.1 t254.2.2.2.2.1 t254.2.2.2.2.2.1 t254.2.2.2.2.2.2.1 x100 x101 false (IntKind.wrap .i64 (x103 + (1 : Int)))
                      else
                        (trace_Check.f x94 x95 x96 x97 x98 x99).bind fun t263 =>
                        if ¬ (t263 = none) then
                          some (.inr (x94, x95, x96, x97, x98, x99))
                        else
                          if ¬ (x95 = x101) then
                            some (.inr (x94, x95, x96, x97, x98, x99))
                          else
                            if ¬ ((x96 != (0 : Int)) = false) then
                              some (.inr (x94, x95, x96, x97, x98, x99))
                            else
                              if ¬ ((x94 != (0 : Int)) = x100) then
                                some (.inr (x94, x95, x96, x97, x98, x99))
                              else
                                halterlaw27_TraceOnce.l0 a0 n x94 x95 x96 x97 x98 x99 x100 x101 false (IntKind.wrap .i64 (x103 + (1 : Int)))
                  else
                    if (IntKind.wrap .i64 ((Int.tmod (IntKind.wrap .u64 ((List.getD a0 (Int.toNat x103) ((0 : Int), ((0 : Int), ((0 : Int), (0 : Int))))).1)) (6 : Int)))) = (3 : Int) then
                      if 0 ≤ x103 ∧ x103 < (((List.length a0) : Nat) : Int) then
                        (trace_Resume.f x94 x95 x96 x97 x98 x99 (IntKind.wrap .i64 ((Int.tmod (IntKind.wrap .u64 ((List.getD a0 (Int.toNat x103) ((0 : Int), ((0 : Int), ((0 : Int), (0 : Int))))).2.2.1)) (3 : Int)))) (IntKind.wrap .i64 ((1 : Int) + (IntKind.wrap .i64 ((Int.tmod (IntKind.wrap .u64 ((List.getD a0 (Int.toNat x103) ((0 : Int), ((0 : Int), ((0 : Int), (0 : Int))))).2.2.2)) (31 : Int))))))).bind fun t270 =>
                        if ¬ ((Option.isNone t270.2.2.2.2.2.2) = x101) then
                          some (.inr (x94, x95, x96, x97, x98, x99))
                        else
                          if t270.2.2.2.2.2.2 = none then
                            (trace_Check.f t270.1 t270.2.1 t270.2.2.1 t270.2.2.2.1 t270.2.2.2.2.1 t270.2.2.2.2.2.1).bind fun t273 =>
                            if ¬ (t273 = none) then
                              some (.inr (t270.1, t270.2.1, t270.2.2.1, t270.2.2.2.1, t270.2.2.2.2.1, t270.2.2.2.2.2.1))
                            else
                              if ¬ (t270.2.1 = false) then
                                some (.inr (t270.1, t270.2.1, t270.2.2.1, t270.2.2.2.1, t270.2.2.2.2.1, t270.2.2.2.2.2.1))
                              else
                                if ¬ ((t270.2.2.1 != (0 : Int)) = false) then
                                  some (.inr (t270.1, t270.2.1, t270.2.2.1, t270.2.2.2.1, t270.2.2.2.2.1, t270.2.2.2.2.2.1))
                                else
                                  if ¬ ((t270.1 != (0 : Int)) = x100) then
                                    some (.inr (t270.1, t270.2.1, t270.2.2.1, t270.2.2.2.1, t270.2.2.2.2.1, t270.2.2.2.2.2.1))
                                  else
                                    halterlaw27_TraceOnce.l0 a0 n t270.1 t270.2.1 t270.2.2.1 t270.2.2.2.1 t270.2.2.2.2.1 t270.2.2.2.2.2.1 x100 false false (IntKind.wrap .i64 (x103 + (1 : Int)))
                          else
                            (trace_Check.f x94 x95 x96 x97 x98 x99).bind fun t278 =>
                            if ¬ (t278 = none) then
                              some (.inr (x94, x95, x96, x97, x98, x99))
                            else
                              if ¬ (x95 = x101) then
                                some (.inr (x94, x95, x96, x97, x98, x99))
                              else
                                if ¬ ((x96 != (0 : Int)) = x102) then
                                  some (.inr (x94, x95, x96, x97, x98, x99))
                                else
                                  if ¬ ((x94 != (0 : Int)) = x100) then
                                    some (.inr (x94, x95, x96, x97, x98, x99))
                                  else
                                    halterlaw27_TraceOnce.l0 a0 n x94 x95 x96 x97 x98 x99 x100 x101 x102 (IntKind.wrap .i64 (x103 + (1 : Int)))
                      else none
                    else
                      if (IntKind.wrap .i64 ((Int.tmod (IntKind.wrap .u64 ((List.getD a0 (Int.toNat x103) ((0 : Int), ((0 : Int), ((0 : Int), (0 : Int))))).1)) (6 : Int)))) = (4 : Int) then
                        (trace_Free.f x94 x95 x96 x97 x98 x99).bind fun t284 =>
                        (trace_Check.f t284.1 t284.2.1 t284.2.2.1 t284.2.2.2.1 t284.2.2.2.2.1 t284.2.2.2.2.2).bind fun t285 =>
                        if ¬ (t285 = none) then
                          some (.inr (t284.1, t284.2.1, t284.2.2.1, t284.2.2.2.1, t284.2.2.2.2.1, t284.2.2.2.2.2))
                        else
                          if ¬ (t284.2.1 = false) then
                            some (.inr (t284.1, t284.2.1, t284.2.2.1, t284.2.2.2.1, t284.2.2.2.2.1, t284.2.2.2.2.2))
                          else
                            if ¬ ((t284.2.2.1 != (0 : Int)) = false) then
                              some (.inr (t284.1, t284.2.1, t284.2.2.1, t284.2.2.2.1, t284.2.2.2.2.1, t284.2.2.2.2.2))
                            else
                              if ¬ ((t284.1 != (0 : Int)) = false) then
                                some (.inr (t284.1, t284.2.1, t284.2.2.1, t284.2.2.2.1, t284.2.2.2.2.1, t284.2.2.2.2.2))
                              else
                                halterlaw27_TraceOnce.l0 a0 n t284.1 t284.2.1 t284.2.2.1 t284.2.2.2.1 t284.2.2.2.2.1 t284.2.2.2.2.2 false false false (IntKind.wrap .i64 (x103 + (1 : Int)))
                      else
                        (trace_Take.f x94 x95 x96 x97 x98 x99).bind fun t290 =>
                        (trace_Check.f t290.2.1 t290.2.2.1 t290.2.2.2.1 t290.2.2.2.2.1 t290.2.2.2.2.2.1 t290.2.2.2.2.2.2).bind fun t291 =>
                        if ¬ (t291 = none) then
                          some (.inr (t290.2.1, t290.2.2.1, t290.2.2.2.1, t290.2.2.2.2.1, t290.2.2.2.2.2.1, t290.2.2.2.2.2.2))
                        else
                          if ¬ (t290.2.2.1 = x101) then
                            some (.inr (t290.2.1, t290.2.2.1, t290.2.2.2.1, t290.2.2.2.2.1, t290.2.2.2.2.2.1, t290.2.2.2.2.2.2))
                          else
                            if ¬ ((t290.2.2.2.1 != (0 : Int)) = x102) then
                              some (.inr (t290.2.1, t290.2.2.1, t290.2.2.2.1, t290.2.2.2.2.1, t290.2.2.2.2.2.1, t290.2.2.2.2.2.2))
                            else
                              if ¬ ((t290.2.1 != (0 : Int)) = x100) then
                                some (.inr (t290.2.1, t290.2.2.1, t290.2.2.2.1, t290.2.2.2.2.1, t290.2.2.2.2.2.1, t290.2.2.2.2.2.2))
                              else
                                halterlaw27_TraceOnce.l0 a0 n t290.2.1 t290.2.2.1 t290.2.2.2.1 t290.2.2.2.2.1 t290.2.2.2.2.2.1 t290.2.2.2.2.2.2 x100 x101 x102 (IntKind.wrap .i64 (x103 + (1 : Int)))
            else none
          else none
        else none
      else
        some (.inl (x94, x95, x96, x97, x98, x99))
    else
      some (.inl (x94, x95, x96, x97, x98, x99))
def halterlaw27_TraceOnce.l0_S (a0 : (List (Int × (Int × (Int × Int))))) (x94 : Int) (x95 : Bool) (x96 : Int) (x97 : Int) (x98 : Int) (x99 : Bool) (x100 : Bool) (x101 : Bool) (x102 : Bool) (x103 : Int) : St := ⟨[.v (.one (.fs (.pair (.int .i64) (.pair (.int .i64) (.pair (.int .i64) (.int .i64)))) a0 false)), .any, .any, .v (.one (.ptr 0 ⟨0, 0, 0, 0⟩)), .v (.one (.sc (.bool x100))), .v (.one (.sc (.bool x101))), .v (.one (.sc (.bool x102))), .v (.one (.sc (.int .i64 x103))), .any, .any, .any, .any, .any, .any, .any, .any, .any, .any, .any, .any, .any, .any, .any, .any, .any, .any, .any, .any, .any, .any, .any, .any, .any, .any, .any, .any, .any, .any, .any, .any, .any, .any, .any, .any, .any, .any, .any, .any, .any, .any, .any, .any, .any, .any, .any, .any, .any, .any, .any, .any, .any, .any, .any, .any, .any, .any, .any, .any, .any, .any, .any, .any, .any, .any, .any, .any, .any, .any, .any, .any, .any, .any, .any, .any, .any, .any, .any, .any, .any, .any, .any, .any, .any, .any, .any, .any, .any, .any, .any, .any, .any, .any, .any, .any, .any, .any, .any, .any, .any, .any, .any, .any, .any, .any, .any, .any, .any, .any, .any, .any, .any, .any, .any, .any, .any, .any, .any, .any, .any, .any, .any, .any, .any, .any, .any, .any, .any, .any, .any, .any, .any, .any, .any, .any, .any, .any, .any, .any, .any, .any, .any, .any, .any, .any, .any, .any, .any, .any, .any, .any, .any, .any, .any, .any, .any, .any, .any, .any, .any, .any, .any, .any, .any, .any, .any, .any, .any], [.ex false [.c (.sc (.int .i64 x94)), .c (.sc (.bool x95)), .c (.sc (.int .u32 x96)), .c (.sc (.int .i64 x97)), .c (.sc (.int .i64 x98)), .c (.sc (.bool x99))] 26], 0⟩
def halterlaw27_TraceOnce.l0_Q (a0 : (List (Int × (Int × (Int × Int))))) : (Int × Bool × Int × Int × Int × Bool) ⊕ (Int × Bool × Int × Int × Int × Bool) → Exit → St → Prop
  | .inl t => fun e s => e = (.exit 0) ∧ s = ⟨[.any, .any, .any, .any, .any, .any, .any, .any, .any, .any, .any, .any, .any, .any, .any, .any, .any, .any, .any, .any, .any, .any, .any, .any, .any, .any, .any, .any, .any, .any, .any, .any, .any, .any, .any, .any, .any, .any, .any, .any, .any, .any, .any, .any, .any, .any, .any, .any, .any, .any, .any, .any, .any, .any, .any, .any, .any, .any, .any, .any, .any, .any, .any, .any, .any, .any, .any, .any, .any, .any, .any, .any, .any, .any, .any, .any, .any, .any, .any, .any, .any, .any, .any, .any, .any, .any, .any, .any, .any, .any, .any, .any, .any, .any, .any, .any, .any, .any, .any, .any, .any, .any, .any, .any, .any, .any, .any, .any, .any, .any, .any, .any, .any, .any, .any, .any, .any, .any, .any, .any, .any, .any, .any, .any, .any, .any, .any, .any, .any, .any, .any, .any, .any, .any, .any, .any, .any, .any, .any, .any, .any, .any, .any, .any, .any, .any, .any, .any, .any, .any, .any, .any, .any, .any, .any, .any, .any, .any, .any, .any, .any, .any, .any, .any, .any, .any, .any, .any, .any, .any, .any, .any, .any, .any, .any, .any, .any], [.ex false [.c (.sc (.int .i64 t.1)), .c (.sc (.bool t.2.1)), .c (.sc (.int .u32 t.2.2.1)), .c (.sc (.int .i64 t.2.2.2.1)), .c (.sc (.int .i64 t.2.2.2.2.1)), .c (.sc (.bool t.2.2.2.2.2))] 26], 0⟩
  | .inr t => fun e s => e = .ret ∧ s = ⟨[.any, .any, .v (.one (.sc (.bool false))), .any, .any, .any, .any, .any, .any, .any, .any, .any, .any, .any, .any, .any, .any, .any, .any, .any, .any, .any, .any, .any, .any, .any, .any, .any, .any, .any, .any, .any, .any, .any, .any, .any, .any, .any, .any, .any, .any, .any, .any, .any, .any, .any, .any, .any, .any, .any, .any, .any, .any, .any, .any, .any, .any, .any, .any, .any, .any, .any, .any, .any, .any, .any, .any, .any, .any, .any, .any, .any, .any, .any, .any, .any, .any, .any, .any, .any, .any, .any, .any, .any, .any, .any, .any, .any, .any, .any, .any, .any, .any, .any, .any, .any, .any, .any, .any, .any, .any, .any, .any, .any, .any, .any, .any, .any, .any, .any, .any, .any, .any, .any, .any, .any, .any, .any, .any, .any, .any, .any, .any, .any, .any, .any, .any, .any, .any, .any, .any, .any, .any, .any, .any, .any, .any, .any, .any, .any, .any, .any, .any, .any, .any, .any, .any, .any, .any, .any, .any, .any, .any, .any, .any, .any, .any, .any, .any, .any, .any, .any, .any, .any, .any, .any, .any, .any, .any, .any, .any, .any, .any, .any, .any, .any, .any], [.ex false [.c (.sc (.int .i64 t.1)), .c (.sc (.bool t.2.1)), .c (.sc (.int .u32 t.2.2.1)), .c (.sc (.int .i64 t.2.2.2.1)), .c (.sc (.int .i64 t.2.2.2.2.1)), .c (.sc (.bool t.2.2.2.2.2))] 26], 0⟩
end Go.Proofs.YtlaemcglemakjaaDoorGTraceOnce
