/- Printed by gen.py: what functions of the program compute, in plain Lean, and that they do. -/
import Derived.Test.YtaiedgjhgkhigaaDoorE15
import Derived.Test.YtaiedgjhgkhigaaDoorN
set_option linter.unusedVariables false
set_option maxRecDepth 100000
set_option maxHeartbeats 4000000
namespace Go.Proofs.YtaiedgjhgkhigaaDoorGImageBack
open Go Go.Proofs.YtaiedgjhgkhigaaDoorE
def tiL : List (Nat × TI) := [
  (3, ⟨1, 8, false, .int .i64, [.c (.sc (.int .i64 (0 : Int)))], some (.int .i64)⟩),
  (4, ⟨1, 1, false, .bool, [.c (.sc (.bool false))], some .bool⟩),
  (5, ⟨1, 1, false, .int .u8, [.c (.sc (.int .u8 (0 : Int)))], some (.int .u8)⟩),
  (9, ⟨1, 16, false, .str, [.c (.sc (.string ByteArray.empty))], some .str⟩),
  (22, ⟨1, 4, false, .int .u32, [.c (.sc (.int .u32 (0 : Int)))], some (.int .u32)⟩),
  (23, ⟨1, 24, false, (.slice 29), [.c (.sc (.slice none 0 0))], some (.sl (.pair (.int .i64) (.pair (.int .i64) (.pair (.int .u8) (.sl (.int .u8))))))⟩),
  (25, ⟨2, 32, true, (.struct [(0, 22), (1, 23)]), [.c (.sc (.int .u32 (0 : Int))), .c (.sc (.slice none 0 0))], some (.pair (.int .u32) (.sl (.pair (.int .i64) (.pair (.int .i64) (.pair (.int .u8) (.sl (.int .u8)))))))⟩),
  (26, ⟨1, 24, false, (.slice 5), [.c (.sc (.slice none 0 0))], some (.sl (.int .u8))⟩),
  (29, ⟨4, 48, true, (.struct [(0, 3), (1, 3), (2, 5), (3, 26)]), [.c (.sc (.int .i64 (0 : Int))), .c (.sc (.int .i64 (0 : Int))), .c (.sc (.int .u8 (0 : Int))), .c (.sc (.slice none 0 0))], some (.pair (.int .i64) (.pair (.int .i64) (.pair (.int .u8) (.sl (.int .u8)))))⟩),
  (31, ⟨1, 16, false, .iface, [.c (.err none)], none⟩),
  (34, ⟨1, 24, false, (.slice 50), [.c (.sc (.slice none 0 0))], some (.sl (.pair (.int .i64) (.pair (.int .i64) (.pair (.int .u8) (.sl (.int .u8))))))⟩),
  (36, ⟨2, 32, true, (.struct [(0, 22), (1, 34)]), [.c (.sc (.int .u32 (0 : Int))), .c (.sc (.slice none 0 0))], some (.pair (.int .u32) (.sl (.pair (.int .i64) (.pair (.int .i64) (.pair (.int .u8) (.sl (.int .u8)))))))⟩),
  (48, ⟨1, 8, false, .int .u64, [.c (.sc (.int .u64 (0 : Int)))], some (.int .u64)⟩),
  (50, ⟨4, 48, true, (.struct [(0, 3), (1, 3), (2, 5), (3, 26)]), [.c (.sc (.int .i64 (0 : Int))), .c (.sc (.int .i64 (0 : Int))), .c (.sc (.int .u8 (0 : Int))), .c (.sc (.slice none 0 0))], some (.pair (.int .i64) (.pair (.int .i64) (.pair (.int .u8) (.sl (.int .u8)))))⟩),
  (59, ⟨2, 32, true, (.struct [(0, 26), (1, 4)]), [.c (.sc (.slice none 0 0)), .c (.sc (.bool false))], some (.pair (.sl (.int .u8)) .bool)⟩),
  (60, ⟨1, 8, false, .int .i64, [.c (.sc (.int .i64 (0 : Int)))], some (.int .i64)⟩),
  (70, ⟨1, 24, false, (.slice 26), [.c (.sc (.slice none 0 0))], some (.sl (.sl (.int .u8)))⟩)]
def tabs : List (Nat × IntKind × List Int) := []
noncomputable def cfg : Cfg := ⟨Tryd.prog, 60, [(⟨0, 0, none⟩, .iface 87 (.agg #[.pointer (some ⟨1, 31, none⟩)]))] ++ tabs.flatMap tabG, tiL, [], tabs⟩
theorem cfg_ok : COk cfg := by
  refine ⟨fun p hp => ?_, by kernel_rfl, fun p hp => ?_, fun t ht => ?_, fun x hx y hy => List.mem_append_right _ (List.mem_flatMap.2 ⟨x, hx, hy⟩)⟩
  · simp only [cfg, tiL, List.mem_cons, List.not_mem_nil, or_false] at hp
    rcases hp with rfl | rfl | rfl | rfl | rfl | rfl | rfl | rfl | rfl | rfl | rfl | rfl | rfl | rfl | rfl | rfl | rfl <;> exact ⟨by kernel_rfl, by kernel_rfl, by kernel_rfl, by kernel_rfl, by kernel_rfl, by kernel_rfl⟩
  · simp only [cfg, tiL, List.mem_cons, List.not_mem_nil, or_false] at hp
    rcases hp with rfl | rfl | rfl | rfl | rfl | rfl | rfl | rfl | rfl | rfl | rfl | rfl | rfl | rfl | rfl | rfl | rfl <;> intro fs hfs bl hbl
    · cases hfs
    · cases hfs
    · cases hfs
    · cases hfs
    · cases hfs
    · cases hfs
    · cases hfs
      have e : fieldsZ cfg.L 0 [(0, 22), (1, 23)] = some [[.c (.sc (.int .u32 (0 : Int)))], [.c (.sc (.slice none 0 0))]] := by kernel_rfl
      rw [e] at hbl
      cases hbl
      exact (by kernel_rfl : encPs (List.flatten [[.c (.sc (.int .u32 (0 : Int)))], [.c (.sc (.slice none 0 0))]]) = encPs [.c (.sc (.int .u32 (0 : Int))), .c (.sc (.slice none 0 0))])
    · cases hfs
    · cases hfs
      have e : fieldsZ cfg.L 0 [(0, 3), (1, 3), (2, 5), (3, 26)] = some [[.c (.sc (.int .i64 (0 : Int)))], [.c (.sc (.int .i64 (0 : Int)))], [.c (.sc (.int .u8 (0 : Int)))], [.c (.sc (.slice none 0 0))]] := by kernel_rfl
      rw [e] at hbl
      cases hbl
      exact (by kernel_rfl : encPs (List.flatten [[.c (.sc (.int .i64 (0 : Int)))], [.c (.sc (.int .i64 (0 : Int)))], [.c (.sc (.int .u8 (0 : Int)))], [.c (.sc (.slice none 0 0))]]) = encPs [.c (.sc (.int .i64 (0 : Int))), .c (.sc (.int .i64 (0 : Int))), .c (.sc (.int .u8 (0 : Int))), .c (.sc (.slice none 0 0))])
    · cases hfs
    · cases hfs
    · cases hfs
      have e : fieldsZ cfg.L 0 [(0, 22), (1, 34)] = some [[.c (.sc (.int .u32 (0 : Int)))], [.c (.sc (.slice none 0 0))]] := by kernel_rfl
      rw [e] at hbl
      cases hbl
      exact (by kernel_rfl : encPs (List.flatten [[.c (.sc (.int .u32 (0 : Int)))], [.c (.sc (.slice none 0 0))]]) = encPs [.c (.sc (.int .u32 (0 : Int))), .c (.sc (.slice none 0 0))])
    · cases hfs
    · cases hfs
      have e : fieldsZ cfg.L 0 [(0, 3), (1, 3), (2, 5), (3, 26)] = some [[.c (.sc (.int .i64 (0 : Int)))], [.c (.sc (.int .i64 (0 : Int)))], [.c (.sc (.int .u8 (0 : Int)))], [.c (.sc (.slice none 0 0))]] := by kernel_rfl
      rw [e] at hbl
      cases hbl
      exact (by kernel_rfl : encPs (List.flatten [[.c (.sc (.int .i64 (0 : Int)))], [.c (.sc (.int .i64 (0 : Int)))], [.c (.sc (.int .u8 (0 : Int)))], [.c (.sc (.slice none 0 0))]]) = encPs [.c (.sc (.int .i64 (0 : Int))), .c (.sc (.int .i64 (0 : Int))), .c (.sc (.int .u8 (0 : Int))), .c (.sc (.slice none 0 0))])
    · cases hfs
      have e : fieldsZ cfg.L 0 [(0, 26), (1, 4)] = some [[.c (.sc (.slice none 0 0))], [.c (.sc (.bool false))]] := by kernel_rfl
      rw [e] at hbl
      cases hbl
      exact (by kernel_rfl : encPs (List.flatten [[.c (.sc (.slice none 0 0))], [.c (.sc (.bool false))]]) = encPs [.c (.sc (.slice none 0 0)), .c (.sc (.bool false))])
    · cases hfs
    · cases hfs
  · cases ht
def fin : Scr → List Adj
  | .adj l _ => l
  | _ => []
abbrev p2 {a0 a1 a2 a3 : Type} (x : a0 × a1 × a2 × a3) : a2 := x.2.2.1
abbrev p3 {a0 a1 a2 a3 a4 : Type} (x : a0 × a1 × a2 × a3 × a4) : a3 := x.2.2.2.1
abbrev p4 {a0 a1 a2 a3 a4 a5 : Type} (x : a0 × a1 × a2 × a3 × a4 × a5) : a4 := x.2.2.2.2.1
abbrev p5 {a0 a1 a2 a3 a4 a5 a6 : Type} (x : a0 × a1 × a2 × a3 × a4 × a5 × a6) : a5 := x.2.2.2.2.2.1
abbrev z2 {a0 a1 a2 : Type} (x : a0 × a1 × a2) : a2 := x.2.2
abbrev z3 {a0 a1 a2 a3 : Type} (x : a0 × a1 × a2 × a3) : a3 := x.2.2.2
abbrev z5 {a0 a1 a2 a3 a4 a5 : Type} (x : a0 × a1 × a2 × a3 × a4 × a5) : a5 := x.2.2.2.2.2
abbrev z6 {a0 a1 a2 a3 a4 a5 a6 : Type} (x : a0 × a1 × a2 × a3 × a4 × a5 × a6) : a6 := x.2.2.2.2.2.2
/-! the error's number -/
def num.f (a0 : Option Int) : Option Int := some (a0.getD 0)
def num.R (r : Int) : Tm := .v (.one (.sc (.int .i64 r)))
theorem num.fun_ {a0 : Option Int} {r : Int} (h : num.f a0 = some r) : Fun cfg 12 [.one (.err a0)] [] (num.R r) [] := by
  refine Fun.of_below (f := 12) (fn := Tryd.f12) Tryd.func12 rfl (by kernel_rfl) (r := .int .i64 r) (fun X => ⟨⟨rfl, rfl⟩, rfl⟩) fun X vs hE hvs hG => ?_
  obtain ⟨v, us, rfl, hv, rfl⟩ := hvs
  have hv : v = errV X.E a0 := hv.1
  have he : errV cfg.E a0 = YtaiedgjhgkhigaaDoorN.errW a0 := by cases a0 <;> rfl
  rw [hv, hE, he]
  exact YtaiedgjhgkhigaaDoorN.num.calls a0 r X.w (hG _ (List.mem_append_left _ (List.mem_cons_self ..))) h
/-! (halter/image.Seg).may -/
def image_Seg_may.c0 (a3 : (List Int)) (a1 : Int) (a0 : Int) : Bool := (decide ((((List.length a3) : Nat) : Int) ≤ (if (IntKind.wrap .i64 ((IntKind.wrap .i64 (a1 - a0)) * (256 : Int))) < (65535 : Int) then (IntKind.wrap .i64 ((IntKind.wrap .i64 (a1 - a0)) * (256 : Int))) else (65535 : Int))))
def image_Seg_may.f (a0 : Int) (a1 : Int) (a2 : Int) (a3 : (List Int)) : Option Bool :=
  if a0 ≥ (0 : Int) then
    if a0 < a1 then
      if a1 ≤ (4080 : Int) then
        if a2 ≤ (7 : Int) then
          some (decide ((((List.length a3) : Nat) : Int) ≤ (if (IntKind.wrap .i64 ((IntKind.wrap .i64 (a1 - a0)) * (256 : Int))) < (65535 : Int) then (IntKind.wrap .i64 ((IntKind.wrap .i64 (a1 - a0)) * (256 : Int))) else (65535 : Int))))
        else
          some false
      else
        some false
    else
      some false
  else
    some false
def image_Seg_may.R (r : Bool) : Tm := .v (.one (.sc (.bool r)))
theorem image_Seg_may.fun_ {a0 : Int} {a1 : Int} {a2 : Int} {a3 : (List Int)} {r : Bool} (h : image_Seg_may.f a0 a1 a2 a3 = some r) : Fun cfg 25 [.agg [.c (.sc (.int .i64 a0)), .c (.sc (.int .i64 a1)), .c (.sc (.int .u8 a2)), .c (.fs (.int .u8) a3 false)]] [] (image_Seg_may.R r) [] := by
  unfold image_Seg_may.f at h
  refine fun_of_run cfg_ok (f := 25) (fn := Tryd.f25) Tryd.func25 rfl (by kernel_rfl) (rs := [.tmp 2]) rfl (nt := 36) rfl (l := fin) (k := (.br (oT 5 (.br (oT 3 (.br (oT 3 (.br (oT 11 (.adj [] (.adj [.drop 0] .nil))) (oF 11 (.adj [] (.adj [.drop 0] .nil))))) (oF 15 (.adj [] (.adj [.drop 0] .nil))))) (oF 19 (.adj [] (.adj [.drop 0] .nil))))) (oF 25 (.adj [] (.adj [.drop 0] .nil))))) (to_goal (q := (True) ∧ (True) ∧ (((decide (a0 ≥ (0 : Int))) = true → ((decide (a0 ≥ (0 : Int))) = true ∧ (True) ∧ ((decide (a0 ≥ (0 : Int))) = true ∧ ((decide (a0 ≥ (0 : Int))) = true ∧ (True) ∧ ((decide (a0 ≥ (0 : Int))) = true ∧ (True) ∧ ((decide (a0 ≥ (0 : Int))) = true ∧ (((decide (a0 < a1)) = true → ((decide (a0 < a1)) = true ∧ (True) ∧ ((decide (a0 < a1)) = true ∧ (True) ∧ ((decide (a0 < a1)) = true ∧ (((decide (a1 ≤ (4080 : Int))) = true → ((decide (a1 ≤ (4080 : Int))) = true ∧ (True) ∧ ((decide (a1 ≤ (4080 : Int))) = true ∧ (True) ∧ ((decide (a1 ≤ (4080 : Int))) = true ∧ (((decide (a2 ≤ (7 : Int))) = true → ((decide (a2 ≤ (7 : Int))) = true ∧ (True) ∧ ((decide (a2 ≤ (7 : Int))) = true ∧ (True) ∧ ((decide (a2 ≤ (7 : Int))) = true ∧ ((decide (a2 ≤ (7 : Int))) = true ∧ (True) ∧ ((decide (a2 ≤ (7 : Int))) = true ∧ ((decide (a2 ≤ (7 : Int))) = true ∧ (True) ∧ ((decide (a2 ≤ (7 : Int))) = true ∧ (True) ∧ ((decide (a2 ≤ (7 : Int))) = true ∧ (True) ∧ ((decide (a2 ≤ (7 : Int))) = true ∧ (True) ∧ ((decide (a2 ≤ (7 : Int))) = true ∧ (True) ∧ ((decide (a2 ≤ (7 : Int))) = true ∧ (True ∧ ((True) ∧ ((True) ∧ True) ∧ (.v (.one (.sc (.bool (image_Seg_may.c0 a3 a1 a0)))) : Tm) = image_Seg_may.R r ∧ ([] : List Box) = [])))))))))))))) ∧ ((decide (a2 ≤ (7 : Int))) = false → ((decide (a2 ≤ (7 : Int))) = false ∧ ((decide (a2 ≤ (7 : Int))) = false ∧ ((decide (a2 ≤ (7 : Int))) = false ∧ ((decide (a2 ≤ (7 : Int))) = false ∧ ((decide (a2 ≤ (7 : Int))) = false ∧ ((decide (a2 ≤ (7 : Int))) = false ∧ ((decide (a2 ≤ (7 : Int))) = false ∧ ((decide (a2 ≤ (7 : Int))) = false ∧ ((decide (a2 ≤ (7 : Int))) = false ∧ ((decide (a2 ≤ (7 : Int))) = false ∧ ((decide (a2 ≤ (7 : Int))) = false ∧ (True ∧ ((True) ∧ ((True) ∧ True) ∧ (.v (.one (.sc (.bool false))) : Tm) = image_Seg_may.R r ∧ ([] : List Box) = []))))))))))))))))))) ∧ ((decide (a1 ≤ (4080 : Int))) = false → ((decide (a1 ≤ (4080 : Int))) = false ∧ ((decide (a1 ≤ (4080 : Int))) = false ∧ ((decide (a1 ≤ (4080 : Int))) = false ∧ (false = false ∧ (false = false ∧ (false = false ∧ (false = false ∧ (false = false ∧ (false = false ∧ (false = false ∧ (false = false ∧ (false = false ∧ (false = false ∧ (false = false ∧ (false = false ∧ (True ∧ ((True) ∧ ((True) ∧ True) ∧ (.v (.one (.sc (.bool false))) : Tm) = image_Seg_may.R r ∧ ([] : List Box) = []))))))))))))))))))))))) ∧ ((decide (a0 < a1)) = false → ((decide (a0 < a1)) = false ∧ ((decide (a0 < a1)) = false ∧ ((decide (a0 < a1)) = false ∧ (false = false ∧ (false = false ∧ (false = false ∧ (false = false ∧ (false = false ∧ (false = false ∧ (false = false ∧ (false = false ∧ (false = false ∧ (false = false ∧ (false = false ∧ (false = false ∧ (false = false ∧ (false = false ∧ (false = false ∧ (false = false ∧ (True ∧ ((True) ∧ ((True) ∧ True) ∧ (.v (.one (.sc (.bool false))) : Tm) = image_Seg_may.R r ∧ ([] : List Box) = []))))))))))))))))))))))))))))) ∧ ((decide (a0 ≥ (0 : Int))) = false → ((decide (a0 ≥ (0 : Int))) = false ∧ ((decide (a0 ≥ (0 : Int))) = false ∧ ((decide (a0 ≥ (0 : Int))) = false ∧ ((decide (a0 ≥ (0 : Int))) = false ∧ ((decide (a0 ≥ (0 : Int))) = false ∧ (false = false ∧ (false = false ∧ (false = false ∧ (false = false ∧ (false = false ∧ (false = false ∧ (false = false ∧ (false = false ∧ (false = false ∧ (false = false ∧ (false = false ∧ (false = false ∧ (false = false ∧ (false = false ∧ (false = false ∧ (false = false ∧ (false = false ∧ (false = false ∧ (false = false ∧ (false = false ∧ (True ∧ ((True) ∧ ((True) ∧ True) ∧ (.v (.one (.sc (.bool false))) : Tm) = image_Seg_may.R r ∧ ([] : List Box) = [])))))))))))))))))))))))))))))) (by kernel_rfl) ?_)
  refine ⟨trivial, trivial, ?_⟩
  refine ⟨fun b1 => ?_, fun b1 => ?_⟩
  · rw [if_pos (of_decide_eq_true b1)] at h
    refine ⟨b1, ?_⟩
    refine ⟨trivial, ?_⟩
    refine ⟨b1, ?_⟩
    refine ⟨b1, ?_⟩
    refine ⟨trivial, ?_⟩
    refine ⟨b1, ?_⟩
    refine ⟨trivial, ?_⟩
    refine ⟨b1, ?_⟩
    refine ⟨fun b2 => ?_, fun b2 => ?_⟩
    · rw [if_pos (of_decide_eq_true b2)] at h
      refine ⟨b2, ?_⟩
      refine ⟨trivial, ?_⟩
      refine ⟨b2, ?_⟩
      refine ⟨trivial, ?_⟩
      refine ⟨b2, ?_⟩
      refine ⟨fun b3 => ?_, fun b3 => ?_⟩
      · rw [if_pos (of_decide_eq_true b3)] at h
        refine ⟨b3, ?_⟩
        refine ⟨trivial, ?_⟩
        refine ⟨b3, ?_⟩
        refine ⟨trivial, ?_⟩
        refine ⟨b3, ?_⟩
        refine ⟨fun b4 => ?_, fun b4 => ?_⟩
        · rw [if_pos (of_decide_eq_true b4)] at h
          refine ⟨b4, ?_⟩
          refine ⟨trivial, ?_⟩
          refine ⟨b4, ?_⟩
          refine ⟨trivial, ?_⟩
          refine ⟨b4, ?_⟩
          refine ⟨b4, ?_⟩
          refine ⟨trivial, ?_⟩
          refine ⟨b4, ?_⟩
          refine ⟨b4, ?_⟩
          refine ⟨trivial, ?_⟩
          refine ⟨b4, ?_⟩
          refine ⟨trivial, ?_⟩
          refine ⟨b4, ?_⟩
          refine ⟨trivial, ?_⟩
          refine ⟨b4, ?_⟩
          refine ⟨trivial, ?_⟩
          refine ⟨b4, ?_⟩
          refine ⟨trivial, ?_⟩
          refine ⟨b4, ?_⟩
          refine ⟨trivial, ?_⟩
          obtain rfl := Option.some.inj h
          exact ⟨trivial, ⟨trivial, trivial⟩, rfl, rfl⟩
        · rw [if_neg (of_decide_eq_false b4)] at h
          refine ⟨b4, ?_⟩
          refine ⟨b4, ?_⟩
          refine ⟨b4, ?_⟩
          refine ⟨b4, ?_⟩
          refine ⟨b4, ?_⟩
          refine ⟨b4, ?_⟩
          refine ⟨b4, ?_⟩
          refine ⟨b4, ?_⟩
          refine ⟨b4, ?_⟩
          refine ⟨b4, ?_⟩
          refine ⟨b4, ?_⟩
          refine ⟨trivial, ?_⟩
          obtain rfl := Option.some.inj h
          exact ⟨trivial, ⟨trivial, trivial⟩, rfl, rfl⟩
      · rw [if_neg (of_decide_eq_false b3)] at h
        refine ⟨b3, ?_⟩
        refine ⟨b3, ?_⟩
        refine ⟨b3, ?_⟩
        refine ⟨rfl, rfl, rfl, rfl, rfl, rfl, rfl, rfl, rfl, rfl, rfl, rfl, trivial, ?_⟩
        obtain rfl := Option.some.inj h
        exact ⟨trivial, ⟨trivial, trivial⟩, rfl, rfl⟩
    · rw [if_neg (of_decide_eq_false b2)] at h
      refine ⟨b2, ?_⟩
      refine ⟨b2, ?_⟩
      refine ⟨b2, ?_⟩
      refine ⟨rfl, rfl, rfl, rfl, rfl, rfl, rfl, rfl, rfl, rfl, rfl, rfl, rfl, rfl, rfl, rfl, trivial, ?_⟩
      obtain rfl := Option.some.inj h
      exact ⟨trivial, ⟨trivial, trivial⟩, rfl, rfl⟩
  · rw [if_neg (of_decide_eq_false b1)] at h
    refine ⟨b1, ?_⟩
    refine ⟨b1, ?_⟩
    refine ⟨b1, ?_⟩
    refine ⟨b1, ?_⟩
    refine ⟨b1, ?_⟩
    refine ⟨rfl, rfl, rfl, rfl, rfl, rfl, rfl, rfl, rfl, rfl, rfl, rfl, rfl, rfl, rfl, rfl, rfl, rfl, rfl, rfl, trivial, ?_⟩
    obtain rfl := Option.some.inj h
    exact ⟨trivial, ⟨trivial, trivial⟩, rfl, rfl⟩
/-! (halter/image.Seg).runs -/
def image_Seg_runs.f (a0 : Int) (a1 : Int) (a2 : Int) (a3 : (List Int)) (a4 : Int) : Option Bool :=
  if ¬ (bits .and .u8 a2 (4 : Int)) = (0 : Int) then
    if (IntKind.wrap .i64 ((IntKind.wrap .u32 (Int.tdiv a4 (256 : Int))))) ≥ a0 then
      some (decide ((IntKind.wrap .i64 ((IntKind.wrap .u32 (Int.tdiv a4 (256 : Int))))) < a1))
    else
      some false
  else
    some false
def image_Seg_runs.R (r : Bool) : Tm := .v (.one (.sc (.bool r)))
theorem image_Seg_runs.fun_ {a0 : Int} {a1 : Int} {a2 : Int} {a3 : (List Int)} {a4 : Int} {r : Bool} (h : image_Seg_runs.f a0 a1 a2 a3 a4 = some r) : Fun cfg 28 [.agg [.c (.sc (.int .i64 a0)), .c (.sc (.int .i64 a1)), .c (.sc (.int .u8 a2)), .c (.fs (.int .u8) a3 false)], .one (.sc (.int .u32 a4))] [] (image_Seg_runs.R r) [] := by
  unfold image_Seg_runs.f at h
  refine fun_of_run cfg_ok (f := 28) (fn := Tryd.f28) Tryd.func28 rfl (by kernel_rfl) (rs := [.tmp 4]) rfl (nt := 25) rfl (l := fin) (k := (.br (oT 4 (.br (oT 4 (.adj [] (.adj [.drop 0] .nil))) (oF 4 (.adj [] (.adj [.drop 0] .nil))))) (oF 9 (.adj [] (.adj [.drop 0] .nil))))) (to_goal (q := ((256 : Int) ≠ 0) ∧ (True) ∧ (True) ∧ (True) ∧ (True) ∧ ((((bits .and .u8 a2 (4 : Int)) != (0 : Int)) = true → (((bits .and .u8 a2 (4 : Int)) != (0 : Int)) = true ∧ (((bits .and .u8 a2 (4 : Int)) != (0 : Int)) = true ∧ (True) ∧ (((bits .and .u8 a2 (4 : Int)) != (0 : Int)) = true ∧ (True) ∧ (((bits .and .u8 a2 (4 : Int)) != (0 : Int)) = true ∧ (((decide ((IntKind.wrap .i64 ((IntKind.wrap .u32 (Int.tdiv a4 (256 : Int))))) ≥ a0)) = true → ((decide ((IntKind.wrap .i64 ((IntKind.wrap .u32 (Int.tdiv a4 (256 : Int))))) ≥ a0)) = true ∧ ((decide ((IntKind.wrap .i64 ((IntKind.wrap .u32 (Int.tdiv a4 (256 : Int))))) ≥ a0)) = true ∧ (True) ∧ ((decide ((IntKind.wrap .i64 ((IntKind.wrap .u32 (Int.tdiv a4 (256 : Int))))) ≥ a0)) = true ∧ (True) ∧ ((decide ((IntKind.wrap .i64 ((IntKind.wrap .u32 (Int.tdiv a4 (256 : Int))))) ≥ a0)) = true ∧ (True ∧ ((True) ∧ ((True) ∧ True) ∧ (.v (.one (.sc (.bool (decide ((IntKind.wrap .i64 ((IntKind.wrap .u32 (Int.tdiv a4 (256 : Int))))) < a1))))) : Tm) = image_Seg_runs.R r ∧ ([] : List Box) = []))))))) ∧ ((decide ((IntKind.wrap .i64 ((IntKind.wrap .u32 (Int.tdiv a4 (256 : Int))))) ≥ a0)) = false → ((decide ((IntKind.wrap .i64 ((IntKind.wrap .u32 (Int.tdiv a4 (256 : Int))))) ≥ a0)) = false ∧ ((decide ((IntKind.wrap .i64 ((IntKind.wrap .u32 (Int.tdiv a4 (256 : Int))))) ≥ a0)) = false ∧ ((decide ((IntKind.wrap .i64 ((IntKind.wrap .u32 (Int.tdiv a4 (256 : Int))))) ≥ a0)) = false ∧ ((decide ((IntKind.wrap .i64 ((IntKind.wrap .u32 (Int.tdiv a4 (256 : Int))))) ≥ a0)) = false ∧ (True ∧ ((True) ∧ ((True) ∧ True) ∧ (.v (.one (.sc (.bool false))) : Tm) = image_Seg_runs.R r ∧ ([] : List Box) = []))))))))))))) ∧ (((bits .and .u8 a2 (4 : Int)) != (0 : Int)) = false → (((bits .and .u8 a2 (4 : Int)) != (0 : Int)) = false ∧ (((bits .and .u8 a2 (4 : Int)) != (0 : Int)) = false ∧ (((bits .and .u8 a2 (4 : Int)) != (0 : Int)) = false ∧ (((bits .and .u8 a2 (4 : Int)) != (0 : Int)) = false ∧ (false = false ∧ (false = false ∧ (false = false ∧ (false = false ∧ (false = false ∧ (True ∧ ((True) ∧ ((True) ∧ True) ∧ (.v (.one (.sc (.bool false))) : Tm) = image_Seg_runs.R r ∧ ([] : List Box) = [])))))))))))))) (by kernel_rfl) ?_)
  refine ⟨(by decide), ?_⟩
  refine ⟨trivial, trivial, trivial, trivial, ?_⟩
  refine ⟨fun b1 => ?_, fun b1 => ?_⟩
  · rw [if_pos (bne_t b1)] at h
    refine ⟨b1, ?_⟩
    refine ⟨b1, ?_⟩
    refine ⟨trivial, ?_⟩
    refine ⟨b1, ?_⟩
    refine ⟨trivial, ?_⟩
    refine ⟨b1, ?_⟩
    refine ⟨fun b2 => ?_, fun b2 => ?_⟩
    · rw [if_pos (of_decide_eq_true b2)] at h
      refine ⟨b2, ?_⟩
      refine ⟨b2, ?_⟩
      refine ⟨trivial, ?_⟩
      refine ⟨b2, ?_⟩
      refine ⟨trivial, ?_⟩
      refine ⟨b2, ?_⟩
      refine ⟨trivial, ?_⟩
      obtain rfl := Option.some.inj h
      exact ⟨trivial, ⟨trivial, trivial⟩, rfl, rfl⟩
    · rw [if_neg (of_decide_eq_false b2)] at h
      refine ⟨b2, ?_⟩
      refine ⟨b2, ?_⟩
      refine ⟨b2, ?_⟩
      refine ⟨b2, ?_⟩
      refine ⟨trivial, ?_⟩
      obtain rfl := Option.some.inj h
      exact ⟨trivial, ⟨trivial, trivial⟩, rfl, rfl⟩
  · rw [if_neg (not_not_intro (bne_f b1))] at h
    refine ⟨b1, ?_⟩
    refine ⟨b1, ?_⟩
    refine ⟨b1, ?_⟩
    refine ⟨b1, ?_⟩
    refine ⟨rfl, rfl, rfl, rfl, rfl, trivial, ?_⟩
    obtain rfl := Option.some.inj h
    exact ⟨trivial, ⟨trivial, trivial⟩, rfl, rfl⟩
/-! halter/image.Check$1 -/
def image_Check_1.f (a0 : Int) (a1 : Int) (a2 : Int) (a3 : (List Int)) (a4 : Int) (a5 : (List (Int × (Int × (Int × (List Int)))))) : Option Bool :=
  (image_Seg_runs.f a0 a1 a2 a3 a4).bind fun t1 =>
  some t1
def image_Check_1.R (r : Bool) : Tm := .v (.one (.sc (.bool r)))
def image_Check_1.B (a0 : Int) (a1 : Int) (a2 : Int) (a3 : (List Int)) (a4 : Int) (a5 : (List (Int × (Int × (Int × (List Int)))))) (r : Bool) : List Box := [.ex false [.c (.sc (.int .u32 a4)), .c (.fs (.pair (.int .i64) (.pair (.int .i64) (.pair (.int .u8) (.sl (.int .u8))))) a5 false)] 36]
theorem image_Check_1.fun_ {a0 : Int} {a1 : Int} {a2 : Int} {a3 : (List Int)} {a4 : Int} {a5 : (List (Int × (Int × (Int × (List Int)))))} {r : Bool} (h : image_Check_1.f a0 a1 a2 a3 a4 a5 = some r) : Fun cfg 27 [.agg [.c (.sc (.int .i64 a0)), .c (.sc (.int .i64 a1)), .c (.sc (.int .u8 a2)), .c (.fs (.int .u8) a3 false)], .one (.ptr 0 ⟨0, 0, 0, 0⟩)] [.ex false [.c (.sc (.int .u32 a4)), .c (.fs (.pair (.int .i64) (.pair (.int .i64) (.pair (.int .u8) (.sl (.int .u8))))) a5 false)] 36] (image_Check_1.R r) (image_Check_1.B a0 a1 a2 a3 a4 a5 r) := by
  unfold image_Check_1.f at h
  refine fun_of_run cfg_ok (f := 27) (fn := Tryd.f27) Tryd.func27 rfl (by kernel_rfl) (rs := [.tmp 3]) rfl (nt := 8) rfl (l := fin) (k := (.call true [] (Bool) image_Seg_runs.R (fun t1 => (.adj [] (.adj [.drop 1] .nil))))) (to_goal (q := (True) ∧ (True) ∧ (∃ t1 : Bool, (Fun cfg 28 [.agg [.c (.sc (.int .i64 a0)), .c (.sc (.int .i64 a1)), .c (.sc (.int .u8 a2)), .c (.fs (.int .u8) a3 false)], .one (.sc (.int .u32 a4))] [] (image_Seg_runs.R t1) [] ∧ True) ∧ (True ∧ ((True) ∧ ((True) ∧ True) ∧ (.v (.one (.sc (.bool t1))) : Tm) = image_Check_1.R r ∧ ([.ex false [.c (.sc (.int .u32 a4)), .c (.fs (.pair (.int .i64) (.pair (.int .i64) (.pair (.int .u8) (.sl (.int .u8))))) a5 false)] 36] : List Box) = image_Check_1.B a0 a1 a2 a3 a4 a5 r)))) (by kernel_rfl) ?_)
  refine ⟨trivial, trivial, ?_⟩
  obtain ⟨t1, ht1, h⟩ := of_bind h
  refine ⟨t1, ⟨image_Seg_runs.fun_ ht1, trivial⟩, ?_⟩
  refine ⟨trivial, ?_⟩
  obtain rfl := Option.some.inj h
  exact ⟨trivial, ⟨trivial, trivial⟩, rfl, rfl⟩
/-! slices.IndexFunc[[]halter/image.Seg,halter/image.Seg] -/
def slices_IndexFunc_image_Seg_image_Seg.l0 (a0 : (List (Int × (Int × (Int × (List Int)))))) (a1 : Int) (a2 : (List (Int × (Int × (Int × (List Int)))))) : Nat → Int → Option ((Unit) ⊕ (Int))
  | 0, _ => none
  | n + 1, x1 =>
    if x1 < (((List.length a0) : Nat) : Int) then
      if 0 ≤ x1 ∧ x1 < (((List.length a0) : Nat) : Int) then
        (image_Check_1.f (List.getD a0 (Int.toNat x1) ((0 : Int), ((0 : Int), ((0 : Int), ([] : List Int))))).1 (List.getD a0 (Int.toNat x1) ((0 : Int), ((0 : Int), ((0 : Int), ([] : List Int))))).2.1 (List.getD a0 (Int.toNat x1) ((0 : Int), ((0 : Int), ((0 : Int), ([] : List Int))))).2.2.1 (List.getD a0 (Int.toNat x1) ((0 : Int), ((0 : Int), ((0 : Int), ([] : List Int))))).2.2.2 a1 a2).bind fun t9 =>
        if t9 = true then
          some (.inr x1)
        else
          slices_IndexFunc_image_Seg_image_Seg.l0 a0 a1 a2 n (IntKind.wrap .i64 (x1 + (1 : Int)))
      else none
    else
      some (.inl ())
def slices_IndexFunc_image_Seg_image_Seg.l0_S (a0 : (List (Int × (Int × (Int × (List Int)))))) (a1 : Int) (a2 : (List (Int × (Int × (Int × (List Int)))))) (x1 : Int) : St := ⟨[.v (.one (.fs (.pair (.int .i64) (.pair (.int .i64) (.pair (.int .u8) (.sl (.int .u8))))) a0 false)), .v (.clo 27 [(false, 1)] [.c (.ptr 0 ⟨0, 0, 0, 0⟩)]), .any, .any, .any, .any, .any, .v (.one (.sc (.int .i64 (((List.length a0) : Nat) : Int)))), .v (.one (.sc (.int .i64 x1))), .any, .any, .any, .any, .any, .any, .any, .any, .any, .any], [.ex false [.c (.sc (.int .u32 a1)), .c (.fs (.pair (.int .i64) (.pair (.int .i64) (.pair (.int .u8) (.sl (.int .u8))))) a2 false)] 36], 1⟩
def slices_IndexFunc_image_Seg_image_Seg.l0_Q (a0 : (List (Int × (Int × (Int × (List Int)))))) (a1 : Int) (a2 : (List (Int × (Int × (Int × (List Int)))))) : (Unit) ⊕ (Int) → Exit → St → Prop
  | .inl t => fun e s => e = (.exit 0) ∧ s = ⟨[.any, .any, .any, .any, .any, .any, .any, .any, .any, .any, .any, .any, .any, .any, .any, .any, .any, .any, .any], [.ex false [.c (.sc (.int .u32 a1)), .c (.fs (.pair (.int .i64) (.pair (.int .i64) (.pair (.int .u8) (.sl (.int .u8))))) a2 false)] 36], 1⟩
  | .inr t => fun e s => e = .ret ∧ s = ⟨[.any, .any, .any, .any, .v (.one (.sc (.int .i64 t))), .any, .any, .any, .any, .any, .any, .any, .any, .any, .any, .any, .any, .any, .any], [.ex false [.c (.sc (.int .u32 a1)), .c (.fs (.pair (.int .i64) (.pair (.int .i64) (.pair (.int .u8) (.sl (.int .u8))))) a2 false)] 36], 1⟩
theorem slices_IndexFunc_image_Seg_image_Seg.l0_ok (a0 : (List (Int × (Int × (Int × (List Int)))))) (a1 : Int) (a2 : (List (Int × (Int × (Int × (List Int)))))) : ∀ (n : Nat) (x1 : Int) (r : (Unit) ⊕ (Int)), slices_IndexFunc_image_Seg_image_Seg.l0 a0 a1 a2 n x1 = some r → TripN cfg (cpath (Tryd.f36.body.getD .skip) [1, 0, 1, 0, 0]) n (slices_IndexFunc_image_Seg_image_Seg.l0_S a0 a1 a2 x1) (slices_IndexFunc_image_Seg_image_Seg.l0_Q a0 a1 a2 r) := by
  intro n
  induction n with
  | zero => intro x1 r h; cases h
  | succ n ih =>
    intro x1 r h
    rw [slices_IndexFunc_image_Seg_image_Seg.l0] at h
    refine TripN.of_run cfg_ok (k := (.br (.callR true [] [0] (Bool) (fun t9 => (image_Check_1.R t9)) (fun t9 => (image_Check_1.B (List.getD a0 (Int.toNat x1) ((0 : Int), ((0 : Int), ((0 : Int), ([] : List Int))))).1 (List.getD a0 (Int.toNat x1) ((0 : Int), ((0 : Int), ((0 : Int), ([] : List Int))))).2.1 (List.getD a0 (Int.toNat x1) ((0 : Int), ((0 : Int), ((0 : Int), ([] : List Int))))).2.2.1 (List.getD a0 (Int.toNat x1) ((0 : Int), ((0 : Int), ((0 : Int), ([] : List Int))))).2.2.2 a1 a2 t9)) (fun t9 => (.br (.adj [] (.adj [.keep [4], .drop 1] .nil)) (aE 2 (.adj [.keep [0, 1, 7, 8], .drop 1] .nil))))) (.adj [.keep [], .drop 1] .nil))) (to_goal (q := (True) ∧ (((decide (x1 < (((List.length a0) : Nat) : Int))) = true → (0 ≤ x1 ∧ x1 < (((List.length a0) : Nat) : Int)) ∧ (True) ∧ (∃ t9 : Bool, (Fun cfg 27 [.agg [.c (.sc (.int .i64 (List.getD a0 (Int.toNat x1) ((0 : Int), ((0 : Int), ((0 : Int), ([] : List Int))))).1)), .c (.sc (.int .i64 (List.getD a0 (Int.toNat x1) ((0 : Int), ((0 : Int), ((0 : Int), ([] : List Int))))).2.1)), .c (.sc (.int .u8 (List.getD a0 (Int.toNat x1) ((0 : Int), ((0 : Int), ((0 : Int), ([] : List Int))))).2.2.1)), .c (.fs (.int .u8) (List.getD a0 (Int.toNat x1) ((0 : Int), ((0 : Int), ((0 : Int), ([] : List Int))))).2.2.2 false)], .one (.ptr 0 ⟨0, 0, 0, 0⟩)] [.ex false [.c (.sc (.int .u32 a1)), .c (.fs (.pair (.int .i64) (.pair (.int .i64) (.pair (.int .u8) (.sl (.int .u8))))) a2 false)] 36] (image_Check_1.R t9) (image_Check_1.B (List.getD a0 (Int.toNat x1) ((0 : Int), ((0 : Int), ((0 : Int), ([] : List Int))))).1 (List.getD a0 (Int.toNat x1) ((0 : Int), ((0 : Int), ((0 : Int), ([] : List Int))))).2.1 (List.getD a0 (Int.toNat x1) ((0 : Int), ((0 : Int), ((0 : Int), ([] : List Int))))).2.2.1 (List.getD a0 (Int.toNat x1) ((0 : Int), ((0 : Int), ((0 : Int), ([] : List Int))))).2.2.2 a1 a2 t9) ∧ True) ∧ ((t9 = true → (True ∧ (((True) ∧ (True) ∧ True) ∧ slices_IndexFunc_image_Seg_image_Seg.l0_Q a0 a1 a2 r .ret ⟨[.any, .any, .any, .any, .v (.one (.sc (.int .i64 x1))), .any, .any, .any, .any, .any, .any, .any, .any, .any, .any, .any, .any, .any, .any], [.ex false [.c (.sc (.int .u32 a1)), .c (.fs (.pair (.int .i64) (.pair (.int .i64) (.pair (.int .u8) (.sl (.int .u8))))) a2 false)] 36], 1⟩))) ∧ (t9 = false → (True ∧ (True ∧ (True) ∧ (((True) ∧ (True) ∧ True) ∧ TripN cfg (cpath (Tryd.f36.body.getD .skip) [1, 0, 1, 0, 0]) n (slices_IndexFunc_image_Seg_image_Seg.l0_S a0 a1 a2 (IntKind.wrap .i64 (x1 + (1 : Int)))) (slices_IndexFunc_image_Seg_image_Seg.l0_Q a0 a1 a2 r)))))))) ∧ ((decide (x1 < (((List.length a0) : Nat) : Int))) = false → (((True) ∧ (True) ∧ True) ∧ slices_IndexFunc_image_Seg_image_Seg.l0_Q a0 a1 a2 r (.exit 0) ⟨[.any, .any, .any, .any, .any, .any, .any, .any, .any, .any, .any, .any, .any, .any, .any, .any, .any, .any, .any], [.ex false [.c (.sc (.int .u32 a1)), .c (.fs (.pair (.int .i64) (.pair (.int .i64) (.pair (.int .u8) (.sl (.int .u8))))) a2 false)] 36], 1⟩)))) (by kernel_rfl) ?_)
    refine ⟨trivial, ?_⟩
    refine ⟨fun b8 => ?_, fun b8 => ?_⟩
    · rw [if_pos (of_decide_eq_true b8)] at h
      obtain ⟨g11, h⟩ := of_guard h
      refine ⟨g11, ?_⟩
      refine ⟨trivial, ?_⟩
      obtain ⟨t9, ht9, h⟩ := of_bind h
      refine ⟨t9, ⟨image_Check_1.fun_ ht9, trivial⟩, ?_⟩
      refine ⟨fun b10 => ?_, fun b10 => ?_⟩
      · rw [if_pos b10] at h
        refine ⟨trivial, ?_⟩
        obtain rfl := Option.some.inj h
        exact ⟨⟨trivial, trivial, trivial⟩, rfl, rfl⟩
      · rw [if_neg (ff b10)] at h
        refine ⟨trivial, trivial, trivial, ?_⟩
        exact ⟨⟨trivial, trivial, trivial⟩, ih (IntKind.wrap .i64 (x1 + (1 : Int))) r h⟩
    · rw [if_neg (of_decide_eq_false b8)] at h
      obtain rfl := Option.some.inj h
      exact ⟨⟨trivial, trivial, trivial⟩, rfl, rfl⟩
def slices_IndexFunc_image_Seg_image_Seg.f (a0 : (List (Int × (Int × (Int × (List Int)))))) (a1 : Int) (a2 : (List (Int × (Int × (Int × (List Int)))))) : Option Int :=
  (slices_IndexFunc_image_Seg_image_Seg.l0 a0 a1 a2 FUEL (0 : Int)).bind fun t7 =>
  match t7 with
  | .inl t13 =>
    some (-1 : Int)
  | .inr t14 =>
    some t14
def slices_IndexFunc_image_Seg_image_Seg.R (r : Int) : Tm := .v (.one (.sc (.int .i64 r)))
def slices_IndexFunc_image_Seg_image_Seg.B (a0 : (List (Int × (Int × (Int × (List Int)))))) (a1 : Int) (a2 : (List (Int × (Int × (Int × (List Int)))))) (r : Int) : List Box := [.ex false [.c (.sc (.int .u32 a1)), .c (.fs (.pair (.int .i64) (.pair (.int .i64) (.pair (.int .u8) (.sl (.int .u8))))) a2 false)] 36]
theorem slices_IndexFunc_image_Seg_image_Seg.fun_ {a0 : (List (Int × (Int × (Int × (List Int)))))} {a1 : Int} {a2 : (List (Int × (Int × (Int × (List Int)))))} {r : Int} (h : slices_IndexFunc_image_Seg_image_Seg.f a0 a1 a2 = some r) : Fun cfg 36 [.one (.fs (.pair (.int .i64) (.pair (.int .i64) (.pair (.int .u8) (.sl (.int .u8))))) a0 false), .clo 27 [(false, 1)] [.c (.ptr 0 ⟨0, 0, 0, 0⟩)]] [.ex false [.c (.sc (.int .u32 a1)), .c (.fs (.pair (.int .i64) (.pair (.int .i64) (.pair (.int .u8) (.sl (.int .u8))))) a2 false)] 36] (slices_IndexFunc_image_Seg_image_Seg.R r) (slices_IndexFunc_image_Seg_image_Seg.B a0 a1 a2 r) := by
  unfold slices_IndexFunc_image_Seg_image_Seg.f at h
  refine fun_of_run cfg_ok (f := 36) (fn := Tryd.f36) Tryd.func36 rfl (by kernel_rfl) (rs := [.tmp 4]) rfl (nt := 19) rfl (l := fin) (k := (aE 3 (.adj [.keep [0, 1, 7, 8]] (.alt (.sub (Unit) (fun _ => (.exit 0)) (fun t13 => ⟨[.any, .any, .any, .any, .any, .any, .any, .any, .any, .any, .any, .any, .any, .any, .any, .any, .any, .any, .any], [.ex false [.c (.sc (.int .u32 a1)), .c (.fs (.pair (.int .i64) (.pair (.int .i64) (.pair (.int .u8) (.sl (.int .u8))))) a2 false)] 36], 1⟩) (fun t13 => (aE 3 .nil))) (.sub (Int) (fun _ => .ret) (fun t14 => ⟨[.any, .any, .any, .any, .v (.one (.sc (.int .i64 t14))), .any, .any, .any, .any, .any, .any, .any, .any, .any, .any, .any, .any, .any, .any], [.ex false [.c (.sc (.int .u32 a1)), .c (.fs (.pair (.int .i64) (.pair (.int .i64) (.pair (.int .u8) (.sl (.int .u8))))) a2 false)] 36], 1⟩) (fun t14 => (.adj [] .nil))))))) (to_goal (q := (True ∧ (True ∧ (True) ∧ (True ∧ (((True) ∧ True) ∧ ((∃ t13 : Unit, Trip cfg (.loop (cpath (Tryd.f36.body.getD .skip) [1, 0, 1, 0, 0])) ⟨[.v (.one (.fs (.pair (.int .i64) (.pair (.int .i64) (.pair (.int .u8) (.sl (.int .u8))))) a0 false)), .v (.clo 27 [(false, 1)] [.c (.ptr 0 ⟨0, 0, 0, 0⟩)]), .any, .any, .any, .any, .any, .v (.one (.sc (.int .i64 (((List.length a0) : Nat) : Int)))), .v (.one (.sc (.int .i64 (0 : Int)))), .any, .any, .any, .any, .any, .any, .any, .any, .any, .any], [.ex false [.c (.sc (.int .u32 a1)), .c (.fs (.pair (.int .i64) (.pair (.int .i64) (.pair (.int .u8) (.sl (.int .u8))))) a2 false)] 36], 1⟩ (fun e s => e = (.exit 0) ∧ s = ⟨[.any, .any, .any, .any, .any, .any, .any, .any, .any, .any, .any, .any, .any, .any, .any, .any, .any, .any, .any], [.ex false [.c (.sc (.int .u32 a1)), .c (.fs (.pair (.int .i64) (.pair (.int .i64) (.pair (.int .u8) (.sl (.int .u8))))) a2 false)] 36], 1⟩) ∧ (True ∧ (True ∧ ((True) ∧ (True) ∧ (.v (.one (.sc (.int .i64 (-1 : Int)))) : Tm) = slices_IndexFunc_image_Seg_image_Seg.R r ∧ ([.ex false [.c (.sc (.int .u32 a1)), .c (.fs (.pair (.int .i64) (.pair (.int .i64) (.pair (.int .u8) (.sl (.int .u8))))) a2 false)] 36] : List Box) = slices_IndexFunc_image_Seg_image_Seg.B a0 a1 a2 r)))) ∨ (∃ t14 : Int, Trip cfg (.loop (cpath (Tryd.f36.body.getD .skip) [1, 0, 1, 0, 0])) ⟨[.v (.one (.fs (.pair (.int .i64) (.pair (.int .i64) (.pair (.int .u8) (.sl (.int .u8))))) a0 false)), .v (.clo 27 [(false, 1)] [.c (.ptr 0 ⟨0, 0, 0, 0⟩)]), .any, .any, .any, .any, .any, .v (.one (.sc (.int .i64 (((List.length a0) : Nat) : Int)))), .v (.one (.sc (.int .i64 (0 : Int)))), .any, .any, .any, .any, .any, .any, .any, .any, .any, .any], [.ex false [.c (.sc (.int .u32 a1)), .c (.fs (.pair (.int .i64) (.pair (.int .i64) (.pair (.int .u8) (.sl (.int .u8))))) a2 false)] 36], 1⟩ (fun e s => e = .ret ∧ s = ⟨[.any, .any, .any, .any, .v (.one (.sc (.int .i64 t14))), .any, .any, .any, .any, .any, .any, .any, .any, .any, .any, .any, .any, .any, .any], [.ex false [.c (.sc (.int .u32 a1)), .c (.fs (.pair (.int .i64) (.pair (.int .i64) (.pair (.int .u8) (.sl (.int .u8))))) a2 false)] 36], 1⟩) ∧ ((True) ∧ (True) ∧ (.v (.one (.sc (.int .i64 t14))) : Tm) = slices_IndexFunc_image_Seg_image_Seg.R r ∧ ([.ex false [.c (.sc (.int .u32 a1)), .c (.fs (.pair (.int .i64) (.pair (.int .i64) (.pair (.int .u8) (.sl (.int .u8))))) a2 false)] 36] : List Box) = slices_IndexFunc_image_Seg_image_Seg.B a0 a1 a2 r)))))))) (by kernel_rfl) ?_)
  refine ⟨trivial, trivial, trivial, trivial, ?_⟩
  obtain ⟨t7, ht7, h⟩ := of_bind h
  refine ⟨⟨trivial, trivial⟩, ?_⟩
  rcases t7 with t13 | t14
  · dsimp only at h
    left
    refine ⟨t13, Trip.loop FUEL (slices_IndexFunc_image_Seg_image_Seg.l0_ok a0 a1 a2 FUEL (0 : Int) (.inl t13) ht7), ?_⟩
    refine ⟨trivial, trivial, ?_⟩
    obtain rfl := Option.some.inj h
    exact ⟨trivial, trivial, rfl, rfl⟩
  · dsimp only at h
    right
    refine ⟨t14, Trip.loop FUEL (slices_IndexFunc_image_Seg_image_Seg.l0_ok a0 a1 a2 FUEL (0 : Int) (.inr t14) ht7), ?_⟩
    obtain rfl := Option.some.inj h
    exact ⟨trivial, trivial, rfl, rfl⟩
/-! slices.ContainsFunc[[]halter/image.Seg,halter/image.Seg] -/
def slices_ContainsFunc_image_Seg_image_Seg.f (a0 : (List (Int × (Int × (Int × (List Int)))))) (a1 : Int) (a2 : (List (Int × (Int × (Int × (List Int)))))) : Option Bool :=
  (slices_IndexFunc_image_Seg_image_Seg.f a0 a1 a2).bind fun t1 =>
  some (decide (t1 ≥ (0 : Int)))
def slices_ContainsFunc_image_Seg_image_Seg.R (r : Bool) : Tm := .v (.one (.sc (.bool r)))
def slices_ContainsFunc_image_Seg_image_Seg.B (a0 : (List (Int × (Int × (Int × (List Int)))))) (a1 : Int) (a2 : (List (Int × (Int × (Int × (List Int)))))) (r : Bool) : List Box := [.ex false [.c (.sc (.int .u32 a1)), .c (.fs (.pair (.int .i64) (.pair (.int .i64) (.pair (.int .u8) (.sl (.int .u8))))) a2 false)] 36]
theorem slices_ContainsFunc_image_Seg_image_Seg.fun_ {a0 : (List (Int × (Int × (Int × (List Int)))))} {a1 : Int} {a2 : (List (Int × (Int × (Int × (List Int)))))} {r : Bool} (h : slices_ContainsFunc_image_Seg_image_Seg.f a0 a1 a2 = some r) : Fun cfg 26 [.one (.fs (.pair (.int .i64) (.pair (.int .i64) (.pair (.int .u8) (.sl (.int .u8))))) a0 false), .clo 27 [(false, 1)] [.c (.ptr 0 ⟨0, 0, 0, 0⟩)]] [.ex false [.c (.sc (.int .u32 a1)), .c (.fs (.pair (.int .i64) (.pair (.int .i64) (.pair (.int .u8) (.sl (.int .u8))))) a2 false)] 36] (slices_ContainsFunc_image_Seg_image_Seg.R r) (slices_ContainsFunc_image_Seg_image_Seg.B a0 a1 a2 r) := by
  unfold slices_ContainsFunc_image_Seg_image_Seg.f at h
  refine fun_of_run cfg_ok (f := 26) (fn := Tryd.f26) Tryd.func26 rfl (by kernel_rfl) (rs := [.tmp 4]) rfl (nt := 9) rfl (l := fin) (k := (.callR true [] [0] (Int) (fun t1 => (slices_IndexFunc_image_Seg_image_Seg.R t1)) (fun t1 => (slices_IndexFunc_image_Seg_image_Seg.B a0 a1 a2 t1)) (fun t1 => (aE 2 .nil)))) (to_goal (q := (∃ t1 : Int, (Fun cfg 36 [.one (.fs (.pair (.int .i64) (.pair (.int .i64) (.pair (.int .u8) (.sl (.int .u8))))) a0 false), .clo 27 [(false, 1)] [.c (.ptr 0 ⟨0, 0, 0, 0⟩)]] [.ex false [.c (.sc (.int .u32 a1)), .c (.fs (.pair (.int .i64) (.pair (.int .i64) (.pair (.int .u8) (.sl (.int .u8))))) a2 false)] 36] (slices_IndexFunc_image_Seg_image_Seg.R t1) (slices_IndexFunc_image_Seg_image_Seg.B a0 a1 a2 t1) ∧ True) ∧ (True) ∧ (True ∧ ((True) ∧ (True) ∧ (.v (.one (.sc (.bool (decide (t1 ≥ (0 : Int)))))) : Tm) = slices_ContainsFunc_image_Seg_image_Seg.R r ∧ ([.ex false [.c (.sc (.int .u32 a1)), .c (.fs (.pair (.int .i64) (.pair (.int .i64) (.pair (.int .u8) (.sl (.int .u8))))) a2 false)] 36] : List Box) = slices_ContainsFunc_image_Seg_image_Seg.B a0 a1 a2 r)))) (by kernel_rfl) ?_)
  obtain ⟨t1, ht1, h⟩ := of_bind h
  refine ⟨t1, ⟨slices_IndexFunc_image_Seg_image_Seg.fun_ ht1, trivial⟩, ?_⟩
  refine ⟨trivial, trivial, ?_⟩
  obtain rfl := Option.some.inj h
  exact ⟨trivial, trivial, rfl, rfl⟩
/-! halter/image.Check -/
def image_Check.c0 (a1 : (List (Int × (Int × (Int × (List Int)))))) (x4 : Int) : AV := .agg [.c (.sc (.int .i64 (List.getD a1 (Int.toNat x4) ((0 : Int), ((0 : Int), ((0 : Int), ([] : List Int))))).1)), .c (.sc (.int .i64 (List.getD a1 (Int.toNat x4) ((0 : Int), ((0 : Int), ((0 : Int), ([] : List Int))))).2.1)), .c (.sc (.int .u8 (List.getD a1 (Int.toNat x4) ((0 : Int), ((0 : Int), ((0 : Int), ([] : List Int))))).2.2.1)), .c (.fs (.int .u8) (List.getD a1 (Int.toNat x4) ((0 : Int), ((0 : Int), ((0 : Int), ([] : List Int))))).2.2.2 false)]
def image_Check.c1 (a1 : (List (Int × (Int × (Int × (List Int)))))) (x4 : Int) : Bool := (decide ((List.getD a1 (Int.toNat (IntKind.wrap .i64 (x4 - (1 : Int)))) ((0 : Int), ((0 : Int), ((0 : Int), ([] : List Int))))).2.1 > (List.getD a1 (Int.toNat x4) ((0 : Int), ((0 : Int), ((0 : Int), ([] : List Int))))).1))
def image_Check.l0 (a0 : Int) (a1 : (List (Int × (Int × (Int × (List Int)))))) : Nat → Int → Option ((Unit) ⊕ (Unit))
  | 0, _ => none
  | n + 1, x4 =>
    if x4 < (((List.length a1) : Nat) : Int) then
      if 0 ≤ x4 ∧ x4 < (((List.length a1) : Nat) : Int) then
        (image_Seg_may.f (List.getD a1 (Int.toNat x4) ((0 : Int), ((0 : Int), ((0 : Int), ([] : List Int))))).1 (List.getD a1 (Int.toNat x4) ((0 : Int), ((0 : Int), ((0 : Int), ([] : List Int))))).2.1 (List.getD a1 (Int.toNat x4) ((0 : Int), ((0 : Int), ((0 : Int), ([] : List Int))))).2.2.1 (List.getD a1 (Int.toNat x4) ((0 : Int), ((0 : Int), ((0 : Int), ([] : List Int))))).2.2.2).bind fun t14 =>
        if ¬ (t14 = true) then
          some (.inr ())
        else
          if x4 > (0 : Int) then
            if 0 ≤ (IntKind.wrap .i64 (x4 - (1 : Int))) ∧ (IntKind.wrap .i64 (x4 - (1 : Int))) < (((List.length a1) : Nat) : Int) then
              if (List.getD a1 (Int.toNat (IntKind.wrap .i64 (x4 - (1 : Int)))) ((0 : Int), ((0 : Int), ((0 : Int), ([] : List Int))))).2.1 > (List.getD a1 (Int.toNat x4) ((0 : Int), ((0 : Int), ((0 : Int), ([] : List Int))))).1 then
                some (.inr ())
              else
                image_Check.l0 a0 a1 n (IntKind.wrap .i64 (x4 + (1 : Int)))
            else none
          else
            image_Check.l0 a0 a1 n (IntKind.wrap .i64 (x4 + (1 : Int)))
      else none
    else
      some (.inl ())
def image_Check.l0_S (a0 : Int) (a1 : (List (Int × (Int × (Int × (List Int)))))) (x4 : Int) : St := ⟨[.any, .v (.one (.ptr 0 ⟨0, 0, 0, 0⟩)), .any, .any, .any, .any, .any, .any, .any, .any, .any, .any, .any, .any, .any, .any, .any, .any, .any, .any, .any, .any, .any, .v (.one (.fs (.pair (.int .i64) (.pair (.int .i64) (.pair (.int .u8) (.sl (.int .u8))))) a1 false)), .v (.one (.sc (.int .i64 (((List.length a1) : Nat) : Int)))), .v (.one (.sc (.int .i64 x4))), .any, .any, .any, .any, .any, .any, .any, .any, .any, .any, .any, .any, .any, .any, .any, .any, .any, .any, .any, .any, .any, .any, .any, .any, .any, .any, .any, .any, .any, .any, .any], [.ex false [.c (.sc (.int .u32 a0)), .c (.fs (.pair (.int .i64) (.pair (.int .i64) (.pair (.int .u8) (.sl (.int .u8))))) a1 false)] 36], 0⟩
def image_Check.l0_Q (a0 : Int) (a1 : (List (Int × (Int × (Int × (List Int)))))) : (Unit) ⊕ (Unit) → Exit → St → Prop
  | .inl t => fun e s => e = (.exit 0) ∧ s = ⟨[.any, .v (.one (.ptr 0 ⟨0, 0, 0, 0⟩)), .any, .any, .any, .any, .any, .any, .any, .any, .any, .any, .any, .any, .any, .any, .any, .any, .any, .any, .any, .any, .any, .any, .any, .any, .any, .any, .any, .any, .any, .any, .any, .any, .any, .any, .any, .any, .any, .any, .any, .any, .any, .any, .any, .any, .any, .any, .any, .any, .any, .any, .any, .any, .any, .any, .any], [.ex false [.c (.sc (.int .u32 a0)), .c (.fs (.pair (.int .i64) (.pair (.int .i64) (.pair (.int .u8) (.sl (.int .u8))))) a1 false)] 36], 0⟩
  | .inr t => fun e s => e = .ret ∧ s = ⟨[.any, .any, .v (.one (.err (some (8 : Int)))), .any, .any, .any, .any, .any, .any, .any, .any, .any, .any, .any, .any, .any, .any, .any, .any, .any, .any, .any, .any, .any, .any, .any, .any, .any, .any, .any, .any, .any, .any, .any, .any, .any, .any, .any, .any, .any, .any, .any, .any, .any, .any, .any, .any, .any, .any, .any, .any, .any, .any, .any, .any, .any, .any], [.ex false [.c (.sc (.int .u32 a0)), .c (.fs (.pair (.int .i64) (.pair (.int .i64) (.pair (.int .u8) (.sl (.int .u8))))) a1 false)] 36], 0⟩
theorem image_Check.l0_ok (a0 : Int) (a1 : (List (Int × (Int × (Int × (List Int)))))) : ∀ (n : Nat) (x4 : Int) (r : (Unit) ⊕ (Unit)), image_Check.l0 a0 a1 n x4 = some r → TripN cfg (cpath (Tryd.f14.body.getD .skip) [1, 1, 0, 1, 0, 0]) n (image_Check.l0_S a0 a1 x4) (image_Check.l0_Q a0 a1 r) := by
  intro n
  induction n with
  | zero => intro x4 r h; cases h
  | succ n ih =>
    intro x4 r h
    rw [image_Check.l0] at h
    refine TripN.of_run cfg_ok (k := (.br (.ex (Bool) (fun t14 => (.emb (!t14) (.dr [(0, dN), (1, ⟨none, .callP true [] (image_Seg_may.R t14), false⟩), (2, dN), (3, dN), (4, dT), (5, dT), (6, dT), (7, dT), (9, dT), (10, dT), (14, dT), (8, dT), (11, dT), (12, dT), (13, dT), (15, dT), (16, dT), (17, dT), (18, d1)] (.one true (.adj [] (.adj [.keep [2], .drop 1] .nil)))) (.emb (decide (x4 > (0 : Int))) (.dr [(0, dN), (1, ⟨none, .callP true [] (image_Seg_may.R t14), false⟩), (2, dN), (3, dN), (4, dF), (5, dF), (6, dF), (7, dT), (9, dT), (10, dT), (14, dT), (8, dT), (11, dT), (12, dT), (13, dT), (15, dT), (16, dT), (17, ⟨(some false), .b true, false⟩), (18, d0)] (.br (.adj [] (.adj [.keep [2], .drop 1] .nil)) (aE 2 (.adj [.keep [1, 23, 24, 25], .drop 1] .nil)))) (.dr [(0, dN), (1, ⟨none, .callP true [] (image_Seg_may.R t14), false⟩), (2, dN), (3, dN), (4, dF), (5, dF), (6, dF), (7, dF), (9, dF), (10, dF), (14, dF), (8, dF), (11, dF), (12, dF), (13, dF), (15, dF), (16, dF), (17, ⟨(some false), .b false, false⟩), (18, d0)] (.one false (aE 2 (.adj [.keep [1, 23, 24, 25], .drop 1] .nil)))))))) (.adj [.keep [1], .drop 1] .nil))) (to_goal (q := (True) ∧ (((decide (x4 < (((List.length a1) : Nat) : Int))) = true → (0 ≤ x4 ∧ x4 < (((List.length a1) : Nat) : Int)) ∧ (True) ∧ (True) ∧ (∃ t14 : Bool, (((!t14) = true → (True) ∧ (Fun cfg 25 [(image_Check.c0 a1 x4)] [] (image_Seg_may.R t14) [] ∧ True) ∧ ((!t14) = true) ∧ ((!t14) = true) ∧ ((!t14) = true) ∧ (True) ∧ (True) ∧ (True) ∧ (True) ∧ (True) ∧ (True) ∧ (True) ∧ (True) ∧ (True) ∧ (True) ∧ ((!t14) = true) ∧ ((!t14) = true) ∧ (true = true ∧ (True ∧ (((True) ∧ (True) ∧ True) ∧ image_Check.l0_Q a0 a1 r .ret ⟨[.any, .any, .v (.one (.err (some (8 : Int)))), .any, .any, .any, .any, .any, .any, .any, .any, .any, .any, .any, .any, .any, .any, .any, .any, .any, .any, .any, .any, .any, .any, .any, .any, .any, .any, .any, .any, .any, .any, .any, .any, .any, .any, .any, .any, .any, .any, .any, .any, .any, .any, .any, .any, .any, .any, .any, .any, .any, .any, .any, .any, .any, .any], [.ex false [.c (.sc (.int .u32 a0)), .c (.fs (.pair (.int .i64) (.pair (.int .i64) (.pair (.int .u8) (.sl (.int .u8))))) a1 false)] 36], 0⟩)))) ∧ ((!t14) = false → (((decide (x4 > (0 : Int))) = true → (True) ∧ (Fun cfg 25 [(image_Check.c0 a1 x4)] [] (image_Seg_may.R t14) [] ∧ True) ∧ ((!t14) = false ∧ True) ∧ ((!t14) = false ∧ True) ∧ ((!t14) = false ∧ True) ∧ ((decide (x4 > (0 : Int))) = true ∧ True) ∧ ((decide (x4 > (0 : Int))) = true ∧ True) ∧ ((decide (x4 > (0 : Int))) = true ∧ True) ∧ ((decide (x4 > (0 : Int))) = true ∧ True) ∧ ((decide (x4 > (0 : Int))) = true ∧ True) ∧ ((decide (x4 > (0 : Int))) = true ∧ 0 ≤ (IntKind.wrap .i64 (x4 - (1 : Int))) ∧ (IntKind.wrap .i64 (x4 - (1 : Int))) < (((List.length a1) : Nat) : Int)) ∧ ((decide (x4 > (0 : Int))) = true ∧ True) ∧ ((decide (x4 > (0 : Int))) = true ∧ True) ∧ ((decide (x4 > (0 : Int))) = true ∧ True) ∧ ((decide (x4 > (0 : Int))) = true ∧ True) ∧ ((!t14) = false ∧ (decide (x4 > (0 : Int))) = true) ∧ ((!t14) = false) ∧ (((image_Check.c1 a1 x4) = true → (True ∧ (((True) ∧ (True) ∧ True) ∧ image_Check.l0_Q a0 a1 r .ret ⟨[.any, .any, .v (.one (.err (some (8 : Int)))), .any, .any, .any, .any, .any, .any, .any, .any, .any, .any, .any, .any, .any, .any, .any, .any, .any, .any, .any, .any, .any, .any, .any, .any, .any, .any, .any, .any, .any, .any, .any, .any, .any, .any, .any, .any, .any, .any, .any, .any, .any, .any, .any, .any, .any, .any, .any, .any, .any, .any, .any, .any, .any, .any], [.ex false [.c (.sc (.int .u32 a0)), .c (.fs (.pair (.int .i64) (.pair (.int .i64) (.pair (.int .u8) (.sl (.int .u8))))) a1 false)] 36], 0⟩))) ∧ ((image_Check.c1 a1 x4) = false → (True ∧ (True ∧ (True) ∧ (((True) ∧ (True) ∧ True) ∧ TripN cfg (cpath (Tryd.f14.body.getD .skip) [1, 1, 0, 1, 0, 0]) n (image_Check.l0_S a0 a1 (IntKind.wrap .i64 (x4 + (1 : Int)))) (image_Check.l0_Q a0 a1 r))))))) ∧ ((decide (x4 > (0 : Int))) = false → (True) ∧ (Fun cfg 25 [(image_Check.c0 a1 x4)] [] (image_Seg_may.R t14) [] ∧ True) ∧ ((!t14) = false ∧ True) ∧ ((!t14) = false ∧ True) ∧ ((!t14) = false ∧ True) ∧ ((decide (x4 > (0 : Int))) = false) ∧ ((decide (x4 > (0 : Int))) = false) ∧ ((decide (x4 > (0 : Int))) = false) ∧ ((decide (x4 > (0 : Int))) = false) ∧ ((decide (x4 > (0 : Int))) = false) ∧ ((decide (x4 > (0 : Int))) = false) ∧ ((decide (x4 > (0 : Int))) = false) ∧ ((decide (x4 > (0 : Int))) = false) ∧ ((decide (x4 > (0 : Int))) = false) ∧ ((decide (x4 > (0 : Int))) = false) ∧ ((!t14) = false ∧ (decide (x4 > (0 : Int))) = false) ∧ ((!t14) = false) ∧ (false = false ∧ (True ∧ (True ∧ (True) ∧ (((True) ∧ (True) ∧ True) ∧ TripN cfg (cpath (Tryd.f14.body.getD .skip) [1, 1, 0, 1, 0, 0]) n (image_Check.l0_S a0 a1 (IntKind.wrap .i64 (x4 + (1 : Int)))) (image_Check.l0_Q a0 a1 r))))))))))) ∧ ((decide (x4 < (((List.length a1) : Nat) : Int))) = false → (((True) ∧ (True) ∧ True) ∧ image_Check.l0_Q a0 a1 r (.exit 0) ⟨[.any, .v (.one (.ptr 0 ⟨0, 0, 0, 0⟩)), .any, .any, .any, .any, .any, .any, .any, .any, .any, .any, .any, .any, .any, .any, .any, .any, .any, .any, .any, .any, .any, .any, .any, .any, .any, .any, .any, .any, .any, .any, .any, .any, .any, .any, .any, .any, .any, .any, .any, .any, .any, .any, .any, .any, .any, .any, .any, .any, .any, .any, .any, .any, .any, .any, .any], [.ex false [.c (.sc (.int .u32 a0)), .c (.fs (.pair (.int .i64) (.pair (.int .i64) (.pair (.int .u8) (.sl (.int .u8))))) a1 false)] 36], 0⟩)))) (by kernel_rfl) ?_)
    refine ⟨trivial, ?_⟩
    refine ⟨fun b13 => ?_, fun b13 => ?_⟩
    · rw [if_pos (of_decide_eq_true b13)] at h
      obtain ⟨g19, h⟩ := of_guard h
      refine ⟨g19, ?_⟩
      refine ⟨trivial, trivial, ?_⟩
      obtain ⟨t14, ht14, h⟩ := of_bind h
      refine ⟨t14, ?_⟩
      refine ⟨fun b15 => ?_, fun b15 => ?_⟩
      · rw [if_pos (ff (not_t b15))] at h
        refine ⟨trivial, ⟨image_Seg_may.fun_ ht14, trivial⟩, b15, b15, b15, trivial, trivial, trivial, trivial, trivial, trivial, trivial, trivial, trivial, trivial, b15, b15, ?_⟩
        refine ⟨rfl, trivial, ?_⟩
        obtain rfl := Option.some.inj h
        exact ⟨⟨trivial, trivial, trivial⟩, rfl, rfl⟩
      · rw [if_neg (not_not_intro (not_f b15))] at h
        refine ⟨fun b16 => ?_, fun b16 => ?_⟩
        · rw [if_pos (of_decide_eq_true b16)] at h
          obtain ⟨g17, h⟩ := of_guard h
          refine ⟨trivial, ⟨image_Seg_may.fun_ ht14, trivial⟩, ⟨b15, trivial⟩, ⟨b15, trivial⟩, ⟨b15, trivial⟩, ⟨b16, trivial⟩, ⟨b16, trivial⟩, ⟨b16, trivial⟩, ⟨b16, trivial⟩, ⟨b16, trivial⟩, ⟨b16, g17⟩, ⟨b16, trivial⟩, ⟨b16, trivial⟩, ⟨b16, trivial⟩, ⟨b16, trivial⟩, ⟨b15, b16⟩, b15, ?_⟩
          refine ⟨fun b18 => ?_, fun b18 => ?_⟩
          · rw [if_pos (of_decide_eq_true b18)] at h
            refine ⟨trivial, ?_⟩
            obtain rfl := Option.some.inj h
            exact ⟨⟨trivial, trivial, trivial⟩, rfl, rfl⟩
          · rw [if_neg (of_decide_eq_false b18)] at h
            refine ⟨trivial, trivial, trivial, ?_⟩
            exact ⟨⟨trivial, trivial, trivial⟩, ih (IntKind.wrap .i64 (x4 + (1 : Int))) r h⟩
        · rw [if_neg (of_decide_eq_false b16)] at h
          refine ⟨trivial, ⟨image_Seg_may.fun_ ht14, trivial⟩, ⟨b15, trivial⟩, ⟨b15, trivial⟩, ⟨b15, trivial⟩, b16, b16, b16, b16, b16, b16, b16, b16, b16, b16, ⟨b15, b16⟩, b15, ?_⟩
          refine ⟨rfl, trivial, trivial, trivial, ?_⟩
          exact ⟨⟨trivial, trivial, trivial⟩, ih (IntKind.wrap .i64 (x4 + (1 : Int))) r h⟩
    · rw [if_neg (of_decide_eq_false b13)] at h
      obtain rfl := Option.some.inj h
      exact ⟨⟨trivial, trivial, trivial⟩, rfl, rfl⟩
def image_Check.f (a0 : Int) (a1 : (List (Int × (Int × (Int × (List Int)))))) : Option (Option Int) :=
  if (((List.length a1) : Nat) : Int) < (1 : Int) then
    some (some (8 : Int))
  else
    if (((List.length a1) : Nat) : Int) > (8 : Int) then
      some (some (8 : Int))
    else
      if ¬ (Int.tmod a0 (4 : Int)) = (0 : Int) then
        some (some (8 : Int))
      else
        (image_Check.l0 a0 a1 FUEL (0 : Int)).bind fun t12 =>
        match t12 with
        | .inl t20 =>
          (slices_ContainsFunc_image_Seg_image_Seg.f a1 a0 a1).bind fun t21 =>
          if ¬ (t21 = true) then
            some (some (8 : Int))
          else
            some none
        | .inr t23 =>
          some (some (8 : Int))
def image_Check.R (r : (Option Int)) : Tm := .v (.one (.err r))
theorem image_Check.fun_ {a0 : Int} {a1 : (List (Int × (Int × (Int × (List Int)))))} {r : (Option Int)} (h : image_Check.f a0 a1 = some r) : Fun cfg 14 [.agg [.c (.sc (.int .u32 a0)), .c (.fs (.pair (.int .i64) (.pair (.int .i64) (.pair (.int .u8) (.sl (.int .u8))))) a1 false)]] [] (image_Check.R r) [] := by
  unfold image_Check.f at h
  refine fun_of_run cfg_ok (f := 14) (fn := Tryd.f14) Tryd.func14 rfl (by kernel_rfl) (rs := [.tmp 2]) rfl (nt := 57) rfl (l := fin) (k := (.br (oT 10 (aE 2 (.adj [.drop 0] .nil))) (oF 4 (.br (oT 5 (aE 2 (.adj [.drop 0] .nil))) (oF 4 (.br (aE 2 (.adj [.drop 0] .nil)) (aE 3 (.adj [.keep [1, 23, 24, 25]] (.alt (.sub (Unit) (fun _ => (.exit 0)) (fun t20 => ⟨[.any, .v (.one (.ptr 0 ⟨0, 0, 0, 0⟩)), .any, .any, .any, .any, .any, .any, .any, .any, .any, .any, .any, .any, .any, .any, .any, .any, .any, .any, .any, .any, .any, .any, .any, .any, .any, .any, .any, .any, .any, .any, .any, .any, .any, .any, .any, .any, .any, .any, .any, .any, .any, .any, .any, .any, .any, .any, .any, .any, .any, .any, .any, .any, .any, .any, .any], [.ex false [.c (.sc (.int .u32 a0)), .c (.fs (.pair (.int .i64) (.pair (.int .i64) (.pair (.int .u8) (.sl (.int .u8))))) a1 false)] 36], 0⟩) (fun t20 => (.callR true [] [0] (Bool) (fun t21 => (slices_ContainsFunc_image_Seg_image_Seg.R t21)) (fun t21 => (slices_ContainsFunc_image_Seg_image_Seg.B a1 a0 a1 t21)) (fun t21 => (.br (aE 2 (.adj [.drop 0] .nil)) (aE 3 (.adj [.drop 0] .nil))))))) (.sub (Unit) (fun _ => .ret) (fun t23 => ⟨[.any, .any, .v (.one (.err (some (8 : Int)))), .any, .any, .any, .any, .any, .any, .any, .any, .any, .any, .any, .any, .any, .any, .any, .any, .any, .any, .any, .any, .any, .any, .any, .any, .any, .any, .any, .any, .any, .any, .any, .any, .any, .any, .any, .any, .any, .any, .any, .any, .any, .any, .any, .any, .any, .any, .any, .any, .any, .any, .any, .any, .any, .any], [.ex false [.c (.sc (.int .u32 a0)), .c (.fs (.pair (.int .i64) (.pair (.int .i64) (.pair (.int .u8) (.sl (.int .u8))))) a1 false)] 36], 0⟩) (fun t23 => (.adj [.drop 0] .nil)))))))))))) (to_goal (q := (True) ∧ (True) ∧ (True) ∧ (((decide ((((List.length a1) : Nat) : Int) < (1 : Int))) = false → ((decide ((((List.length a1) : Nat) : Int) < (1 : Int))) = false ∧ (True) ∧ ((decide ((((List.length a1) : Nat) : Int) < (1 : Int))) = false ∧ (True) ∧ ((decide ((((List.length a1) : Nat) : Int) < (1 : Int))) = false ∧ (True) ∧ ((decide ((((List.length a1) : Nat) : Int) < (1 : Int))) = false ∧ (((decide ((((List.length a1) : Nat) : Int) > (8 : Int))) = false → ((decide ((((List.length a1) : Nat) : Int) > (8 : Int))) = false ∧ (True) ∧ ((decide ((((List.length a1) : Nat) : Int) > (8 : Int))) = false ∧ ((4 : Int) ≠ 0) ∧ ((decide ((((List.length a1) : Nat) : Int) > (8 : Int))) = false ∧ (True) ∧ ((decide ((((List.length a1) : Nat) : Int) > (8 : Int))) = false ∧ ((((Int.tmod a0 (4 : Int)) != (0 : Int)) = true → (True ∧ (True ∧ ((True) ∧ ((True) ∧ True) ∧ (.v (.one (.err (some (8 : Int)))) : Tm) = image_Check.R r ∧ ([] : List Box) = [])))) ∧ (((Int.tmod a0 (4 : Int)) != (0 : Int)) = false → (True ∧ (True ∧ (True) ∧ (True) ∧ (True ∧ (((True) ∧ True) ∧ ((∃ t20 : Unit, Trip cfg (.loop (cpath (Tryd.f14.body.getD .skip) [1, 1, 0, 1, 0, 0])) ⟨[.any, .v (.one (.ptr 0 ⟨0, 0, 0, 0⟩)), .any, .any, .any, .any, .any, .any, .any, .any, .any, .any, .any, .any, .any, .any, .any, .any, .any, .any, .any, .any, .any, .v (.one (.fs (.pair (.int .i64) (.pair (.int .i64) (.pair (.int .u8) (.sl (.int .u8))))) a1 false)), .v (.one (.sc (.int .i64 (((List.length a1) : Nat) : Int)))), .v (.one (.sc (.int .i64 (0 : Int)))), .any, .any, .any, .any, .any, .any, .any, .any, .any, .any, .any, .any, .any, .any, .any, .any, .any, .any, .any, .any, .any, .any, .any, .any, .any, .any, .any, .any, .any, .any, .any], [.ex false [.c (.sc (.int .u32 a0)), .c (.fs (.pair (.int .i64) (.pair (.int .i64) (.pair (.int .u8) (.sl (.int .u8))))) a1 false)] 36], 0⟩ (fun e s => e = (.exit 0) ∧ s = ⟨[.any, .v (.one (.ptr 0 ⟨0, 0, 0, 0⟩)), .any, .any, .any, .any, .any, .any, .any, .any, .any, .any, .any, .any, .any, .any, .any, .any, .any, .any, .any, .any, .any, .any, .any, .any, .any, .any, .any, .any, .any, .any, .any, .any, .any, .any, .any, .any, .any, .any, .any, .any, .any, .any, .any, .any, .any, .any, .any, .any, .any, .any, .any, .any, .any, .any, .any], [.ex false [.c (.sc (.int .u32 a0)), .c (.fs (.pair (.int .i64) (.pair (.int .i64) (.pair (.int .u8) (.sl (.int .u8))))) a1 false)] 36], 0⟩) ∧ (True) ∧ (True) ∧ (∃ t21 : Bool, (Fun cfg 26 [.one (.fs (.pair (.int .i64) (.pair (.int .i64) (.pair (.int .u8) (.sl (.int .u8))))) a1 false), .clo 27 [(false, 1)] [.c (.ptr 0 ⟨0, 0, 0, 0⟩)]] [.ex false [.c (.sc (.int .u32 a0)), .c (.fs (.pair (.int .i64) (.pair (.int .i64) (.pair (.int .u8) (.sl (.int .u8))))) a1 false)] 36] (slices_ContainsFunc_image_Seg_image_Seg.R t21) (slices_ContainsFunc_image_Seg_image_Seg.B a1 a0 a1 t21) ∧ True) ∧ (((!t21) = true → (True ∧ (True ∧ ((True) ∧ ((True) ∧ True) ∧ (.v (.one (.err (some (8 : Int)))) : Tm) = image_Check.R r ∧ ([] : List Box) = [])))) ∧ ((!t21) = false → (True ∧ (True ∧ (True ∧ ((True) ∧ ((True) ∧ True) ∧ (.v (.one (.err none)) : Tm) = image_Check.R r ∧ ([] : List Box) = [])))))))) ∨ (∃ t23 : Unit, Trip cfg (.loop (cpath (Tryd.f14.body.getD .skip) [1, 1, 0, 1, 0, 0])) ⟨[.any, .v (.one (.ptr 0 ⟨0, 0, 0, 0⟩)), .any, .any, .any, .any, .any, .any, .any, .any, .any, .any, .any, .any, .any, .any, .any, .any, .any, .any, .any, .any, .any, .v (.one (.fs (.pair (.int .i64) (.pair (.int .i64) (.pair (.int .u8) (.sl (.int .u8))))) a1 false)), .v (.one (.sc (.int .i64 (((List.length a1) : Nat) : Int)))), .v (.one (.sc (.int .i64 (0 : Int)))), .any, .any, .any, .any, .any, .any, .any, .any, .any, .any, .any, .any, .any, .any, .any, .any, .any, .any, .any, .any, .any, .any, .any, .any, .any, .any, .any, .any, .any, .any, .any], [.ex false [.c (.sc (.int .u32 a0)), .c (.fs (.pair (.int .i64) (.pair (.int .i64) (.pair (.int .u8) (.sl (.int .u8))))) a1 false)] 36], 0⟩ (fun e s => e = .ret ∧ s = ⟨[.any, .any, .v (.one (.err (some (8 : Int)))), .any, .any, .any, .any, .any, .any, .any, .any, .any, .any, .any, .any, .any, .any, .any, .any, .any, .any, .any, .any, .any, .any, .any, .any, .any, .any, .any, .any, .any, .any, .any, .any, .any, .any, .any, .any, .any, .any, .any, .any, .any, .any, .any, .any, .any, .any, .any, .any, .any, .any, .any, .any, .any, .any], [.ex false [.c (.sc (.int .u32 a0)), .c (.fs (.pair (.int .i64) (.pair (.int .i64) (.pair (.int .u8) (.sl (.int .u8))))) a1 false)] 36], 0⟩) ∧ ((True) ∧ ((True) ∧ True) ∧ (.v (.one (.err (some (8 : Int)))) : Tm) = image_Check.R r ∧ ([] : List Box) = [])))))))))))))) ∧ ((decide ((((List.length a1) : Nat) : Int) > (8 : Int))) = true → ((decide ((((List.length a1) : Nat) : Int) > (8 : Int))) = true ∧ ((decide ((((List.length a1) : Nat) : Int) > (8 : Int))) = true ∧ ((decide ((((List.length a1) : Nat) : Int) > (8 : Int))) = true ∧ ((decide ((((List.length a1) : Nat) : Int) > (8 : Int))) = true ∧ (true = true ∧ (True ∧ (True ∧ ((True) ∧ ((True) ∧ True) ∧ (.v (.one (.err (some (8 : Int)))) : Tm) = image_Check.R r ∧ ([] : List Box) = []))))))))))))))) ∧ ((decide ((((List.length a1) : Nat) : Int) < (1 : Int))) = true → ((decide ((((List.length a1) : Nat) : Int) < (1 : Int))) = true ∧ ((decide ((((List.length a1) : Nat) : Int) < (1 : Int))) = true ∧ ((decide ((((List.length a1) : Nat) : Int) < (1 : Int))) = true ∧ ((decide ((((List.length a1) : Nat) : Int) < (1 : Int))) = true ∧ (true = true ∧ (true = true ∧ (true = true ∧ (true = true ∧ (true = true ∧ (true = true ∧ (True ∧ (True ∧ ((True) ∧ ((True) ∧ True) ∧ (.v (.one (.err (some (8 : Int)))) : Tm) = image_Check.R r ∧ ([] : List Box) = [])))))))))))))))) (by kernel_rfl) ?_)
  refine ⟨trivial, trivial, trivial, ?_⟩
  refine ⟨fun b1 => ?_, fun b1 => ?_⟩
  · rw [if_neg (of_decide_eq_false b1)] at h
    refine ⟨b1, ?_⟩
    refine ⟨trivial, ?_⟩
    refine ⟨b1, ?_⟩
    refine ⟨trivial, ?_⟩
    refine ⟨b1, ?_⟩
    refine ⟨trivial, ?_⟩
    refine ⟨b1, ?_⟩
    refine ⟨fun b2 => ?_, fun b2 => ?_⟩
    · rw [if_neg (of_decide_eq_false b2)] at h
      refine ⟨b2, ?_⟩
      refine ⟨trivial, ?_⟩
      refine ⟨b2, ?_⟩
      refine ⟨(by decide), ?_⟩
      refine ⟨b2, ?_⟩
      refine ⟨trivial, ?_⟩
      refine ⟨b2, ?_⟩
      refine ⟨fun b3 => ?_, fun b3 => ?_⟩
      · rw [if_pos (bne_t b3)] at h
        refine ⟨trivial, trivial, ?_⟩
        obtain rfl := Option.some.inj h
        exact ⟨trivial, ⟨trivial, trivial⟩, rfl, rfl⟩
      · rw [if_neg (not_not_intro (bne_f b3))] at h
        refine ⟨trivial, trivial, trivial, trivial, trivial, ?_⟩
        obtain ⟨t12, ht12, h⟩ := of_bind h
        refine ⟨⟨trivial, trivial⟩, ?_⟩
        rcases t12 with t20 | t23
        · dsimp only at h
          left
          refine ⟨t20, Trip.loop FUEL (image_Check.l0_ok a0 a1 FUEL (0 : Int) (.inl t20) ht12), ?_⟩
          refine ⟨trivial, trivial, ?_⟩
          obtain ⟨t21, ht21, h⟩ := of_bind h
          refine ⟨t21, ⟨slices_ContainsFunc_image_Seg_image_Seg.fun_ ht21, trivial⟩, ?_⟩
          refine ⟨fun b22 => ?_, fun b22 => ?_⟩
          · rw [if_pos (ff (not_t b22))] at h
            refine ⟨trivial, trivial, ?_⟩
            obtain rfl := Option.some.inj h
            exact ⟨trivial, ⟨trivial, trivial⟩, rfl, rfl⟩
          · rw [if_neg (not_not_intro (not_f b22))] at h
            refine ⟨trivial, trivial, trivial, ?_⟩
            obtain rfl := Option.some.inj h
            exact ⟨trivial, ⟨trivial, trivial⟩, rfl, rfl⟩
        · dsimp only at h
          right
          refine ⟨t23, Trip.loop FUEL (image_Check.l0_ok a0 a1 FUEL (0 : Int) (.inr t23) ht12), ?_⟩
          obtain rfl := Option.some.inj h
          exact ⟨trivial, ⟨trivial, trivial⟩, rfl, rfl⟩
    · rw [if_pos (of_decide_eq_true b2)] at h
      refine ⟨b2, ?_⟩
      refine ⟨b2, ?_⟩
      refine ⟨b2, ?_⟩
      refine ⟨b2, ?_⟩
      refine ⟨rfl, trivial, trivial, ?_⟩
      obtain rfl := Option.some.inj h
      exact ⟨trivial, ⟨trivial, trivial⟩, rfl, rfl⟩
  · rw [if_pos (of_decide_eq_true b1)] at h
    refine ⟨b1, ?_⟩
    refine ⟨b1, ?_⟩
    refine ⟨b1, ?_⟩
    refine ⟨b1, ?_⟩
    refine ⟨rfl, rfl, rfl, rfl, rfl, rfl, trivial, trivial, ?_⟩
    obtain rfl := Option.some.inj h
    exact ⟨trivial, ⟨trivial, trivial⟩, rfl, rfl⟩
/-! halter/word.sized -/
def word_sized.f (a0 : Int) : Option Bool :=
  if a0 = (1 : Int) then
    some true
  else
    if a0 = (2 : Int) then
      some true
    else
      some (a0 == (4 : Int))
def word_sized.R (r : Bool) : Tm := .v (.one (.sc (.bool r)))
theorem word_sized.fun_ {a0 : Int} {r : Bool} (h : word_sized.f a0 = some r) : Fun cfg 29 [.one (.sc (.int .i64 a0))] [] (word_sized.R r) [] := by
  unfold word_sized.f at h
  refine fun_of_run cfg_ok (f := 29) (fn := Tryd.f29) Tryd.func29 rfl (by kernel_rfl) (rs := [.tmp 2]) rfl (nt := 13) rfl (l := fin) (k := (.br (oT 5 (aE 2 .nil)) (oF 2 (.br (oT 2 (aE 2 .nil)) (oF 2 (aE 2 .nil)))))) (to_goal (q := (True) ∧ (((a0 == (1 : Int)) = false → ((a0 == (1 : Int)) = false ∧ (True) ∧ ((a0 == (1 : Int)) = false ∧ (((a0 == (2 : Int)) = false → ((a0 == (2 : Int)) = false ∧ (True) ∧ ((a0 == (2 : Int)) = false ∧ (True ∧ ((True) ∧ (True) ∧ (.v (.one (.sc (.bool (a0 == (4 : Int))))) : Tm) = word_sized.R r ∧ ([] : List Box) = []))))) ∧ ((a0 == (2 : Int)) = true → ((a0 == (2 : Int)) = true ∧ ((a0 == (2 : Int)) = true ∧ (True ∧ ((True) ∧ (True) ∧ (.v (.one (.sc (.bool true))) : Tm) = word_sized.R r ∧ ([] : List Box) = []))))))))) ∧ ((a0 == (1 : Int)) = true → ((a0 == (1 : Int)) = true ∧ ((a0 == (1 : Int)) = true ∧ (true = true ∧ (true = true ∧ (true = true ∧ (True ∧ ((True) ∧ (True) ∧ (.v (.one (.sc (.bool true))) : Tm) = word_sized.R r ∧ ([] : List Box) = [])))))))))) (by kernel_rfl) ?_)
  refine ⟨trivial, ?_⟩
  refine ⟨fun b1 => ?_, fun b1 => ?_⟩
  · rw [if_neg (beq_f b1)] at h
    refine ⟨b1, ?_⟩
    refine ⟨trivial, ?_⟩
    refine ⟨b1, ?_⟩
    refine ⟨fun b2 => ?_, fun b2 => ?_⟩
    · rw [if_neg (beq_f b2)] at h
      refine ⟨b2, ?_⟩
      refine ⟨trivial, ?_⟩
      refine ⟨b2, ?_⟩
      refine ⟨trivial, ?_⟩
      obtain rfl := Option.some.inj h
      exact ⟨trivial, trivial, rfl, rfl⟩
    · rw [if_pos (beq_t b2)] at h
      refine ⟨b2, ?_⟩
      refine ⟨b2, ?_⟩
      refine ⟨trivial, ?_⟩
      obtain rfl := Option.some.inj h
      exact ⟨trivial, trivial, rfl, rfl⟩
  · rw [if_pos (beq_t b1)] at h
    refine ⟨b1, ?_⟩
    refine ⟨b1, ?_⟩
    refine ⟨rfl, rfl, rfl, trivial, ?_⟩
    obtain rfl := Option.some.inj h
    exact ⟨trivial, trivial, rfl, rfl⟩
/-! halter/word.Store -/
def word_Store.l0 (a1 : Int) : Nat → (List Int) → Int → Int → Option (List Int)
  | 0, _, _, _ => none
  | n + 1, x7, x8, x9 =>
    if x9 < a1 then
      if (0 = 0 ∧ 1 = 1) ∧ 0 = 0 ∧ (List.length x7) = (List.length x7) ∧ (((List.length x7) + 1) * 1 ≤ 140737488355328 ∧ (List.length x7) + 1 ≤ 9223372036854775807) then
        word_Store.l0 a1 n (x7 ++ [(IntKind.wrap .u8 (x8))]) (shr .u32 x8 (8 : Int)) (IntKind.wrap .i64 (x9 + (1 : Int)))
      else none
    else
      some x7
def word_Store.l0_S (a1 : Int) (x7 : List Int) (x8 : Int) (x9 : Int) : St := ⟨[.v (.one (.sc (.int .u32 x8))), .any, .any, .any, .any, .any, .v (.one (.os 0 0 0 1 (List.length x7) none)), .any, .any, .any, .any, .any, .any, .v (.one (.sc (.int .i64 a1))), .v (.one (.sc (.int .i64 x9))), .any, .any, .any, .any, .any, .any, .any, .any, .any, .any], [.gro false (.int .u8) x7 5], 0⟩
def word_Store.l0_Q (a1 : Int) (t : (List Int)) : Exit → St → Prop := fun e s => e = (.exit 0) ∧ s = ⟨[.any, .any, .any, .any, .any, .any, .v (.one (.os 0 0 0 1 (List.length t) none)), .any, .any, .any, .any, .any, .any, .any, .any, .any, .any, .any, .any, .any, .any, .any, .any, .any, .any], [.gro false (.int .u8) t 5], 0⟩
theorem word_Store.l0_ok (a1 : Int) : ∀ (n : Nat) (x7 : List Int) (x8 : Int) (x9 : Int) (r : (List Int)), word_Store.l0 a1 n x7 x8 x9 = some r → TripN cfg (cpath (Tryd.f15.body.getD .skip) [1, 1, 1, 0, 1, 0, 0]) n (word_Store.l0_S a1 x7 x8 x9) (word_Store.l0_Q a1 r) := by
  intro n
  induction n with
  | zero => intro x7 x8 x9 r h; cases h
  | succ n ih =>
    intro x7 x8 x9 r h
    rw [word_Store.l0] at h
    refine TripN.of_run cfg_ok (k := (.br (.d .no (.d (.b true) (aE 2 (.adj [.keep [0, 6, 13, 14], .drop 1] .nil)))) (.adj [.keep [6], .drop 1] .nil))) (to_goal (q := (True) ∧ (((decide (x9 < a1)) = true → (True) ∧ ((0 = 0 ∧ 1 = 1) ∧ 0 = 0 ∧ (List.length x7) = (List.length x7) ∧ (((List.length x7) + 1) * 1 ≤ 140737488355328 ∧ (List.length x7) + 1 ≤ 9223372036854775807)) ∧ (True ∧ (0 ≤ (8 : Int)) ∧ (True ∧ (True) ∧ (((True) ∧ (True) ∧ True) ∧ TripN cfg (cpath (Tryd.f15.body.getD .skip) [1, 1, 1, 0, 1, 0, 0]) n (word_Store.l0_S a1 (x7 ++ [(IntKind.wrap .u8 (x8))]) (shr .u32 x8 (8 : Int)) (IntKind.wrap .i64 (x9 + (1 : Int)))) (word_Store.l0_Q a1 r))))) ∧ ((decide (x9 < a1)) = false → (((True) ∧ (True) ∧ True) ∧ word_Store.l0_Q a1 r (.exit 0) ⟨[.any, .any, .any, .any, .any, .any, .v (.one (.os 0 0 0 1 (List.length x7) none)), .any, .any, .any, .any, .any, .any, .any, .any, .any, .any, .any, .any, .any, .any, .any, .any, .any, .any], [.gro false (.int .u8) x7 5], 0⟩)))) (by kernel_rfl) ?_)
    refine ⟨trivial, ?_⟩
    refine ⟨fun b14 => ?_, fun b14 => ?_⟩
    · rw [if_pos (of_decide_eq_true b14)] at h
      refine ⟨trivial, ?_⟩
      obtain ⟨g15, h⟩ := of_guard h
      refine ⟨g15, ?_⟩
      refine ⟨trivial, ?_⟩
      refine ⟨(by decide), ?_⟩
      refine ⟨trivial, trivial, ?_⟩
      exact ⟨⟨trivial, trivial, trivial⟩, ih (x7 ++ [(IntKind.wrap .u8 (x8))]) (shr .u32 x8 (8 : Int)) (IntKind.wrap .i64 (x9 + (1 : Int))) r h⟩
    · rw [if_neg (of_decide_eq_false b14)] at h
      obtain rfl := Option.some.inj h
      exact ⟨⟨trivial, trivial, trivial⟩, rfl, rfl⟩
def word_Store.f (a0 : Int) (a1 : Int) : Option ((List Int) × (Option Int)) :=
  (word_sized.f a1).bind fun t1 =>
  if ¬ (t1 = true) then
    some (([] : List Int), (some (22 : Int)))
  else
    if (0 : Int) = 0 ∧ 0 ≤ a1 ∧ (1 : Int) * a1 ≤ 281474976710656 ∧ a1 ≤ 9223372036854775807 then
      (word_Store.l0 a1 FUEL ([] : List Int) a0 (0 : Int)).bind fun t13 =>
      some (t13, none)
    else none
def word_Store.R (r : (List Int) × (Option Int)) : Tm := .tup [.one (.fs (.int .u8) r.1 false), .one (.err r.2)]
theorem word_Store.fun_ {a0 : Int} {a1 : Int} {r : (List Int) × (Option Int)} (h : word_Store.f a0 a1 = some r) : Fun cfg 15 [.one (.sc (.int .u32 a0)), .one (.sc (.int .i64 a1))] [] (word_Store.R r) [] := by
  unfold word_Store.f at h
  refine fun_of_run cfg_ok (f := 15) (fn := Tryd.f15) Tryd.func15 rfl (by kernel_rfl) (rs := [.tmp 4, .tmp 5]) rfl (nt := 25) rfl (l := fin) (k := (.call true [] (Bool) word_sized.R (fun t1 => (.br (aE 2 (.adj [.co 0 true [(.int .u8)]] .nil)) (.d (.b true) (aE 2 (.adj [.keep [0, 6, 13, 14]] (.sub ((List Int)) (fun _ => (.exit 0)) (fun t13 => ⟨[.any, .any, .any, .any, .any, .any, .v (.one (.os 0 0 0 1 (List.length t13) none)), .any, .any, .any, .any, .any, .any, .any, .any, .any, .any, .any, .any, .any, .any, .any, .any, .any, .any], [.gro false (.int .u8) t13 5], 0⟩) (fun t13 => (aE 2 (.adj [.co 0 true [], .drop 0] .nil))))))))))) (to_goal (q := (∃ t1 : Bool, (Fun cfg 29 [.one (.sc (.int .i64 a1))] [] (word_sized.R t1) [] ∧ True) ∧ (((!t1) = true → (True ∧ (True ∧ ((True) ∧ ((True) ∧ True) ∧ (.tup [.one (.fs (.int .u8) ([] : List Int) false), .one (.err (some (22 : Int)))] : Tm) = word_Store.R r ∧ ([] : List Box) = [])))) ∧ ((!t1) = false → ((0 : Int) = 0 ∧ 0 ≤ a1 ∧ (1 : Int) * a1 ≤ 281474976710656 ∧ a1 ≤ 9223372036854775807) ∧ (True ∧ (True ∧ (((True) ∧ True) ∧ (∃ t13 : (List Int), Trip cfg (.loop (cpath (Tryd.f15.body.getD .skip) [1, 1, 1, 0, 1, 0, 0])) ⟨[.v (.one (.sc (.int .u32 a0))), .any, .any, .any, .any, .any, .v (.one (.os 0 0 0 1 0 none)), .any, .any, .any, .any, .any, .any, .v (.one (.sc (.int .i64 a1))), .v (.one (.sc (.int .i64 (0 : Int)))), .any, .any, .any, .any, .any, .any, .any, .any, .any, .any], [.gro false (.int .u8) ([] : List Int) 5], 0⟩ (fun e s => e = (.exit 0) ∧ s = ⟨[.any, .any, .any, .any, .any, .any, .v (.one (.os 0 0 0 1 (List.length t13) none)), .any, .any, .any, .any, .any, .any, .any, .any, .any, .any, .any, .any, .any, .any, .any, .any, .any, .any], [.gro false (.int .u8) t13 5], 0⟩) ∧ (True ∧ (True ∧ ((True) ∧ ((((0 = 0 ∧ (List.length t13) = (List.length t13))) ∧ True) ∧ (True) ∧ True) ∧ (.tup [.one (.fs (.int .u8) t13 false), .one (.err none)] : Tm) = word_Store.R r ∧ ([] : List Box) = []))))))))))) (by kernel_rfl) ?_)
  obtain ⟨t1, ht1, h⟩ := of_bind h
  refine ⟨t1, ⟨word_sized.fun_ ht1, trivial⟩, ?_⟩
  refine ⟨fun b2 => ?_, fun b2 => ?_⟩
  · rw [if_pos (ff (not_t b2))] at h
    refine ⟨trivial, trivial, ?_⟩
    obtain rfl := Option.some.inj h
    exact ⟨trivial, ⟨trivial, trivial⟩, rfl, rfl⟩
  · rw [if_neg (not_not_intro (not_f b2))] at h
    obtain ⟨g18, h⟩ := of_guard h
    refine ⟨g18, ?_⟩
    refine ⟨trivial, trivial, ?_⟩
    obtain ⟨t13, ht13, h⟩ := of_bind h
    refine ⟨⟨trivial, trivial⟩, t13, Trip.loop FUEL (word_Store.l0_ok a1 FUEL ([] : List Int) a0 (0 : Int) t13 ht13), ?_⟩
    refine ⟨trivial, trivial, ?_⟩
    obtain rfl := Option.some.inj h
    exact ⟨trivial, ⟨⟨⟨rfl, rfl⟩, trivial⟩, trivial, trivial⟩, rfl, rfl⟩
/-! slices.Grow[[]byte,byte] -/
def slices_Grow_byte_byte.f (a0 : Int) : Option (List Int) :=
  if a0 < (0 : Int) then
    none
  else
    if (IntKind.wrap .i64 (a0 - (0 : Int))) > (0 : Int) then
      if 0 ≤ (IntKind.wrap .i64 (a0 - (0 : Int))) ∧ (IntKind.wrap .i64 (a0 - (0 : Int))) * (1 : Int) ≤ 140737488355328 ∧ (IntKind.wrap .i64 (a0 - (0 : Int))) ≤ 9223372036854775807 then
        if ((0 ≤ (0 : Int) ∧ (0 : Int) ≤ (((Int.toNat (IntKind.wrap .i64 (a0 - (0 : Int)))) : Nat) : Int))) ∧ (True) then
          some ([] : List Int)
        else none
      else none
    else
      some ([] : List Int)
def slices_Grow_byte_byte.R (r : (List Int)) : Tm := .v (.one (.os 0 0 0 1 (List.length r) none))
def slices_Grow_byte_byte.B (a0 : Int) (r : (List Int)) : List Box := [.gro false (.int .u8) r 5]
theorem slices_Grow_byte_byte.fun_ {a0 : Int} {r : (List Int)} (h : slices_Grow_byte_byte.f a0 = some r) : Fun cfg 30 [.one (.sc (.slice none 0 0)), .one (.sc (.int .i64 a0))] [] (slices_Grow_byte_byte.R r) (slices_Grow_byte_byte.B a0 r) := by
  unfold slices_Grow_byte_byte.f at h
  refine fun_of_run cfg_ok (f := 30) (fn := Tryd.f30) Tryd.func30 rfl (by kernel_rfl) (rs := [.tmp 4]) rfl (nt := 27) rfl (l := fin) (k := (.br .nil (.br (.d (.b false) (aE 2 (.adj [.cut 0 0] .nil))) (aE 3 (.adj [.nilGro 0 (.int .u8) 5] .nil))))) (to_goal (q := (True) ∧ (((decide (a0 < (0 : Int))) = true → False) ∧ ((decide (a0 < (0 : Int))) = false → (True) ∧ (True) ∧ (True) ∧ (True) ∧ (True) ∧ (((decide ((IntKind.wrap .i64 (a0 - (0 : Int))) > (0 : Int))) = true → (True) ∧ (((0 ≤ (0 : Int) ∧ (0 : Int) ≤ ((0 : Nat) : Int))) ∧ (True)) ∧ (0 ≤ (IntKind.wrap .i64 (a0 - (0 : Int))) ∧ (IntKind.wrap .i64 (a0 - (0 : Int))) * (1 : Int) ≤ 140737488355328 ∧ (IntKind.wrap .i64 (a0 - (0 : Int))) ≤ 9223372036854775807) ∧ (True) ∧ (((0 ≤ (0 : Int) ∧ (0 : Int) ≤ (((Int.toNat (IntKind.wrap .i64 (a0 - (0 : Int)))) : Nat) : Int))) ∧ (True)) ∧ (True ∧ (True ∧ ((True) ∧ ((True) ∧ True) ∧ (.v (.one (.os 0 0 0 1 0 none)) : Tm) = slices_Grow_byte_byte.R r ∧ ([.gro false (.int .u8) ([] : List Int) 5] : List Box) = slices_Grow_byte_byte.B a0 r)))) ∧ ((decide ((IntKind.wrap .i64 (a0 - (0 : Int))) > (0 : Int))) = false → (True ∧ (True ∧ (True ∧ ((True) ∧ ((True) ∧ True) ∧ (.v (.one (.os 0 0 0 1 0 none)) : Tm) = slices_Grow_byte_byte.R r ∧ ([.gro false (.int .u8) ([] : List Int) 5] : List Box) = slices_Grow_byte_byte.B a0 r))))))))) (by kernel_rfl) ?_)
  refine ⟨trivial, ?_⟩
  refine ⟨fun b1 => ?_, fun b1 => ?_⟩
  · rw [if_pos (of_decide_eq_true b1)] at h
    cases h
  · rw [if_neg (of_decide_eq_false b1)] at h
    refine ⟨trivial, trivial, trivial, trivial, trivial, ?_⟩
    refine ⟨fun b2 => ?_, fun b2 => ?_⟩
    · rw [if_pos (of_decide_eq_true b2)] at h
      refine ⟨trivial, ?_⟩
      refine ⟨⟨(by decide), trivial⟩, ?_⟩
      obtain ⟨g4, h⟩ := of_guard h
      refine ⟨g4, ?_⟩
      refine ⟨trivial, ?_⟩
      obtain ⟨g3, h⟩ := of_guard h
      refine ⟨g3, ?_⟩
      refine ⟨trivial, trivial, ?_⟩
      obtain rfl := Option.some.inj h
      exact ⟨trivial, ⟨trivial, trivial⟩, rfl, rfl⟩
    · rw [if_neg (of_decide_eq_false b2)] at h
      refine ⟨trivial, trivial, trivial, ?_⟩
      obtain rfl := Option.some.inj h
      exact ⟨trivial, ⟨trivial, trivial⟩, rfl, rfl⟩
/-! slices.Concat[[]byte,byte] -/
def slices_Concat_byte_byte.l0 (a0 : (List (List Int))) : Nat → Int → Int → Option Int
  | 0, _, _ => none
  | n + 1, x1, x2 =>
    if x2 < (((List.length a0) : Nat) : Int) then
      if 0 ≤ x2 ∧ x2 < (((List.length a0) : Nat) : Int) then
        if (IntKind.wrap .i64 (x1 + (((List.length (List.getD a0 (Int.toNat x2) ([] : List Int))) : Nat) : Int))) < (0 : Int) then
          none
        else
          slices_Concat_byte_byte.l0 a0 n (IntKind.wrap .i64 (x1 + (((List.length (List.getD a0 (Int.toNat x2) ([] : List Int))) : Nat) : Int))) (IntKind.wrap .i64 (x2 + (1 : Int)))
      else none
    else
      some x1
def slices_Concat_byte_byte.l0_S (a0 : (List (List Int))) (x1 : Int) (x2 : Int) : St := ⟨[.v (.one (.fs (.sl (.int .u8)) a0 false)), .any, .any, .v (.one (.sc (.int .i64 x1))), .any, .any, .any, .any, .any, .v (.one (.fs (.sl (.int .u8)) a0 false)), .v (.one (.sc (.int .i64 (((List.length a0) : Nat) : Int)))), .v (.one (.sc (.int .i64 x2))), .any, .any, .any, .any, .any, .any, .any, .any, .any, .any, .any, .any, .any, .any, .any, .any, .any, .any, .any, .any, .any, .any, .any, .any], [], 0⟩
def slices_Concat_byte_byte.l0_Q (a0 : (List (List Int))) (t : Int) : Exit → St → Prop := fun e s => e = (.exit 0) ∧ s = ⟨[.v (.one (.fs (.sl (.int .u8)) a0 false)), .any, .any, .v (.one (.sc (.int .i64 t))), .any, .any, .any, .any, .any, .any, .any, .any, .any, .any, .any, .any, .any, .any, .any, .any, .any, .any, .any, .any, .any, .any, .any, .any, .any, .any, .any, .any, .any, .any, .any, .any], [], 0⟩
theorem slices_Concat_byte_byte.l0_ok (a0 : (List (List Int))) : ∀ (n : Nat) (x1 : Int) (x2 : Int) (r : Int), slices_Concat_byte_byte.l0 a0 n x1 x2 = some r → TripN cfg (cpath (Tryd.f16.body.getD .skip) [1, 1, 0, 1, 0, 0]) n (slices_Concat_byte_byte.l0_S a0 x1 x2) (slices_Concat_byte_byte.l0_Q a0 r) := by
  intro n
  induction n with
  | zero => intro x1 x2 r h; cases h
  | succ n ih =>
    intro x1 x2 r h
    rw [slices_Concat_byte_byte.l0] at h
    refine TripN.of_run cfg_ok (k := (.br (.br .nil (aE 2 (.adj [.keep [0, 3, 9, 10, 11], .drop 0] .nil))) (.adj [.keep [0, 3], .drop 0] .nil))) (to_goal (q := (True) ∧ (((decide (x2 < (((List.length a0) : Nat) : Int))) = true → (0 ≤ x2 ∧ x2 < (((List.length a0) : Nat) : Int)) ∧ (True) ∧ (True) ∧ (True) ∧ (True) ∧ (((decide ((IntKind.wrap .i64 (x1 + (((List.length (List.getD a0 (Int.toNat x2) ([] : List Int))) : Nat) : Int))) < (0 : Int))) = true → False) ∧ ((decide ((IntKind.wrap .i64 (x1 + (((List.length (List.getD a0 (Int.toNat x2) ([] : List Int))) : Nat) : Int))) < (0 : Int))) = false → (True ∧ (True ∧ (True) ∧ (((True) ∧ (True) ∧ True) ∧ TripN cfg (cpath (Tryd.f16.body.getD .skip) [1, 1, 0, 1, 0, 0]) n (slices_Concat_byte_byte.l0_S a0 (IntKind.wrap .i64 (x1 + (((List.length (List.getD a0 (Int.toNat x2) ([] : List Int))) : Nat) : Int))) (IntKind.wrap .i64 (x2 + (1 : Int)))) (slices_Concat_byte_byte.l0_Q a0 r))))))) ∧ ((decide (x2 < (((List.length a0) : Nat) : Int))) = false → (((True) ∧ (True) ∧ True) ∧ slices_Concat_byte_byte.l0_Q a0 r (.exit 0) ⟨[.v (.one (.fs (.sl (.int .u8)) a0 false)), .any, .any, .v (.one (.sc (.int .i64 x1))), .any, .any, .any, .any, .any, .any, .any, .any, .any, .any, .any, .any, .any, .any, .any, .any, .any, .any, .any, .any, .any, .any, .any, .any, .any, .any, .any, .any, .any, .any, .any, .any], [], 0⟩)))) (by kernel_rfl) ?_)
    refine ⟨trivial, ?_⟩
    refine ⟨fun b8 => ?_, fun b8 => ?_⟩
    · rw [if_pos (of_decide_eq_true b8)] at h
      obtain ⟨g10, h⟩ := of_guard h
      refine ⟨g10, ?_⟩
      refine ⟨trivial, trivial, trivial, trivial, ?_⟩
      refine ⟨fun b9 => ?_, fun b9 => ?_⟩
      · rw [if_pos (of_decide_eq_true b9)] at h
        cases h
      · rw [if_neg (of_decide_eq_false b9)] at h
        refine ⟨trivial, trivial, trivial, ?_⟩
        exact ⟨⟨trivial, trivial, trivial⟩, ih (IntKind.wrap .i64 (x1 + (((List.length (List.getD a0 (Int.toNat x2) ([] : List Int))) : Nat) : Int))) (IntKind.wrap .i64 (x2 + (1 : Int))) r h⟩
    · rw [if_neg (of_decide_eq_false b8)] at h
      obtain rfl := Option.some.inj h
      exact ⟨⟨trivial, trivial, trivial⟩, rfl, rfl⟩
def slices_Concat_byte_byte.l1 (a0 : (List (List Int))) : Nat → (List Int) → Int → Option (List Int)
  | 0, _, _ => none
  | n + 1, x18, x19 =>
    if x19 < (((List.length a0) : Nat) : Int) then
      if 0 ≤ x19 ∧ x19 < (((List.length a0) : Nat) : Int) then
        if True ∧ 0 = 0 ∧ (List.length x18) = (List.length x18) ∧ (((List.length x18) + (List.length (List.getD a0 (Int.toNat x19) ([] : List Int)))) * 1 ≤ 140737488355328 ∧ (List.length x18) + (List.length (List.getD a0 (Int.toNat x19) ([] : List Int))) ≤ 9223372036854775807) then
          slices_Concat_byte_byte.l1 a0 n (x18 ++ (List.getD a0 (Int.toNat x19) ([] : List Int))) (IntKind.wrap .i64 (x19 + (1 : Int)))
        else none
      else none
    else
      some x18
def slices_Concat_byte_byte.l1_S (a0 : (List (List Int))) (x18 : List Int) (x19 : Int) : St := ⟨[.any, .any, .any, .any, .any, .any, .v (.one (.os 0 0 0 1 (List.length x18) none)), .any, .any, .any, .any, .any, .any, .any, .any, .any, .any, .any, .any, .any, .any, .any, .any, .any, .any, .v (.one (.fs (.sl (.int .u8)) a0 false)), .v (.one (.sc (.int .i64 (((List.length a0) : Nat) : Int)))), .v (.one (.sc (.int .i64 x19))), .any, .any, .any, .any, .any, .any, .any, .any], [.gro false (.int .u8) x18 5], 0⟩
def slices_Concat_byte_byte.l1_Q (a0 : (List (List Int))) (t : (List Int)) : Exit → St → Prop := fun e s => e = (.exit 2) ∧ s = ⟨[.any, .any, .any, .any, .any, .any, .v (.one (.os 0 0 0 1 (List.length t) none)), .any, .any, .any, .any, .any, .any, .any, .any, .any, .any, .any, .any, .any, .any, .any, .any, .any, .any, .any, .any, .any, .any, .any, .any, .any, .any, .any, .any, .any], [.gro false (.int .u8) t 5], 0⟩
theorem slices_Concat_byte_byte.l1_ok (a0 : (List (List Int))) : ∀ (n : Nat) (x18 : List Int) (x19 : Int) (r : (List Int)), slices_Concat_byte_byte.l1 a0 n x18 x19 = some r → TripN cfg (cpath (Tryd.f16.body.getD .skip) [1, 1, 1, 1, 0, 1, 0, 0]) n (slices_Concat_byte_byte.l1_S a0 x18 x19) (slices_Concat_byte_byte.l1_Q a0 r) := by
  intro n
  induction n with
  | zero => intro x18 x19 r h; cases h
  | succ n ih =>
    intro x18 x19 r h
    rw [slices_Concat_byte_byte.l1] at h
    refine TripN.of_run cfg_ok (k := (.br (.d (.b false) (.adj [] (.adj [.keep [6, 25, 26, 27], .drop 1] .nil))) (.adj [.keep [6], .drop 1] .nil))) (to_goal (q := (True) ∧ (((decide (x19 < (((List.length a0) : Nat) : Int))) = true → (0 ≤ x19 ∧ x19 < (((List.length a0) : Nat) : Int)) ∧ (True) ∧ (True ∧ 0 = 0 ∧ (List.length x18) = (List.length x18) ∧ (((List.length x18) + (List.length (List.getD a0 (Int.toNat x19) ([] : List Int)))) * 1 ≤ 140737488355328 ∧ (List.length x18) + (List.length (List.getD a0 (Int.toNat x19) ([] : List Int))) ≤ 9223372036854775807)) ∧ (True ∧ (True) ∧ (((True) ∧ (True) ∧ True) ∧ TripN cfg (cpath (Tryd.f16.body.getD .skip) [1, 1, 1, 1, 0, 1, 0, 0]) n (slices_Concat_byte_byte.l1_S a0 (x18 ++ (List.getD a0 (Int.toNat x19) ([] : List Int))) (IntKind.wrap .i64 (x19 + (1 : Int)))) (slices_Concat_byte_byte.l1_Q a0 r)))) ∧ ((decide (x19 < (((List.length a0) : Nat) : Int))) = false → (((True) ∧ (True) ∧ True) ∧ slices_Concat_byte_byte.l1_Q a0 r (.exit 2) ⟨[.any, .any, .any, .any, .any, .any, .v (.one (.os 0 0 0 1 (List.length x18) none)), .any, .any, .any, .any, .any, .any, .any, .any, .any, .any, .any, .any, .any, .any, .any, .any, .any, .any, .any, .any, .any, .any, .any, .any, .any, .any, .any, .any, .any], [.gro false (.int .u8) x18 5], 0⟩)))) (by kernel_rfl) ?_)
    refine ⟨trivial, ?_⟩
    refine ⟨fun b25 => ?_, fun b25 => ?_⟩
    · rw [if_pos (of_decide_eq_true b25)] at h
      obtain ⟨g27, h⟩ := of_guard h
      refine ⟨g27, ?_⟩
      refine ⟨trivial, ?_⟩
      obtain ⟨g26, h⟩ := of_guard h
      refine ⟨g26, ?_⟩
      refine ⟨trivial, trivial, ?_⟩
      exact ⟨⟨trivial, trivial, trivial⟩, ih (x18 ++ (List.getD a0 (Int.toNat x19) ([] : List Int))) (IntKind.wrap .i64 (x19 + (1 : Int))) r h⟩
    · rw [if_neg (of_decide_eq_false b25)] at h
      obtain rfl := Option.some.inj h
      exact ⟨⟨trivial, trivial, trivial⟩, rfl, rfl⟩
def slices_Concat_byte_byte.f (a0 : (List (List Int))) : Option (List Int) :=
  (slices_Concat_byte_byte.l0 a0 FUEL (0 : Int) (0 : Int)).bind fun t7 =>
  (slices_Grow_byte_byte.f t7).bind fun t13 =>
  (slices_Concat_byte_byte.l1 a0 FUEL t13 (0 : Int)).bind fun t24 =>
  some t24
def slices_Concat_byte_byte.R (r : (List Int)) : Tm := .v (.one (.os 0 0 0 1 (List.length r) none))
def slices_Concat_byte_byte.B (a0 : (List (List Int))) (r : (List Int)) : List Box := [.gro false (.int .u8) r 5]
theorem slices_Concat_byte_byte.fun_ {a0 : (List (List Int))} {r : (List Int)} (h : slices_Concat_byte_byte.f a0 = some r) : Fun cfg 16 [.one (.fs (.sl (.int .u8)) a0 false)] [] (slices_Concat_byte_byte.R r) (slices_Concat_byte_byte.B a0 r) := by
  unfold slices_Concat_byte_byte.f at h
  refine fun_of_run cfg_ok (f := 16) (fn := Tryd.f16) Tryd.func16 rfl (by kernel_rfl) (rs := [.tmp 2]) rfl (nt := 36) rfl (l := fin) (k := (aE 4 (.adj [.keep [0, 3, 9, 10, 11]] (.sub (Int) (fun _ => (.exit 0)) (fun t7 => ⟨[.v (.one (.fs (.sl (.int .u8)) a0 false)), .any, .any, .v (.one (.sc (.int .i64 t7))), .any, .any, .any, .any, .any, .any, .any, .any, .any, .any, .any, .any, .any, .any, .any, .any, .any, .any, .any, .any, .any, .any, .any, .any, .any, .any, .any, .any, .any, .any, .any, .any], [], 0⟩) (fun t7 => (.callR true [] [] ((List Int)) (fun t13 => (slices_Grow_byte_byte.R t13)) (fun t13 => (slices_Grow_byte_byte.B t7 t13)) (fun t13 => (aE 2 (.adj [.keep [6, 25, 26, 27]] (.sub ((List Int)) (fun _ => (.exit 2)) (fun t24 => ⟨[.any, .any, .any, .any, .any, .any, .v (.one (.os 0 0 0 1 (List.length t24) none)), .any, .any, .any, .any, .any, .any, .any, .any, .any, .any, .any, .any, .any, .any, .any, .any, .any, .any, .any, .any, .any, .any, .any, .any, .any, .any, .any, .any, .any], [.gro false (.int .u8) t24 5], 0⟩) (fun t24 => (aE 3 .nil)))))))))))) (to_goal (q := (True ∧ (True ∧ (True ∧ (True) ∧ (True ∧ (((True) ∧ True) ∧ (∃ t7 : Int, Trip cfg (.loop (cpath (Tryd.f16.body.getD .skip) [1, 1, 0, 1, 0, 0])) ⟨[.v (.one (.fs (.sl (.int .u8)) a0 false)), .any, .any, .v (.one (.sc (.int .i64 (0 : Int)))), .any, .any, .any, .any, .any, .v (.one (.fs (.sl (.int .u8)) a0 false)), .v (.one (.sc (.int .i64 (((List.length a0) : Nat) : Int)))), .v (.one (.sc (.int .i64 (0 : Int)))), .any, .any, .any, .any, .any, .any, .any, .any, .any, .any, .any, .any, .any, .any, .any, .any, .any, .any, .any, .any, .any, .any, .any, .any], [], 0⟩ (fun e s => e = (.exit 0) ∧ s = ⟨[.v (.one (.fs (.sl (.int .u8)) a0 false)), .any, .any, .v (.one (.sc (.int .i64 t7))), .any, .any, .any, .any, .any, .any, .any, .any, .any, .any, .any, .any, .any, .any, .any, .any, .any, .any, .any, .any, .any, .any, .any, .any, .any, .any, .any, .any, .any, .any, .any, .any], [], 0⟩) ∧ (∃ t13 : (List Int), (Fun cfg 30 [.one (.sc (.slice none 0 0)), .one (.sc (.int .i64 t7))] [] (slices_Grow_byte_byte.R t13) (slices_Grow_byte_byte.B t7 t13) ∧ True) ∧ (True ∧ (True) ∧ (True ∧ (((True) ∧ True) ∧ (∃ t24 : (List Int), Trip cfg (.loop (cpath (Tryd.f16.body.getD .skip) [1, 1, 1, 1, 0, 1, 0, 0])) ⟨[.any, .any, .any, .any, .any, .any, .v (.one (.os 0 0 0 1 (List.length t13) none)), .any, .any, .any, .any, .any, .any, .any, .any, .any, .any, .any, .any, .any, .any, .any, .any, .any, .any, .v (.one (.fs (.sl (.int .u8)) a0 false)), .v (.one (.sc (.int .i64 (((List.length a0) : Nat) : Int)))), .v (.one (.sc (.int .i64 (0 : Int)))), .any, .any, .any, .any, .any, .any, .any, .any], [.gro false (.int .u8) t13 5], 0⟩ (fun e s => e = (.exit 2) ∧ s = ⟨[.any, .any, .any, .any, .any, .any, .v (.one (.os 0 0 0 1 (List.length t24) none)), .any, .any, .any, .any, .any, .any, .any, .any, .any, .any, .any, .any, .any, .any, .any, .any, .any, .any, .any, .any, .any, .any, .any, .any, .any, .any, .any, .any, .any], [.gro false (.int .u8) t24 5], 0⟩) ∧ (True ∧ (True ∧ ((True) ∧ (True) ∧ (.v (.one (.os 0 0 0 1 (List.length t24) none)) : Tm) = slices_Concat_byte_byte.R r ∧ ([.gro false (.int .u8) t24 5] : List Box) = slices_Concat_byte_byte.B a0 r))))))))))))))) (by kernel_rfl) ?_)
  refine ⟨trivial, trivial, trivial, trivial, trivial, ?_⟩
  obtain ⟨t7, ht7, h⟩ := of_bind h
  refine ⟨⟨trivial, trivial⟩, t7, Trip.loop FUEL (slices_Concat_byte_byte.l0_ok a0 FUEL (0 : Int) (0 : Int) t7 ht7), ?_⟩
  obtain ⟨t13, ht13, h⟩ := of_bind h
  refine ⟨t13, ⟨slices_Grow_byte_byte.fun_ ht13, trivial⟩, ?_⟩
  refine ⟨trivial, trivial, trivial, ?_⟩
  obtain ⟨t24, ht24, h⟩ := of_bind h
  refine ⟨⟨trivial, trivial⟩, t24, Trip.loop FUEL (slices_Concat_byte_byte.l1_ok a0 FUEL t13 (0 : Int) t24 ht24), ?_⟩
  refine ⟨trivial, trivial, ?_⟩
  obtain rfl := Option.some.inj h
  exact ⟨trivial, trivial, rfl, rfl⟩
/-! halter/image.two -/
def image_two.f (a0 : Int) : Option (List Int) :=
  some [(IntKind.wrap .u8 (a0)), (IntKind.wrap .u8 ((shr .i64 a0 (8 : Int))))]
def image_two.R (r : (List Int)) : Tm := .v (.one (.fs (.int .u8) r false))
theorem image_two.fun_ {a0 : Int} {r : (List Int)} (h : image_two.f a0 = some r) : Fun cfg 17 [.one (.sc (.int .i64 a0))] [] (image_two.R r) [] := by
  unfold image_two.f at h
  refine fun_of_run cfg_ok (f := 17) (fn := Tryd.f17) Tryd.func17 rfl (by kernel_rfl) (rs := [.tmp 2]) rfl (nt := 9) rfl (l := fin) (k := (.d .no (.adj [] (.adj [.co 0 true [], .drop 0] .nil)))) (to_goal (q := (True) ∧ (0 ≤ (8 : Int)) ∧ (True) ∧ (True ∧ ((True) ∧ (((0 = 0 ∧ 2 = 2) ∧ True) ∧ (True) ∧ True) ∧ (.v (.one (.fs (.int .u8) [(IntKind.wrap .u8 (a0)), (IntKind.wrap .u8 ((shr .i64 a0 (8 : Int))))] false)) : Tm) = image_two.R r ∧ ([] : List Box) = []))) (by kernel_rfl) ?_)
  refine ⟨trivial, ?_⟩
  refine ⟨(by decide), ?_⟩
  refine ⟨trivial, trivial, ?_⟩
  obtain rfl := Option.some.inj h
  exact ⟨trivial, ⟨⟨⟨rfl, rfl⟩, trivial⟩, trivial, trivial⟩, rfl, rfl⟩
/-! halter/image.Encode -/
def image_Encode.l0 (t3 : (List Int) × (Option Int)) (a0 : Int) (a1 : (List (Int × (Int × (Int × (List Int)))))) : Nat → (List Int) → Int → Option (List Int)
  | 0, _, _ => none
  | n + 1, x13, x14 =>
    if x14 < (((List.length a1) : Nat) : Int) then
      if 0 ≤ x14 ∧ x14 < (((List.length a1) : Nat) : Int) then
        (image_two.f (List.getD a1 (Int.toNat x14) ((0 : Int), ((0 : Int), ((0 : Int), ([] : List Int))))).1).bind fun t24 =>
        (image_two.f (List.getD a1 (Int.toNat x14) ((0 : Int), ((0 : Int), ((0 : Int), ([] : List Int))))).2.1).bind fun t25 =>
        (image_two.f (((List.length (List.getD a1 (Int.toNat x14) ((0 : Int), ((0 : Int), ((0 : Int), ([] : List Int))))).2.2.2) : Nat) : Int)).bind fun t26 =>
        (slices_Concat_byte_byte.f (List.take 6 [x13, t24, t25, [(List.getD a1 (Int.toNat x14) ((0 : Int), ((0 : Int), ((0 : Int), ([] : List Int))))).2.2.1], t26, (List.getD a1 (Int.toNat x14) ((0 : Int), ((0 : Int), ((0 : Int), ([] : List Int))))).2.2.2])).bind fun t27 =>
        image_Encode.l0 t3 a0 a1 n t27 (IntKind.wrap .i64 (x14 + (1 : Int)))
      else none
    else
      some x13
def image_Encode.l0_S (t3 : (List Int) × (Option Int)) (a0 : Int) (a1 : (List (Int × (Int × (Int × (List Int)))))) (x13 : List Int) (x14 : Int) : St := ⟨[.any, .any, .any, .any, .any, .any, .any, .v (.one (.os 4 0 0 1 (List.length x13) none)), .any, .any, .any, .any, .any, .any, .any, .any, .any, .any, .any, .any, .any, .any, .any, .any, .any, .any, .any, .any, .any, .any, .any, .any, .any, .any, .any, .v (.one (.fs (.pair (.int .i64) (.pair (.int .i64) (.pair (.int .u8) (.sl (.int .u8))))) a1 false)), .v (.one (.sc (.int .i64 (((List.length a1) : Nat) : Int)))), .v (.one (.sc (.int .i64 x14))), .any, .any, .any, .any, .any, .any, .any, .any, .any, .any, .any, .any, .any, .any, .any, .any, .any, .any, .any, .any, .any, .any, .any], [.ex false [.c (.sc (.int .u32 a0)), .c (.fs (.pair (.int .i64) (.pair (.int .i64) (.pair (.int .u8) (.sl (.int .u8))))) a1 false)] 36, .ex true [.row 4 (.int .u8) [(104 : Int), (120 : Int), (48 : Int), (49 : Int)]] 5, .ex true [.row 1 (.int .u8) [(IntKind.wrap .u8 ((((List.length a1) : Nat) : Int)))]] 5, .ex false [.row 3 (.sl (.int .u8)) [[(104 : Int), (120 : Int), (48 : Int), (49 : Int)], t3.1, [(IntKind.wrap .u8 ((((List.length a1) : Nat) : Int)))]]] 26, .gro false (.int .u8) x13 5], 0⟩
def image_Encode.l0_Q (t3 : (List Int) × (Option Int)) (a0 : Int) (a1 : (List (Int × (Int × (Int × (List Int)))))) (t : (List Int)) : Exit → St → Prop := fun e s => e = (.exit 0) ∧ s = ⟨[.any, .any, .any, .any, .any, .any, .any, .v (.one (.os 4 0 0 1 (List.length t) none)), .any, .any, .any, .any, .any, .any, .any, .any, .any, .any, .any, .any, .any, .any, .any, .any, .any, .any, .any, .any, .any, .any, .any, .any, .any, .any, .any, .any, .any, .any, .any, .any, .any, .any, .any, .any, .any, .any, .any, .any, .any, .any, .any, .any, .any, .any, .any, .any, .any, .any, .any, .any, .any], [.ex false [.c (.sc (.int .u32 a0)), .c (.fs (.pair (.int .i64) (.pair (.int .i64) (.pair (.int .u8) (.sl (.int .u8))))) a1 false)] 36, .ex true [.row 4 (.int .u8) [(104 : Int), (120 : Int), (48 : Int), (49 : Int)]] 5, .ex true [.row 1 (.int .u8) [(IntKind.wrap .u8 ((((List.length a1) : Nat) : Int)))]] 5, .ex false [.row 3 (.sl (.int .u8)) [[(104 : Int), (120 : Int), (48 : Int), (49 : Int)], t3.1, [(IntKind.wrap .u8 ((((List.length a1) : Nat) : Int)))]]] 26, .gro false (.int .u8) t 5], 0⟩
theorem image_Encode.l0_ok (t3 : (List Int) × (Option Int)) (a0 : Int) (a1 : (List (Int × (Int × (Int × (List Int)))))) : ∀ (n : Nat) (x13 : List Int) (x14 : Int) (r : (List Int)), image_Encode.l0 t3 a0 a1 n x13 x14 = some r → TripN cfg (cpath (Tryd.f7.body.getD .skip) [1, 1, 1, 1, 1, 0, 1, 0, 0]) n (image_Encode.l0_S t3 a0 a1 x13 x14) (image_Encode.l0_Q t3 a0 a1 r) := by
  intro n
  induction n with
  | zero => intro x13 x14 r h; cases h
  | succ n ih =>
    intro x13 x14 r h
    rw [image_Encode.l0] at h
    refine TripN.of_run cfg_ok (k := (.br (aE 3 (.adj [.co 7 true []] (.ex ((List Int)) (fun t24 => (.ex ((List Int)) (fun t25 => (.ex ((List Int)) (fun t26 => (.ex ((List Int)) (fun t27 => (.dr [(0, dN), (1, dN), (4, dN), (7, dN), (10, dN), (14, dN), (2, dN), (3, ⟨none, .callP true [] (image_two.R t24), false⟩), (5, dN), (6, ⟨none, .callP true [] (image_two.R t25), false⟩), (8, dN), (9, d1), (11, dN), (12, dN), (13, ⟨none, .callP true [] (image_two.R t26), false⟩), (15, dN), (16, dN), (17, ⟨none, .callR false [] [] (slices_Concat_byte_byte.R t27) (slices_Concat_byte_byte.B (List.take 6 [x13, t24, t25, [(List.getD a1 (Int.toNat x14) ((0 : Int), ((0 : Int), ((0 : Int), ([] : List Int))))).2.2.1], t26, (List.getD a1 (Int.toNat x14) ((0 : Int), ((0 : Int), ((0 : Int), ([] : List Int))))).2.2.2]) t27), false⟩), (18, dN)] (.adj [] (.adj [.keep [7, 35, 36, 37], .sel [0, 1, 2, 3, 7]] .nil))))))))))))) (.adj [.keep [7], .drop 5] .nil))) (to_goal (q := (True) ∧ (((decide (x14 < (((List.length a1) : Nat) : Int))) = true → (True ∧ (True ∧ (True ∧ (0 ≤ x14 ∧ x14 < (((List.length a1) : Nat) : Int)) ∧ (True) ∧ (True) ∧ (((((0 = 0 ∧ (List.length x13) = (List.length x13))) ∧ True) ∧ True) ∧ (∃ t24 : (List Int), (∃ t25 : (List Int), (∃ t26 : (List Int), (∃ t27 : (List Int), (True) ∧ (Fun cfg 17 [.one (.sc (.int .i64 (List.getD a1 (Int.toNat x14) ((0 : Int), ((0 : Int), ((0 : Int), ([] : List Int))))).1))] [] (image_two.R t24) [] ∧ True) ∧ (True) ∧ (Fun cfg 17 [.one (.sc (.int .i64 (List.getD a1 (Int.toNat x14) ((0 : Int), ((0 : Int), ((0 : Int), ([] : List Int))))).2.1))] [] (image_two.R t25) [] ∧ True) ∧ (True) ∧ (True) ∧ (True) ∧ (Fun cfg 17 [.one (.sc (.int .i64 (((List.length (List.getD a1 (Int.toNat x14) ((0 : Int), ((0 : Int), ((0 : Int), ([] : List Int))))).2.2.2) : Nat) : Int)))] [] (image_two.R t26) [] ∧ True) ∧ (True) ∧ ((0 + 6 ≤ 6) ∧ Fun cfg 16 [.one (.fs (.sl (.int .u8)) (List.take 6 [x13, t24, t25, [(List.getD a1 (Int.toNat x14) ((0 : Int), ((0 : Int), ((0 : Int), ([] : List Int))))).2.2.1], t26, (List.getD a1 (Int.toNat x14) ((0 : Int), ((0 : Int), ((0 : Int), ([] : List Int))))).2.2.2]) false)] [] (slices_Concat_byte_byte.R t27) (slices_Concat_byte_byte.B (List.take 6 [x13, t24, t25, [(List.getD a1 (Int.toNat x14) ((0 : Int), ((0 : Int), ((0 : Int), ([] : List Int))))).2.2.1], t26, (List.getD a1 (Int.toNat x14) ((0 : Int), ((0 : Int), ((0 : Int), ([] : List Int))))).2.2.2]) t27) ∧ True) ∧ (True ∧ (True) ∧ (((True) ∧ (True) ∧ True) ∧ TripN cfg (cpath (Tryd.f7.body.getD .skip) [1, 1, 1, 1, 1, 0, 1, 0, 0]) n (image_Encode.l0_S t3 a0 a1 t27 (IntKind.wrap .i64 (x14 + (1 : Int)))) (image_Encode.l0_Q t3 a0 a1 r)))))))))))) ∧ ((decide (x14 < (((List.length a1) : Nat) : Int))) = false → (((True) ∧ (True) ∧ True) ∧ image_Encode.l0_Q t3 a0 a1 r (.exit 0) ⟨[.any, .any, .any, .any, .any, .any, .any, .v (.one (.os 4 0 0 1 (List.length x13) none)), .any, .any, .any, .any, .any, .any, .any, .any, .any, .any, .any, .any, .any, .any, .any, .any, .any, .any, .any, .any, .any, .any, .any, .any, .any, .any, .any, .any, .any, .any, .any, .any, .any, .any, .any, .any, .any, .any, .any, .any, .any, .any, .any, .any, .any, .any, .any, .any, .any, .any, .any, .any, .any], [.ex false [.c (.sc (.int .u32 a0)), .c (.fs (.pair (.int .i64) (.pair (.int .i64) (.pair (.int .u8) (.sl (.int .u8))))) a1 false)] 36, .ex true [.row 4 (.int .u8) [(104 : Int), (120 : Int), (48 : Int), (49 : Int)]] 5, .ex true [.row 1 (.int .u8) [(IntKind.wrap .u8 ((((List.length a1) : Nat) : Int)))]] 5, .ex false [.row 3 (.sl (.int .u8)) [[(104 : Int), (120 : Int), (48 : Int), (49 : Int)], t3.1, [(IntKind.wrap .u8 ((((List.length a1) : Nat) : Int)))]]] 26, .gro false (.int .u8) x13 5], 0⟩)))) (by kernel_rfl) ?_)
    refine ⟨trivial, ?_⟩
    refine ⟨fun b23 => ?_, fun b23 => ?_⟩
    · rw [if_pos (of_decide_eq_true b23)] at h
      refine ⟨trivial, trivial, trivial, ?_⟩
      obtain ⟨g28, h⟩ := of_guard h
      refine ⟨g28, ?_⟩
      refine ⟨trivial, trivial, ?_⟩
      refine ⟨⟨⟨⟨rfl, rfl⟩, trivial⟩, trivial⟩, ?_⟩
      obtain ⟨t24, ht24, h⟩ := of_bind h
      refine ⟨t24, ?_⟩
      obtain ⟨t25, ht25, h⟩ := of_bind h
      refine ⟨t25, ?_⟩
      obtain ⟨t26, ht26, h⟩ := of_bind h
      refine ⟨t26, ?_⟩
      obtain ⟨t27, ht27, h⟩ := of_bind h
      refine ⟨t27, ?_⟩
      refine ⟨trivial, ⟨image_two.fun_ ht24, trivial⟩, trivial, ⟨image_two.fun_ ht25, trivial⟩, trivial, trivial, trivial, ⟨image_two.fun_ ht26, trivial⟩, trivial, ⟨(by decide), slices_Concat_byte_byte.fun_ ht27, trivial⟩, ?_⟩
      refine ⟨trivial, trivial, ?_⟩
      exact ⟨⟨trivial, trivial, trivial⟩, ih t27 (IntKind.wrap .i64 (x14 + (1 : Int))) r h⟩
    · rw [if_neg (of_decide_eq_false b23)] at h
      obtain rfl := Option.some.inj h
      exact ⟨⟨trivial, trivial, trivial⟩, rfl, rfl⟩
def image_Encode.f (a0 : Int) (a1 : (List (Int × (Int × (Int × (List Int)))))) : Option ((Option Int) × (List Int)) :=
  (image_Check.f a0 a1).bind fun t1 =>
  if ¬ (t1 = none) then
    some (t1, ([] : List Int))
  else
    (word_Store.f a0 (4 : Int)).bind fun t3 =>
    if ¬ (t3.2 = none) then
      some (t3.2, ([] : List Int))
    else
      (slices_Concat_byte_byte.f (List.take 3 [[(104 : Int), (120 : Int), (48 : Int), (49 : Int)], t3.1, [(IntKind.wrap .u8 ((((List.length a1) : Nat) : Int)))]])).bind fun t5 =>
      (image_Encode.l0 t3 a0 a1 FUEL t5 (0 : Int)).bind fun t22 =>
      some (none, t22)
def image_Encode.R (r : (Option Int) × (List Int)) : Tm := .tup [.one (.os 0 0 0 1 (List.length r.2) none), .one (.err r.1)]
def image_Encode.B (a0 : Int) (a1 : (List (Int × (Int × (Int × (List Int)))))) (r : (Option Int) × (List Int)) : List Box := [.gro false (.int .u8) r.2 5]
theorem image_Encode.fun_ {a0 : Int} {a1 : (List (Int × (Int × (Int × (List Int)))))} {r : (Option Int) × (List Int)} (h : image_Encode.f a0 a1 = some r) : Fun cfg 7 [.agg [.c (.sc (.int .u32 a0)), .c (.fs (.pair (.int .i64) (.pair (.int .i64) (.pair (.int .u8) (.sl (.int .u8))))) a1 false)]] [] (image_Encode.R r) (image_Encode.B a0 a1 r) := by
  unfold image_Encode.f at h
  refine fun_of_run cfg_ok (f := 7) (fn := Tryd.f7) Tryd.func7 rfl (by kernel_rfl) (rs := [.tmp 2, .tmp 3]) rfl (nt := 61) rfl (l := fin) (k := (.call true [] ((Option Int)) image_Check.R (fun t1 => (.br (aE 2 (.adj [.nilGro 0 (.int .u8) 5, .sel [1]] .nil)) (.call true [] ((List Int) × (Option Int)) word_Store.R (fun t3 => (.br (aE 2 (.adj [.nilGro 0 (.int .u8) 5, .sel [1]] .nil)) (.d .no (.d .no (.aj [.co 25 true [], .co 31 true []] (.d .no (.callR false [] [] ((List Int)) (fun t5 => (slices_Concat_byte_byte.R t5)) (fun t5 => (slices_Concat_byte_byte.B (List.take 3 [[(104 : Int), (120 : Int), (48 : Int), (49 : Int)], t3.1, [(IntKind.wrap .u8 ((((List.length a1) : Nat) : Int)))]]) t5)) (fun t5 => (aE 2 (.adj [.keep [7, 35, 36, 37]] (.sub ((List Int)) (fun _ => (.exit 0)) (fun t22 => ⟨[.any, .any, .any, .any, .any, .any, .any, .v (.one (.os 4 0 0 1 (List.length t22) none)), .any, .any, .any, .any, .any, .any, .any, .any, .any, .any, .any, .any, .any, .any, .any, .any, .any, .any, .any, .any, .any, .any, .any, .any, .any, .any, .any, .any, .any, .any, .any, .any, .any, .any, .any, .any, .any, .any, .any, .any, .any, .any, .any, .any, .any, .any, .any, .any, .any, .any, .any, .any, .any], [.ex false [.c (.sc (.int .u32 a0)), .c (.fs (.pair (.int .i64) (.pair (.int .i64) (.pair (.int .u8) (.sl (.int .u8))))) a1 false)] 36, .ex true [.row 4 (.int .u8) [(104 : Int), (120 : Int), (48 : Int), (49 : Int)]] 5, .ex true [.row 1 (.int .u8) [(IntKind.wrap .u8 ((((List.length a1) : Nat) : Int)))]] 5, .ex false [.row 3 (.sl (.int .u8)) [[(104 : Int), (120 : Int), (48 : Int), (49 : Int)], t3.1, [(IntKind.wrap .u8 ((((List.length a1) : Nat) : Int)))]]] 26, .gro false (.int .u8) t22 5], 0⟩) (fun t22 => (aE 2 (.adj [.sel [4]] .nil))))))))))))))))))) (to_goal (q := (True) ∧ (∃ t1 : (Option Int), (Fun cfg 14 [.agg [.c (.sc (.int .u32 a0)), .c (.fs (.pair (.int .i64) (.pair (.int .i64) (.pair (.int .u8) (.sl (.int .u8))))) a1 false)]] [] (image_Check.R t1) [] ∧ True) ∧ (True) ∧ (((!(Option.isNone t1)) = true → (True ∧ (True ∧ ((True) ∧ ((True) ∧ (True) ∧ True) ∧ (.tup [.one (.os 0 0 0 1 0 none), .one (.err t1)] : Tm) = image_Encode.R r ∧ ([.gro false (.int .u8) ([] : List Int) 5] : List Box) = image_Encode.B a0 a1 r)))) ∧ ((!(Option.isNone t1)) = false → (True) ∧ (∃ t3 : (List Int) × (Option Int), (Fun cfg 15 [.one (.sc (.int .u32 a0)), .one (.sc (.int .i64 (4 : Int)))] [] (word_Store.R t3) [] ∧ True) ∧ (True) ∧ (((!(Option.isNone t3.2)) = true → (True ∧ (True ∧ ((True) ∧ ((True) ∧ (True) ∧ True) ∧ (.tup [.one (.os 0 0 0 1 0 none), .one (.err t3.2)] : Tm) = image_Encode.R r ∧ ([.gro false (.int .u8) ([] : List Int) 5] : List Box) = image_Encode.B a0 a1 r)))) ∧ ((!(Option.isNone t3.2)) = false → (0 < 4) ∧ (True) ∧ (True) ∧ (True) ∧ ((((0 = 0 ∧ 4 = 4) ∧ True) ∧ ((0 = 0 ∧ 1 = 1) ∧ True) ∧ True) ∧ (∃ t5 : (List Int), ((0 + 3 ≤ 3) ∧ Fun cfg 16 [.one (.fs (.sl (.int .u8)) (List.take 3 [[(104 : Int), (120 : Int), (48 : Int), (49 : Int)], t3.1, [(IntKind.wrap .u8 ((((List.length a1) : Nat) : Int)))]]) false)] [] (slices_Concat_byte_byte.R t5) (slices_Concat_byte_byte.B (List.take 3 [[(104 : Int), (120 : Int), (48 : Int), (49 : Int)], t3.1, [(IntKind.wrap .u8 ((((List.length a1) : Nat) : Int)))]]) t5) ∧ True) ∧ (True ∧ (True) ∧ (True) ∧ (True ∧ (((True) ∧ True) ∧ (∃ t22 : (List Int), Trip cfg (.loop (cpath (Tryd.f7.body.getD .skip) [1, 1, 1, 1, 1, 0, 1, 0, 0])) ⟨[.any, .any, .any, .any, .any, .any, .any, .v (.one (.os 4 0 0 1 (List.length t5) none)), .any, .any, .any, .any, .any, .any, .any, .any, .any, .any, .any, .any, .any, .any, .any, .any, .any, .any, .any, .any, .any, .any, .any, .any, .any, .any, .any, .v (.one (.fs (.pair (.int .i64) (.pair (.int .i64) (.pair (.int .u8) (.sl (.int .u8))))) a1 false)), .v (.one (.sc (.int .i64 (((List.length a1) : Nat) : Int)))), .v (.one (.sc (.int .i64 (0 : Int)))), .any, .any, .any, .any, .any, .any, .any, .any, .any, .any, .any, .any, .any, .any, .any, .any, .any, .any, .any, .any, .any, .any, .any], [.ex false [.c (.sc (.int .u32 a0)), .c (.fs (.pair (.int .i64) (.pair (.int .i64) (.pair (.int .u8) (.sl (.int .u8))))) a1 false)] 36, .ex true [.row 4 (.int .u8) [(104 : Int), (120 : Int), (48 : Int), (49 : Int)]] 5, .ex true [.row 1 (.int .u8) [(IntKind.wrap .u8 ((((List.length a1) : Nat) : Int)))]] 5, .ex false [.row 3 (.sl (.int .u8)) [[(104 : Int), (120 : Int), (48 : Int), (49 : Int)], t3.1, [(IntKind.wrap .u8 ((((List.length a1) : Nat) : Int)))]]] 26, .gro false (.int .u8) t5 5], 0⟩ (fun e s => e = (.exit 0) ∧ s = ⟨[.any, .any, .any, .any, .any, .any, .any, .v (.one (.os 4 0 0 1 (List.length t22) none)), .any, .any, .any, .any, .any, .any, .any, .any, .any, .any, .any, .any, .any, .any, .any, .any, .any, .any, .any, .any, .any, .any, .any, .any, .any, .any, .any, .any, .any, .any, .any, .any, .any, .any, .any, .any, .any, .any, .any, .any, .any, .any, .any, .any, .any, .any, .any, .any, .any, .any, .any, .any, .any], [.ex false [.c (.sc (.int .u32 a0)), .c (.fs (.pair (.int .i64) (.pair (.int .i64) (.pair (.int .u8) (.sl (.int .u8))))) a1 false)] 36, .ex true [.row 4 (.int .u8) [(104 : Int), (120 : Int), (48 : Int), (49 : Int)]] 5, .ex true [.row 1 (.int .u8) [(IntKind.wrap .u8 ((((List.length a1) : Nat) : Int)))]] 5, .ex false [.row 3 (.sl (.int .u8)) [[(104 : Int), (120 : Int), (48 : Int), (49 : Int)], t3.1, [(IntKind.wrap .u8 ((((List.length a1) : Nat) : Int)))]]] 26, .gro false (.int .u8) t22 5], 0⟩) ∧ (True ∧ (True ∧ ((True) ∧ ((True) ∧ True) ∧ (.tup [.one (.os 0 0 0 1 (List.length t22) none), .one (.err none)] : Tm) = image_Encode.R r ∧ ([.gro false (.int .u8) t22 5] : List Box) = image_Encode.B a0 a1 r)))))))))))))))) (by kernel_rfl) ?_)
  refine ⟨trivial, ?_⟩
  obtain ⟨t1, ht1, h⟩ := of_bind h
  refine ⟨t1, ⟨image_Check.fun_ ht1, trivial⟩, ?_⟩
  refine ⟨trivial, ?_⟩
  refine ⟨fun b2 => ?_, fun b2 => ?_⟩
  · rw [if_pos (none_f (not_t b2))] at h
    refine ⟨trivial, trivial, ?_⟩
    obtain rfl := Option.some.inj h
    exact ⟨trivial, ⟨trivial, trivial, trivial⟩, rfl, rfl⟩
  · rw [if_neg (not_not_intro (none_t (not_f b2)))] at h
    refine ⟨trivial, ?_⟩
    obtain ⟨t3, ht3, h⟩ := of_bind h
    refine ⟨t3, ⟨word_Store.fun_ ht3, trivial⟩, ?_⟩
    refine ⟨trivial, ?_⟩
    refine ⟨fun b4 => ?_, fun b4 => ?_⟩
    · rw [if_pos (none_f (not_t b4))] at h
      refine ⟨trivial, trivial, ?_⟩
      obtain rfl := Option.some.inj h
      exact ⟨trivial, ⟨trivial, trivial, trivial⟩, rfl, rfl⟩
    · rw [if_neg (not_not_intro (none_t (not_f b4)))] at h
      refine ⟨(by decide), ?_⟩
      refine ⟨trivial, trivial, trivial, ?_⟩
      refine ⟨⟨⟨⟨rfl, rfl⟩, trivial⟩, ⟨⟨rfl, rfl⟩, trivial⟩, trivial⟩, ?_⟩
      obtain ⟨t5, ht5, h⟩ := of_bind h
      refine ⟨t5, ⟨(by decide), slices_Concat_byte_byte.fun_ ht5, trivial⟩, ?_⟩
      refine ⟨trivial, trivial, trivial, trivial, ?_⟩
      obtain ⟨t22, ht22, h⟩ := of_bind h
      refine ⟨⟨trivial, trivial⟩, t22, Trip.loop FUEL (image_Encode.l0_ok t3 a0 a1 FUEL t5 (0 : Int) t22 ht22), ?_⟩
      refine ⟨trivial, trivial, ?_⟩
      obtain rfl := Option.some.inj h
      exact ⟨trivial, ⟨trivial, trivial⟩, rfl, rfl⟩
/-! slices.Clone[[]byte,byte] -/
def slices_Clone_byte_byte.f (a0 : Nat) (a1 : Nat) (a2 : (List Int)) : Option (List Int) :=
  if a1 = 0 then same (
    some ([] : List Int)
    ) (
    if a0 + a1 ≤ (List.length a2) ∧ 0 = 0 ∧ 0 = 0 ∧ ((0 + (List.length (List.take a1 (List.drop a0 a2)))) * 1 ≤ 140737488355328 ∧ 0 + (List.length (List.take a1 (List.drop a0 a2))) ≤ 9223372036854775807) then
      some (([] : List Int) ++ (List.take a1 (List.drop a0 a2)))
    else none
    )
  else
    if a0 + a1 ≤ (List.length a2) ∧ 0 = 0 ∧ 0 = 0 ∧ ((0 + (List.length (List.take a1 (List.drop a0 a2)))) * 1 ≤ 140737488355328 ∧ 0 + (List.length (List.take a1 (List.drop a0 a2))) ≤ 9223372036854775807) then
      some (([] : List Int) ++ (List.take a1 (List.drop a0 a2)))
    else none
def slices_Clone_byte_byte.R (r : (List Int)) : Tm := .v (.one (.fs (.int .u8) r false))
def slices_Clone_byte_byte.B (a0 : Nat) (a1 : Nat) (a2 : (List Int)) (r : (List Int)) : List Box := [.fix false (.int .u8) a2 5]
theorem slices_Clone_byte_byte.fun_ {a0 : Nat} {a1 : Nat} {a2 : (List Int)} {r : (List Int)} (h : slices_Clone_byte_byte.f a0 a1 a2 = some r) : Fun cfg 31 [.one (.os 0 0 a0 1 a1 none)] [.fix false (.int .u8) a2 5] (slices_Clone_byte_byte.R r) (slices_Clone_byte_byte.B a0 a1 a2 r) := by
  unfold slices_Clone_byte_byte.f at h
  refine fun_of_run cfg_ok (f := 31) (fn := Tryd.f31) Tryd.func31 rfl (by kernel_rfl) (rs := [.tmp 2]) rfl (nt := 8) rfl (l := fin) (k := (.nq (.one true (aE 2 (.adj [.co 0 true [(.int .u8)]] .nil))) (.one false (.d .no (.d (.b false) (.adj [] (.adj [.co 0 true [], .drop 1] .nil))))))) (to_goal (q := ((a1 = 0 → (true = true ∧ (True ∧ (True ∧ ((True) ∧ ((True) ∧ True) ∧ (.v (.one (.fs (.int .u8) ([] : List Int) false)) : Tm) = slices_Clone_byte_byte.R r ∧ ([.fix false (.int .u8) a2 5] : List Box) = slices_Clone_byte_byte.B a0 a1 a2 r))))) ∧ (false = false ∧ (a0 + a1 ≤ (List.length a2) ∧ 0 = 0 ∧ 0 = 0 ∧ ((0 + (List.length (List.take a1 (List.drop a0 a2)))) * 1 ≤ 140737488355328 ∧ 0 + (List.length (List.take a1 (List.drop a0 a2))) ≤ 9223372036854775807)) ∧ (True ∧ ((True) ∧ ((((0 = 0 ∧ (List.length (([] : List Int) ++ (List.take a1 (List.drop a0 a2)))) = (List.length (([] : List Int) ++ (List.take a1 (List.drop a0 a2)))))) ∧ True) ∧ (True) ∧ True) ∧ (.v (.one (.fs (.int .u8) (([] : List Int) ++ (List.take a1 (List.drop a0 a2))) false)) : Tm) = slices_Clone_byte_byte.R r ∧ ([.fix false (.int .u8) a2 5] : List Box) = slices_Clone_byte_byte.B a0 a1 a2 r))))) (by kernel_rfl) ?_)
  refine ⟨fun g1 => ?_, ?_⟩
  · replace h := same_a g1 h
    refine ⟨rfl, trivial, trivial, ?_⟩
    obtain rfl := Option.some.inj h
    exact ⟨trivial, ⟨trivial, trivial⟩, rfl, rfl⟩
  · replace h := same_b h
    refine ⟨rfl, ?_⟩
    obtain ⟨g2, h⟩ := of_guard h
    refine ⟨g2, ?_⟩
    refine ⟨trivial, ?_⟩
    obtain rfl := Option.some.inj h
    exact ⟨trivial, ⟨⟨⟨rfl, rfl⟩, trivial⟩, trivial, trivial⟩, rfl, rfl⟩
/-! (*halter/image.reader).take -/
def image_reader_take.f (a0 : Int) (a1 : Nat) (a2 : Nat) (a3 : Bool) (a4 : (List Int)) : Option ((List Int) × Nat × Nat × Bool) :=
  if a3 = true then
    if 0 ≤ a0 ∧ a0 = a0 ∧ (1 : Int) * a0 ≤ 281474976710656 ∧ a0 ≤ 9223372036854775807 then
      if (0 + (Int.toNat a0) ≤ (Int.toNat a0)) ∧ True then
        some ((List.take (Int.toNat a0) (List.replicate (Int.toNat a0) (0 : Int))), a1, a2, true)
      else none
    else none
  else
    if a0 > ((a2 : Nat) : Int) then
      if 0 ≤ a0 ∧ a0 = a0 ∧ (1 : Int) * a0 ≤ 281474976710656 ∧ a0 ≤ 9223372036854775807 then
        if (0 + (Int.toNat a0) ≤ (Int.toNat a0)) ∧ True then
          some ((List.take (Int.toNat a0) (List.replicate (Int.toNat a0) (0 : Int))), a1, a2, true)
        else none
      else none
    else
      if ((0 ≤ a0 ∧ a0 ≤ ((a2 : Nat) : Int))) ∧ (True) then
        (slices_Clone_byte_byte.f a1 (Int.toNat a0) a4).bind fun t7 =>
        if (True) ∧ ((0 ≤ a0 ∧ a0 ≤ ((a2 : Nat) : Int))) then
          some (t7, (a1 + (Int.toNat a0)), (a2 - (Int.toNat a0)), a3)
        else none
      else none
def image_reader_take.R (r : (List Int) × Nat × Nat × Bool) : Tm := .v (.one (.fs (.int .u8) r.1 false))
def image_reader_take.B (a0 : Int) (a1 : Nat) (a2 : Nat) (a3 : Bool) (a4 : (List Int)) (r : (List Int) × Nat × Nat × Bool) : List Box := [.ex false [.c (.os 1 0 r.2.1 1 r.2.2.1 none), .c (.sc (.bool r.2.2.2))] 59, .fix false (.int .u8) a4 5]
theorem image_reader_take.fun_ {a0 : Int} {a1 : Nat} {a2 : Nat} {a3 : Bool} {a4 : (List Int)} {r : (List Int) × Nat × Nat × Bool} (h : image_reader_take.f a0 a1 a2 a3 a4 = some r) : Fun cfg 20 [.one (.ptr 0 ⟨0, 0, 0, 0⟩), .one (.sc (.int .i64 a0))] [.ex false [.c (.os 1 0 a1 1 a2 none), .c (.sc (.bool a3))] 59, .fix false (.int .u8) a4 5] (image_reader_take.R r) (image_reader_take.B a0 a1 a2 a3 a4 r) := by
  unfold image_reader_take.f at h
  refine fun_of_run cfg_ok (f := 20) (fn := Tryd.f20) Tryd.func20 rfl (by kernel_rfl) (rs := [.tmp 4]) rfl (nt := 41) rfl (l := fin) (k := (.br (oT 8 (.d .no (.adj [] (.adj [.co 0 false [], .drop 2] .nil)))) (oF 7 (.br (.d .no (.adj [] (.adj [.co 0 false [], .drop 2] .nil))) (.callR true [] [1] ((List Int)) (fun t7 => (slices_Clone_byte_byte.R t7)) (fun t7 => (slices_Clone_byte_byte.B a1 (Int.toNat a0) a4 t7)) (fun t7 => (aE 4 .nil))))))) (to_goal (q := (True) ∧ ((a3 = false → (a3 = false ∧ (a3 = false ∧ (a3 = false ∧ (a3 = false ∧ (True) ∧ (a3 = false ∧ (True) ∧ (a3 = false ∧ (True) ∧ (a3 = false ∧ (((decide (a0 > ((a2 : Nat) : Int))) = true → (True) ∧ (0 ≤ a0 ∧ a0 = a0 ∧ (1 : Int) * a0 ≤ 281474976710656 ∧ a0 ≤ 9223372036854775807) ∧ (True ∧ ((True) ∧ (((0 + (Int.toNat a0) ≤ (Int.toNat a0)) ∧ True) ∧ (True) ∧ True) ∧ (.v (.one (.fs (.int .u8) (List.take (Int.toNat a0) (List.replicate (Int.toNat a0) (0 : Int))) false)) : Tm) = image_reader_take.R r ∧ ([.ex false [.c (.os 1 0 a1 1 a2 none), .c (.sc (.bool true))] 59, .fix false (.int .u8) a4 5] : List Box) = image_reader_take.B a0 a1 a2 a3 a4 r))) ∧ ((decide (a0 > ((a2 : Nat) : Int))) = false → (True) ∧ (((0 ≤ a0 ∧ a0 ≤ ((a2 : Nat) : Int))) ∧ (True)) ∧ (∃ t7 : (List Int), (Fun cfg 31 [.one (.os 0 0 a1 1 (Int.toNat a0) none)] [.fix false (.int .u8) a4 5] (slices_Clone_byte_byte.R t7) (slices_Clone_byte_byte.B a1 (Int.toNat a0) a4 t7) ∧ True) ∧ (True ∧ (True) ∧ ((True) ∧ ((0 ≤ a0 ∧ a0 ≤ ((a2 : Nat) : Int)))) ∧ (True) ∧ (True ∧ (True ∧ ((True) ∧ (True) ∧ (.v (.one (.fs (.int .u8) t7 false)) : Tm) = image_reader_take.R r ∧ ([.ex false [.c (.os 1 0 (a1 + (Int.toNat a0)) 1 (a2 - (Int.toNat a0)) none), .c (.sc (.bool a3))] 59, .fix false (.int .u8) a4 5] : List Box) = image_reader_take.B a0 a1 a2 a3 a4 r))))))))))))))) ∧ (a3 = true → (a3 = true ∧ (a3 = true ∧ (a3 = true ∧ (a3 = true ∧ (a3 = true ∧ (a3 = true ∧ (a3 = true ∧ (true = true ∧ (True) ∧ (0 ≤ a0 ∧ a0 = a0 ∧ (1 : Int) * a0 ≤ 281474976710656 ∧ a0 ≤ 9223372036854775807) ∧ (True ∧ ((True) ∧ (((0 + (Int.toNat a0) ≤ (Int.toNat a0)) ∧ True) ∧ (True) ∧ True) ∧ (.v (.one (.fs (.int .u8) (List.take (Int.toNat a0) (List.replicate (Int.toNat a0) (0 : Int))) false)) : Tm) = image_reader_take.R r ∧ ([.ex false [.c (.os 1 0 a1 1 a2 none), .c (.sc (.bool true))] 59, .fix false (.int .u8) a4 5] : List Box) = image_reader_take.B a0 a1 a2 a3 a4 r))))))))))))) (by kernel_rfl) ?_)
  refine ⟨trivial, ?_⟩
  refine ⟨fun b1 => ?_, fun b1 => ?_⟩
  · rw [if_neg (ff b1)] at h
    refine ⟨b1, ?_⟩
    refine ⟨b1, ?_⟩
    refine ⟨b1, ?_⟩
    refine ⟨b1, ?_⟩
    refine ⟨trivial, ?_⟩
    refine ⟨b1, ?_⟩
    refine ⟨trivial, ?_⟩
    refine ⟨b1, ?_⟩
    refine ⟨trivial, ?_⟩
    refine ⟨b1, ?_⟩
    refine ⟨fun b4 => ?_, fun b4 => ?_⟩
    · rw [if_pos (of_decide_eq_true b4)] at h
      refine ⟨trivial, ?_⟩
      obtain ⟨g6, h⟩ := of_guard h
      refine ⟨g6, ?_⟩
      refine ⟨trivial, ?_⟩
      obtain ⟨g5, h⟩ := of_guard h
      obtain rfl := Option.some.inj h
      exact ⟨trivial, ⟨g5, trivial, trivial⟩, rfl, rfl⟩
    · rw [if_neg (of_decide_eq_false b4)] at h
      refine ⟨trivial, ?_⟩
      obtain ⟨g9, h⟩ := of_guard h
      refine ⟨g9, ?_⟩
      obtain ⟨t7, ht7, h⟩ := of_bind h
      refine ⟨t7, ⟨slices_Clone_byte_byte.fun_ ht7, trivial⟩, ?_⟩
      refine ⟨trivial, trivial, ?_⟩
      obtain ⟨g8, h⟩ := of_guard h
      refine ⟨g8, ?_⟩
      refine ⟨trivial, trivial, trivial, ?_⟩
      obtain rfl := Option.some.inj h
      exact ⟨trivial, trivial, rfl, rfl⟩
  · rw [if_pos b1] at h
    refine ⟨b1, ?_⟩
    refine ⟨b1, ?_⟩
    refine ⟨b1, ?_⟩
    refine ⟨b1, ?_⟩
    refine ⟨b1, ?_⟩
    refine ⟨b1, ?_⟩
    refine ⟨b1, ?_⟩
    refine ⟨rfl, trivial, ?_⟩
    obtain ⟨g3, h⟩ := of_guard h
    refine ⟨g3, ?_⟩
    refine ⟨trivial, ?_⟩
    obtain ⟨g2, h⟩ := of_guard h
    obtain rfl := Option.some.inj h
    exact ⟨trivial, ⟨g2, trivial, trivial⟩, rfl, rfl⟩
/-! (*halter/image.reader).number -/
def image_reader_number.l0 (t1 : (List Int) × Nat × Nat × Bool) (a4 : (List Int)) : Nat → Int → Int → Option Int
  | 0, _, _ => none
  | n + 1, x2, x3 =>
    if x3 < (((List.length t1.1) : Nat) : Int) then
      if 0 ≤ x3 ∧ x3 < (((List.length t1.1) : Nat) : Int) then
        if 0 ≤ (IntKind.wrap .i64 ((8 : Int) * x3)) then
          image_reader_number.l0 t1 a4 n (bits .or .i64 x2 (shl .i64 (IntKind.wrap .i64 ((List.getD t1.1 (Int.toNat x3) (0 : Int)))) (IntKind.wrap .i64 ((8 : Int) * x3)))) (IntKind.wrap .i64 (x3 + (1 : Int)))
        else none
      else none
    else
      some x2
def image_reader_number.l0_S (t1 : (List Int) × Nat × Nat × Bool) (a4 : (List Int)) (x2 : Int) (x3 : Int) : St := ⟨[.any, .any, .any, .any, .any, .v (.one (.sc (.int .i64 x2))), .any, .any, .any, .any, .v (.one (.fs (.int .u8) t1.1 false)), .v (.one (.sc (.int .i64 (((List.length t1.1) : Nat) : Int)))), .v (.one (.sc (.int .i64 x3))), .any, .any, .any, .any, .any, .any, .any, .any, .any, .any, .any, .any, .any], [.ex false [.c (.os 1 0 t1.2.1 1 t1.2.2.1 none), .c (.sc (.bool t1.2.2.2))] 59, .fix false (.int .u8) a4 5], 2⟩
def image_reader_number.l0_Q (t1 : (List Int) × Nat × Nat × Bool) (a4 : (List Int)) (t : Int) : Exit → St → Prop := fun e s => e = (.exit 0) ∧ s = ⟨[.any, .any, .any, .any, .any, .v (.one (.sc (.int .i64 t))), .any, .any, .any, .any, .any, .any, .any, .any, .any, .any, .any, .any, .any, .any, .any, .any, .any, .any, .any, .any], [.ex false [.c (.os 1 0 t1.2.1 1 t1.2.2.1 none), .c (.sc (.bool t1.2.2.2))] 59, .fix false (.int .u8) a4 5], 2⟩
theorem image_reader_number.l0_ok (t1 : (List Int) × Nat × Nat × Bool) (a4 : (List Int)) : ∀ (n : Nat) (x2 : Int) (x3 : Int) (r : Int), image_reader_number.l0 t1 a4 n x2 x3 = some r → TripN cfg (cpath (Tryd.f21.body.getD .skip) [1, 1, 0, 1, 0, 0]) n (image_reader_number.l0_S t1 a4 x2 x3) (image_reader_number.l0_Q t1 a4 r) := by
  intro n
  induction n with
  | zero => intro x2 x3 r h; cases h
  | succ n ih =>
    intro x2 x3 r h
    rw [image_reader_number.l0] at h
    refine TripN.of_run cfg_ok (k := (.br (aE 5 (.adj [.keep [5, 10, 11, 12], .drop 2] .nil)) (.adj [.keep [5], .drop 2] .nil))) (to_goal (q := (True) ∧ (((decide (x3 < (((List.length t1.1) : Nat) : Int))) = true → (True ∧ (True ∧ (True ∧ (0 ≤ x3 ∧ x3 < (((List.length t1.1) : Nat) : Int)) ∧ (True) ∧ (True ∧ (True) ∧ (True) ∧ (0 ≤ (IntKind.wrap .i64 ((8 : Int) * x3))) ∧ (True) ∧ (True ∧ (True) ∧ (((True) ∧ (True) ∧ True) ∧ TripN cfg (cpath (Tryd.f21.body.getD .skip) [1, 1, 0, 1, 0, 0]) n (image_reader_number.l0_S t1 a4 (bits .or .i64 x2 (shl .i64 (IntKind.wrap .i64 ((List.getD t1.1 (Int.toNat x3) (0 : Int)))) (IntKind.wrap .i64 ((8 : Int) * x3)))) (IntKind.wrap .i64 (x3 + (1 : Int)))) (image_reader_number.l0_Q t1 a4 r)))))))) ∧ ((decide (x3 < (((List.length t1.1) : Nat) : Int))) = false → (((True) ∧ (True) ∧ True) ∧ image_reader_number.l0_Q t1 a4 r (.exit 0) ⟨[.any, .any, .any, .any, .any, .v (.one (.sc (.int .i64 x2))), .any, .any, .any, .any, .any, .any, .any, .any, .any, .any, .any, .any, .any, .any, .any, .any, .any, .any, .any, .any], [.ex false [.c (.os 1 0 t1.2.1 1 (p2 t1) none), .c (.sc (.bool (z3 t1)))] 59, .fix false (.int .u8) a4 5], 2⟩)))) (by kernel_rfl) ?_)
    refine ⟨trivial, ?_⟩
    refine ⟨fun b9 => ?_, fun b9 => ?_⟩
    · rw [if_pos (of_decide_eq_true b9)] at h
      refine ⟨trivial, trivial, trivial, ?_⟩
      obtain ⟨g11, h⟩ := of_guard h
      refine ⟨g11, ?_⟩
      refine ⟨trivial, trivial, trivial, trivial, ?_⟩
      obtain ⟨g10, h⟩ := of_guard h
      refine ⟨g10, ?_⟩
      refine ⟨trivial, trivial, trivial, ?_⟩
      exact ⟨⟨trivial, trivial, trivial⟩, ih (bits .or .i64 x2 (shl .i64 (IntKind.wrap .i64 ((List.getD t1.1 (Int.toNat x3) (0 : Int)))) (IntKind.wrap .i64 ((8 : Int) * x3)))) (IntKind.wrap .i64 (x3 + (1 : Int))) r h⟩
    · rw [if_neg (of_decide_eq_false b9)] at h
      obtain rfl := Option.some.inj h
      exact ⟨⟨trivial, trivial, trivial⟩, rfl, rfl⟩
def image_reader_number.f (a0 : Int) (a1 : Nat) (a2 : Nat) (a3 : Bool) (a4 : (List Int)) : Option (Int × Nat × Nat × Bool) :=
  (image_reader_take.f a0 a1 a2 a3 a4).bind fun t1 =>
  (image_reader_number.l0 t1 a4 FUEL (0 : Int) (0 : Int)).bind fun t8 =>
  some (t8, t1.2.1, t1.2.2.1, t1.2.2.2)
def image_reader_number.R (r : Int × Nat × Nat × Bool) : Tm := .v (.one (.sc (.int .i64 r.1)))
def image_reader_number.B (a0 : Int) (a1 : Nat) (a2 : Nat) (a3 : Bool) (a4 : (List Int)) (r : Int × Nat × Nat × Bool) : List Box := [.ex false [.c (.os 1 0 r.2.1 1 r.2.2.1 none), .c (.sc (.bool r.2.2.2))] 59, .fix false (.int .u8) a4 5]
theorem image_reader_number.fun_ {a0 : Int} {a1 : Nat} {a2 : Nat} {a3 : Bool} {a4 : (List Int)} {r : Int × Nat × Nat × Bool} (h : image_reader_number.f a0 a1 a2 a3 a4 = some r) : Fun cfg 21 [.one (.ptr 0 ⟨0, 0, 0, 0⟩), .one (.sc (.int .i64 a0))] [.ex false [.c (.os 1 0 a1 1 a2 none), .c (.sc (.bool a3))] 59, .fix false (.int .u8) a4 5] (image_reader_number.R r) (image_reader_number.B a0 a1 a2 a3 a4 r) := by
  unfold image_reader_number.f at h
  refine fun_of_run cfg_ok (f := 21) (fn := Tryd.f21) Tryd.func21 rfl (by kernel_rfl) (rs := [.tmp 4]) rfl (nt := 26) rfl (l := fin) (k := (.callR true [] [0, 1] ((List Int) × Nat × Nat × Bool) (fun t1 => (image_reader_take.R t1)) (fun t1 => (image_reader_take.B a0 a1 a2 a3 a4 t1)) (fun t1 => (.adj [] (.adj [.keep [5, 10, 11, 12]] (.sub (Int) (fun _ => (.exit 0)) (fun t8 => ⟨[.any, .any, .any, .any, .any, .v (.one (.sc (.int .i64 t8))), .any, .any, .any, .any, .any, .any, .any, .any, .any, .any, .any, .any, .any, .any, .any, .any, .any, .any, .any, .any], [.ex false [.c (.os 1 0 t1.2.1 1 (p2 t1) none), .c (.sc (.bool (z3 t1)))] 59, .fix false (.int .u8) a4 5], 2⟩) (fun t8 => (aE 3 .nil)))))))) (to_goal (q := (∃ t1 : (List Int) × Nat × Nat × Bool, (Fun cfg 20 [.one (.ptr 0 ⟨0, 0, 0, 0⟩), .one (.sc (.int .i64 a0))] [.ex false [.c (.os 1 0 a1 1 a2 none), .c (.sc (.bool a3))] 59, .fix false (.int .u8) a4 5] (image_reader_take.R t1) (image_reader_take.B a0 a1 a2 a3 a4 t1) ∧ True) ∧ (True) ∧ (True ∧ (((True) ∧ True) ∧ (∃ t8 : Int, Trip cfg (.loop (cpath (Tryd.f21.body.getD .skip) [1, 1, 0, 1, 0, 0])) ⟨[.any, .any, .any, .any, .any, .v (.one (.sc (.int .i64 (0 : Int)))), .any, .any, .any, .any, .v (.one (.fs (.int .u8) t1.1 false)), .v (.one (.sc (.int .i64 (((List.length t1.1) : Nat) : Int)))), .v (.one (.sc (.int .i64 (0 : Int)))), .any, .any, .any, .any, .any, .any, .any, .any, .any, .any, .any, .any, .any], [.ex false [.c (.os 1 0 t1.2.1 1 (p2 t1) none), .c (.sc (.bool (z3 t1)))] 59, .fix false (.int .u8) a4 5], 2⟩ (fun e s => e = (.exit 0) ∧ s = ⟨[.any, .any, .any, .any, .any, .v (.one (.sc (.int .i64 t8))), .any, .any, .any, .any, .any, .any, .any, .any, .any, .any, .any, .any, .any, .any, .any, .any, .any, .any, .any, .any], [.ex false [.c (.os 1 0 t1.2.1 1 (p2 t1) none), .c (.sc (.bool (z3 t1)))] 59, .fix false (.int .u8) a4 5], 2⟩) ∧ (True ∧ (True ∧ ((True) ∧ (True) ∧ (.v (.one (.sc (.int .i64 t8))) : Tm) = image_reader_number.R r ∧ ([.ex false [.c (.os 1 0 t1.2.1 1 (p2 t1) none), .c (.sc (.bool (z3 t1)))] 59, .fix false (.int .u8) a4 5] : List Box) = image_reader_number.B a0 a1 a2 a3 a4 r)))))))) (by kernel_rfl) ?_)
  obtain ⟨t1, ht1, h⟩ := of_bind h
  refine ⟨t1, ⟨image_reader_take.fun_ ht1, trivial⟩, ?_⟩
  refine ⟨trivial, trivial, ?_⟩
  obtain ⟨t8, ht8, h⟩ := of_bind h
  refine ⟨⟨trivial, trivial⟩, t8, Trip.loop FUEL (image_reader_number.l0_ok t1 a4 FUEL (0 : Int) (0 : Int) t8 ht8), ?_⟩
  refine ⟨trivial, trivial, ?_⟩
  obtain rfl := Option.some.inj h
  exact ⟨trivial, trivial, rfl, rfl⟩
/-! (*halter/image.reader).seg -/
def image_reader_seg.f (a0 : Nat) (a1 : Nat) (a2 : Bool) (a3 : (List Int)) : Option (Int × Int × Int × (List Int) × Nat × Nat × Bool) :=
  (image_reader_number.f (2 : Int) a0 a1 a2 a3).bind fun t1 =>
  (image_reader_number.f (2 : Int) t1.2.1 t1.2.2.1 t1.2.2.2 a3).bind fun t2 =>
  (image_reader_number.f (1 : Int) t2.2.1 t2.2.2.1 t2.2.2.2 a3).bind fun t3 =>
  (image_reader_number.f (2 : Int) t3.2.1 t3.2.2.1 t3.2.2.2 a3).bind fun t4 =>
  (image_reader_take.f t4.1 t4.2.1 t4.2.2.1 t4.2.2.2 a3).bind fun t5 =>
  some (t1.1, t2.1, (IntKind.wrap .u8 (t3.1)), t5.1, t5.2.1, t5.2.2.1, t5.2.2.2)
def image_reader_seg.R (r : Int × Int × Int × (List Int) × Nat × Nat × Bool) : Tm := .v (.agg [.c (.sc (.int .i64 r.1)), .c (.sc (.int .i64 r.2.1)), .c (.sc (.int .u8 r.2.2.1)), .c (.fs (.int .u8) r.2.2.2.1 false)])
def image_reader_seg.B (a0 : Nat) (a1 : Nat) (a2 : Bool) (a3 : (List Int)) (r : Int × Int × Int × (List Int) × Nat × Nat × Bool) : List Box := [.ex false [.c (.os 1 0 r.2.2.2.2.1 1 r.2.2.2.2.2.1 none), .c (.sc (.bool r.2.2.2.2.2.2))] 59, .fix false (.int .u8) a3 5]
theorem image_reader_seg.fun_ {a0 : Nat} {a1 : Nat} {a2 : Bool} {a3 : (List Int)} {r : Int × Int × Int × (List Int) × Nat × Nat × Bool} (h : image_reader_seg.f a0 a1 a2 a3 = some r) : Fun cfg 22 [.one (.ptr 0 ⟨0, 0, 0, 0⟩)] [.ex false [.c (.os 1 0 a0 1 a1 none), .c (.sc (.bool a2))] 59, .fix false (.int .u8) a3 5] (image_reader_seg.R r) (image_reader_seg.B a0 a1 a2 a3 r) := by
  unfold image_reader_seg.f at h
  refine fun_of_run cfg_ok (f := 22) (fn := Tryd.f22) Tryd.func22 rfl (by kernel_rfl) (rs := [.cell 2 50]) rfl (nt := 18) rfl (l := fin) (k := (.callR true [] [0, 1] (Int × Nat × Nat × Bool) (fun t1 => (image_reader_number.R t1)) (fun t1 => (image_reader_number.B (2 : Int) a0 a1 a2 a3 t1)) (fun t1 => (.callR true [] [0, 1] (Int × Nat × Nat × Bool) (fun t2 => (image_reader_number.R t2)) (fun t2 => (image_reader_number.B (2 : Int) t1.2.1 (p2 t1) (z3 t1) a3 t2)) (fun t2 => (.callR true [] [0, 1] (Int × Nat × Nat × Bool) (fun t3 => (image_reader_number.R t3)) (fun t3 => (image_reader_number.B (1 : Int) t2.2.1 (p2 t2) (z3 t2) a3 t3)) (fun t3 => (.callR true [] [0, 1] (Int × Nat × Nat × Bool) (fun t4 => (image_reader_number.R t4)) (fun t4 => (image_reader_number.B (2 : Int) t3.2.1 (p2 t3) (z3 t3) a3 t4)) (fun t4 => (.callR true [] [0, 1] ((List Int) × Nat × Nat × Bool) (fun t5 => (image_reader_take.R t5)) (fun t5 => (image_reader_take.B t4.1 t4.2.1 (p2 t4) (z3 t4) a3 t5)) (fun t5 => (aE 2 (.adj [.drop 2] .nil))))))))))))) (to_goal (q := (∃ t1 : Int × Nat × Nat × Bool, (Fun cfg 21 [.one (.ptr 0 ⟨0, 0, 0, 0⟩), .one (.sc (.int .i64 (2 : Int)))] [.ex false [.c (.os 1 0 a0 1 a1 none), .c (.sc (.bool a2))] 59, .fix false (.int .u8) a3 5] (image_reader_number.R t1) (image_reader_number.B (2 : Int) a0 a1 a2 a3 t1) ∧ True) ∧ (∃ t2 : Int × Nat × Nat × Bool, (Fun cfg 21 [.one (.ptr 0 ⟨0, 0, 0, 0⟩), .one (.sc (.int .i64 (2 : Int)))] [.ex false [.c (.os 1 0 t1.2.1 1 (p2 t1) none), .c (.sc (.bool (z3 t1)))] 59, .fix false (.int .u8) a3 5] (image_reader_number.R t2) (image_reader_number.B (2 : Int) t1.2.1 (p2 t1) (z3 t1) a3 t2) ∧ True) ∧ (∃ t3 : Int × Nat × Nat × Bool, (Fun cfg 21 [.one (.ptr 0 ⟨0, 0, 0, 0⟩), .one (.sc (.int .i64 (1 : Int)))] [.ex false [.c (.os 1 0 t2.2.1 1 (p2 t2) none), .c (.sc (.bool (z3 t2)))] 59, .fix false (.int .u8) a3 5] (image_reader_number.R t3) (image_reader_number.B (1 : Int) t2.2.1 (p2 t2) (z3 t2) a3 t3) ∧ True) ∧ (True) ∧ (True) ∧ (∃ t4 : Int × Nat × Nat × Bool, (Fun cfg 21 [.one (.ptr 0 ⟨0, 0, 0, 0⟩), .one (.sc (.int .i64 (2 : Int)))] [.ex false [.c (.os 1 0 t3.2.1 1 (p2 t3) none), .c (.sc (.bool (z3 t3)))] 59, .fix false (.int .u8) a3 5] (image_reader_number.R t4) (image_reader_number.B (2 : Int) t3.2.1 (p2 t3) (z3 t3) a3 t4) ∧ True) ∧ (∃ t5 : (List Int) × Nat × Nat × Bool, (Fun cfg 20 [.one (.ptr 0 ⟨0, 0, 0, 0⟩), .one (.sc (.int .i64 t4.1))] [.ex false [.c (.os 1 0 t4.2.1 1 (p2 t4) none), .c (.sc (.bool (z3 t4)))] 59, .fix false (.int .u8) a3 5] (image_reader_take.R t5) (image_reader_take.B t4.1 t4.2.1 (p2 t4) (z3 t4) a3 t5) ∧ True) ∧ (True) ∧ (True ∧ (True) ∧ (True) ∧ (True ∧ (((True) ∧ True) ∧ ((True) ∧ True) ∧ (.v (.agg [.c (.sc (.int .i64 t1.1)), .c (.sc (.int .i64 t2.1)), .c (.sc (.int .u8 (IntKind.wrap .u8 (t3.1)))), .c (.fs (.int .u8) t5.1 false)]) : Tm) = image_reader_seg.R r ∧ ([.ex false [.c (.os 1 0 t5.2.1 1 (p2 t5) none), .c (.sc (.bool (z3 t5)))] 59, .fix false (.int .u8) a3 5] : List Box) = image_reader_seg.B a0 a1 a2 a3 r))))))))) (by kernel_rfl) ?_)
  obtain ⟨t1, ht1, h⟩ := of_bind h
  refine ⟨t1, ⟨image_reader_number.fun_ ht1, trivial⟩, ?_⟩
  obtain ⟨t2, ht2, h⟩ := of_bind h
  refine ⟨t2, ⟨image_reader_number.fun_ ht2, trivial⟩, ?_⟩
  obtain ⟨t3, ht3, h⟩ := of_bind h
  refine ⟨t3, ⟨image_reader_number.fun_ ht3, trivial⟩, ?_⟩
  refine ⟨trivial, trivial, ?_⟩
  obtain ⟨t4, ht4, h⟩ := of_bind h
  refine ⟨t4, ⟨image_reader_number.fun_ ht4, trivial⟩, ?_⟩
  obtain ⟨t5, ht5, h⟩ := of_bind h
  refine ⟨t5, ⟨image_reader_take.fun_ ht5, trivial⟩, ?_⟩
  refine ⟨trivial, trivial, trivial, trivial, trivial, ?_⟩
  obtain rfl := Option.some.inj h
  exact ⟨⟨trivial, trivial⟩, ⟨trivial, trivial⟩, rfl, rfl⟩
/-! halter/image.Decode -/
def image_Decode.l0 (t3 : Int × Nat × Nat × Bool) (a2 : (List Int)) : Nat → Nat → Nat → Bool → (List (Int × (Int × (Int × (List Int))))) → Int → Option (Nat × Nat × Bool × (List (Int × (Int × (Int × (List Int))))))
  | 0, _, _, _, _, _ => none
  | n + 1, x15, x16, x17, x18, x19 =>
    if x19 > (0 : Int) then
      if ¬ (x17 = true) then
        (image_reader_seg.f x15 x16 x17 a2).bind fun t31 =>
        if 0 + 1 ≤ 1 ∧ 0 = 0 ∧ (List.length x18) = (List.length x18) ∧ (((List.length x18) + (List.length (List.take 1 [(t31.1, (t31.2.1, (t31.2.2.1, t31.2.2.2.1)))]))) * 48 ≤ 140737488355328 ∧ (List.length x18) + (List.length (List.take 1 [(t31.1, (t31.2.1, (t31.2.2.1, t31.2.2.2.1)))])) ≤ 9223372036854775807) then
          image_Decode.l0 t3 a2 n t31.2.2.2.2.1 t31.2.2.2.2.2.1 t31.2.2.2.2.2.2 (x18 ++ (List.take 1 [(t31.1, (t31.2.1, (t31.2.2.1, t31.2.2.2.1)))])) (IntKind.wrap .i64 (x19 - (1 : Int)))
        else none
      else
        some (x15, x16, x17, x18)
    else
      some (x15, x16, x17, x18)
def image_Decode.l0_S (t3 : Int × Nat × Nat × Bool) (a2 : (List Int)) (x15 : Nat) (x16 : Nat) (x17 : Bool) (x18 : List (Int × (Int × (Int × (List Int))))) (x19 : Int) : St := ⟨[.any, .any, .v (.one (.ptr 1 ⟨0, 0, 0, 0⟩)), .any, .v (.one (.ptr 2 ⟨0, 0, 0, 0⟩)), .v (.one (.ptr 3 ⟨0, 0, 0, 0⟩)), .v (.one (.sc (.int .i64 x19))), .any, .any, .any, .any, .any, .any, .any, .any, .any, .any, .any, .any, .any, .any, .any, .any, .any, .any, .any, .any, .any, .any, .any, .any, .any, .any, .any, .any, .any, .any, .any, .any, .any, .any, .any, .any, .any, .any, .any, .any, .any, .any, .any, .any, .any, .any, .any, .any, .any, .any, .any, .any, .any], [.fix false (.int .u8) a2 5, .ex false [.c (.sc (.int .u32 (0 : Int))), .c (.sc (.slice none 0 0))] 36, .ex false [.c (.os 0 0 x15 1 x16 none), .c (.sc (.bool x17))] 59, .ex false [.c (.sc (.int .u32 (IntKind.wrap .u32 (t3.1)))), .c (.os 4 0 0 4 (List.length x18) none)] 36, .gro false (.pair (.int .i64) (.pair (.int .i64) (.pair (.int .u8) (.sl (.int .u8))))) x18 50], 1⟩
def image_Decode.l0_Q (t3 : Int × Nat × Nat × Bool) (a2 : (List Int)) (t : Nat × Nat × Bool × (List (Int × (Int × (Int × (List Int)))))) : Exit → St → Prop := fun e s => e = (.exit 0) ∧ s = ⟨[.any, .any, .v (.one (.ptr 1 ⟨0, 0, 0, 0⟩)), .any, .v (.one (.ptr 2 ⟨0, 0, 0, 0⟩)), .v (.one (.ptr 3 ⟨0, 0, 0, 0⟩)), .any, .any, .any, .any, .any, .any, .any, .any, .any, .any, .any, .any, .any, .any, .any, .any, .any, .any, .any, .any, .any, .any, .any, .any, .any, .any, .any, .any, .any, .any, .any, .any, .any, .any, .any, .any, .any, .any, .any, .any, .any, .any, .any, .any, .any, .any, .any, .any, .any, .any, .any, .any, .any, .any], [.fix false (.int .u8) a2 5, .ex false [.c (.sc (.int .u32 (0 : Int))), .c (.sc (.slice none 0 0))] 36, .ex false [.c (.os 0 0 t.1 1 t.2.1 none), .c (.sc (.bool t.2.2.1))] 59, .ex false [.c (.sc (.int .u32 (IntKind.wrap .u32 (t3.1)))), .c (.os 4 0 0 4 (List.length t.2.2.2) none)] 36, .gro false (.pair (.int .i64) (.pair (.int .i64) (.pair (.int .u8) (.sl (.int .u8))))) t.2.2.2 50], 1⟩
theorem image_Decode.l0_ok (t3 : Int × Nat × Nat × Bool) (a2 : (List Int)) : ∀ (n : Nat) (x15 : Nat) (x16 : Nat) (x17 : Bool) (x18 : List (Int × (Int × (Int × (List Int))))) (x19 : Int) (r : Nat × Nat × Bool × (List (Int × (Int × (Int × (List Int)))))), image_Decode.l0 t3 a2 n x15 x16 x17 x18 x19 = some r → TripN cfg (cpath (Tryd.f10.body.getD .skip) [1, 1, 1, 1, 0, 1, 0, 0]) n (image_Decode.l0_S t3 a2 x15 x16 x17 x18 x19) (image_Decode.l0_Q t3 a2 r) := by
  intro n
  induction n with
  | zero => intro x15 x16 x17 x18 x19 r h; cases h
  | succ n ih =>
    intro x15 x16 x17 x18 x19 r h
    rw [image_Decode.l0] at h
    refine TripN.of_run cfg_ok (k := (.br (oT 5 (.br (.ex (Int × Int × Int × (List Int) × Nat × Nat × Bool) (fun t31 => (.drP [(0, dN), (2, dN), (1, ⟨none, .no, true⟩), (3, ⟨none, .callR true [] [2, 0] (image_reader_seg.R t31) (image_reader_seg.B x15 x16 x17 a2 t31), true⟩), (4, dN), (5, ⟨none, .mv false, false⟩), (6, dN), (7, dN)] [([0, 2, 3, 1, 4, 5, 6, 7], [0, 1, 2, 3, 4, 5, 6]), ([0, 2, 3, 4, 1, 5, 6, 7], [0, 1, 2, 3, 4, 5, 6])] ⟨[.any, .any, .v (.one (.ptr 1 ⟨0, 0, 0, 0⟩)), .any, .v (.one (.ptr 2 ⟨0, 0, 0, 0⟩)), .v (.one (.ptr 3 ⟨0, 0, 0, 0⟩)), .v (.one (.sc (.int .i64 x19))), .any, .any, .any, .any, .any, .any, .any, .any, .any, .any, .any, .any, .any, .any, .any, .v (.one (.sc (.int .i64 x19))), .v (.one (.sc (.bool (decide (x19 > (0 : Int)))))), .v (.one (.sc (.bool (decide (x19 > (0 : Int)))))), .v (.one (.ptr 2 ⟨0, 0, 0, 0⟩)), .v (.one (.ptr 2 ⟨0, 0, 0, 0⟩)), .v (.one (.ptr 2 ⟨1, 0, 0, 0⟩)), .v (.one (.sc (.bool x17))), .v (.one (.sc (.bool (!x17)))), .v (.one (.sc (.bool (!x17)))), .any, .any, .v (.one (.ptr 3 ⟨1, 0, 0, 0⟩)), .any, .v (.one (.ptr 2 ⟨0, 0, 0, 0⟩)), .v (.agg [.c (.sc (.int .i64 t31.1)), .c (.sc (.int .i64 t31.2.1)), .c (.sc (.int .u8 (p2 t31))), .c (.fs (.int .u8) (p3 t31) false)]), .v (.one (.os 5 0 0 4 1 (some 1))), .v (.one (.os 4 0 0 4 (List.length (x18 ++ (List.take 1 [(t31.1, (t31.2.1, ((p2 t31), (p3 t31))))]))) none)), .v (.one (.ptr 3 ⟨1, 0, 0, 0⟩)), .any, .any, .any, .any, .any, .any, .any, .any, .any, .any, .any, .any, .any, .any, .any, .any, .any, .any, .any, .any], [.fix false (.int .u8) a2 5, .ex false [.c (.sc (.int .u32 (0 : Int))), .c (.sc (.slice none 0 0))] 36, .ex false [.c (.os 0 0 (p4 t31) 1 (p5 t31) none), .c (.sc (.bool (z6 t31)))] 59, .ex false [.c (.sc (.int .u32 (IntKind.wrap .u32 (t3.1)))), .c (.os 4 0 0 4 (List.length (x18 ++ (List.take 1 [(t31.1, (t31.2.1, ((p2 t31), (p3 t31))))]))) none)] 36, .gro false (.pair (.int .i64) (.pair (.int .i64) (.pair (.int .u8) (.sl (.int .u8))))) (x18 ++ (List.take 1 [(t31.1, (t31.2.1, ((p2 t31), (p3 t31))))])) 50, .ex false [.row 1 (.pair (.int .i64) (.pair (.int .i64) (.pair (.int .u8) (.sl (.int .u8))))) [(t31.1, (t31.2.1, ((p2 t31), (p3 t31))))]] 50, .dead], 1⟩ (.adj [] (.adj [.keep [2, 4, 5, 6], .drop 5] .nil))))) (.adj [.keep [2, 4, 5], .drop 5] .nil))) (oF 6 (.adj [.keep [2, 4, 5], .drop 5] .nil)))) (to_goal (q := (True) ∧ (((decide (x19 > (0 : Int))) = true → ((decide (x19 > (0 : Int))) = true ∧ ((decide (x19 > (0 : Int))) = true ∧ ((decide (x19 > (0 : Int))) = true ∧ (True) ∧ ((decide (x19 > (0 : Int))) = true ∧ ((decide (x19 > (0 : Int))) = true ∧ (((!x17) = true → (∃ t31 : Int × Int × Int × (List Int) × Nat × Nat × Bool, (((True) ∧ (Fun cfg 22 [.one (.ptr 0 ⟨0, 0, 0, 0⟩)] [.ex false [.c (.os 1 0 x15 1 x16 none), .c (.sc (.bool x17))] 59, .fix false (.int .u8) a2 5] (image_reader_seg.R t31) (image_reader_seg.B x15 x16 x17 a2 t31) ∧ True) ∧ (0 + 1 ≤ 1 ∧ 0 = 0 ∧ (List.length x18) = (List.length x18) ∧ (((List.length x18) + (List.length (List.take 1 [(t31.1, (t31.2.1, ((p2 t31), (p3 t31))))]))) * 48 ≤ 140737488355328 ∧ (List.length x18) + (List.length (List.take 1 [(t31.1, (t31.2.1, ((p2 t31), (p3 t31))))])) ≤ 9223372036854775807)) ∧ (True) ∧ (⟨[.any, .any, .v (.one (.ptr 1 ⟨0, 0, 0, 0⟩)), .any, .v (.one (.ptr 2 ⟨0, 0, 0, 0⟩)), .v (.one (.ptr 3 ⟨0, 0, 0, 0⟩)), .v (.one (.sc (.int .i64 x19))), .any, .any, .any, .any, .any, .any, .any, .any, .any, .any, .any, .any, .any, .any, .any, .v (.one (.sc (.int .i64 x19))), .v (.one (.sc (.bool (decide (x19 > (0 : Int)))))), .v (.one (.sc (.bool (decide (x19 > (0 : Int)))))), .v (.one (.ptr 2 ⟨0, 0, 0, 0⟩)), .v (.one (.ptr 2 ⟨0, 0, 0, 0⟩)), .v (.one (.ptr 2 ⟨1, 0, 0, 0⟩)), .v (.one (.sc (.bool x17))), .v (.one (.sc (.bool (!x17)))), .v (.one (.sc (.bool (!x17)))), .any, .any, .v (.one (.ptr 3 ⟨1, 0, 0, 0⟩)), .any, .v (.one (.ptr 2 ⟨0, 0, 0, 0⟩)), .v (.agg [.c (.sc (.int .i64 t31.1)), .c (.sc (.int .i64 t31.2.1)), .c (.sc (.int .u8 (p2 t31))), .c (.fs (.int .u8) (p3 t31) false)]), .v (.one (.os 5 0 0 4 1 (some 1))), .v (.one (.os 4 0 0 4 (List.length (x18 ++ (List.take 1 [(t31.1, (t31.2.1, ((p2 t31), (p3 t31))))]))) none)), .v (.one (.ptr 3 ⟨1, 0, 0, 0⟩)), .any, .any, .any, .any, .any, .any, .any, .any, .any, .any, .any, .any, .any, .any, .any, .any, .any, .any, .any, .any], [.fix false (.int .u8) a2 5, .ex false [.c (.sc (.int .u32 (0 : Int))), .c (.sc (.slice none 0 0))] 36, .ex false [.c (.os 0 0 (p4 t31) 1 (p5 t31) none), .c (.sc (.bool (z6 t31)))] 59, .ex false [.c (.sc (.int .u32 (IntKind.wrap .u32 (t3.1)))), .c (.os 4 0 0 4 (List.length (x18 ++ (List.take 1 [(t31.1, (t31.2.1, ((p2 t31), (p3 t31))))]))) none)] 36, .gro false (.pair (.int .i64) (.pair (.int .i64) (.pair (.int .u8) (.sl (.int .u8))))) (x18 ++ (List.take 1 [(t31.1, (t31.2.1, ((p2 t31), (p3 t31))))])) 50, .ex false [.row 1 (.pair (.int .i64) (.pair (.int .i64) (.pair (.int .u8) (.sl (.int .u8))))) [(t31.1, (t31.2.1, ((p2 t31), (p3 t31))))]] 50, .dead], 1⟩ : St) = ⟨[.any, .any, .v (.one (.ptr 1 ⟨0, 0, 0, 0⟩)), .any, .v (.one (.ptr 2 ⟨0, 0, 0, 0⟩)), .v (.one (.ptr 3 ⟨0, 0, 0, 0⟩)), .v (.one (.sc (.int .i64 x19))), .any, .any, .any, .any, .any, .any, .any, .any, .any, .any, .any, .any, .any, .any, .any, .v (.one (.sc (.int .i64 x19))), .v (.one (.sc (.bool (decide (x19 > (0 : Int)))))), .v (.one (.sc (.bool (decide (x19 > (0 : Int)))))), .v (.one (.ptr 2 ⟨0, 0, 0, 0⟩)), .v (.one (.ptr 2 ⟨0, 0, 0, 0⟩)), .v (.one (.ptr 2 ⟨1, 0, 0, 0⟩)), .v (.one (.sc (.bool x17))), .v (.one (.sc (.bool (!x17)))), .v (.one (.sc (.bool (!x17)))), .any, .any, .v (.one (.ptr 3 ⟨1, 0, 0, 0⟩)), .any, .v (.one (.ptr 2 ⟨0, 0, 0, 0⟩)), .v (.agg [.c (.sc (.int .i64 t31.1)), .c (.sc (.int .i64 t31.2.1)), .c (.sc (.int .u8 (p2 t31))), .c (.fs (.int .u8) (p3 t31) false)]), .v (.one (.os 5 0 0 4 1 (some 1))), .v (.one (.os 4 0 0 4 (List.length (x18 ++ (List.take 1 [(t31.1, (t31.2.1, ((p2 t31), (p3 t31))))]))) none)), .v (.one (.ptr 3 ⟨1, 0, 0, 0⟩)), .any, .any, .any, .any, .any, .any, .any, .any, .any, .any, .any, .any, .any, .any, .any, .any, .any, .any, .any, .any], [.fix false (.int .u8) a2 5, .ex false [.c (.sc (.int .u32 (0 : Int))), .c (.sc (.slice none 0 0))] 36, .ex false [.c (.os 0 0 (p4 t31) 1 (p5 t31) none), .c (.sc (.bool (z6 t31)))] 59, .ex false [.c (.sc (.int .u32 (IntKind.wrap .u32 (t3.1)))), .c (.os 4 0 0 4 (List.length (x18 ++ (List.take 1 [(t31.1, (t31.2.1, ((p2 t31), (p3 t31))))]))) none)] 36, .gro false (.pair (.int .i64) (.pair (.int .i64) (.pair (.int .u8) (.sl (.int .u8))))) (x18 ++ (List.take 1 [(t31.1, (t31.2.1, ((p2 t31), (p3 t31))))])) 50, .ex false [.row 1 (.pair (.int .i64) (.pair (.int .i64) (.pair (.int .u8) (.sl (.int .u8))))) [(t31.1, (t31.2.1, ((p2 t31), (p3 t31))))]] 50, .dead], 1⟩) ∧ (((Fun cfg 22 [.one (.ptr 0 ⟨0, 0, 0, 0⟩)] [.ex false [.c (.os 1 0 x15 1 x16 none), .c (.sc (.bool x17))] 59, .fix false (.int .u8) a2 5] (image_reader_seg.R t31) (image_reader_seg.B x15 x16 x17 a2 t31) ∧ True) ∧ (True) ∧ (0 + 1 ≤ 1 ∧ 0 = 0 ∧ (List.length x18) = (List.length x18) ∧ (((List.length x18) + (List.length (List.take 1 [(t31.1, (t31.2.1, ((p2 t31), (p3 t31))))]))) * 48 ≤ 140737488355328 ∧ (List.length x18) + (List.length (List.take 1 [(t31.1, (t31.2.1, ((p2 t31), (p3 t31))))])) ≤ 9223372036854775807)) ∧ (True) ∧ True ∧ (⟨[.any, .any, .v (.one (.ptr 1 ⟨0, 0, 0, 0⟩)), .any, .v (.one (.ptr 2 ⟨0, 0, 0, 0⟩)), .v (.one (.ptr 3 ⟨0, 0, 0, 0⟩)), .v (.one (.sc (.int .i64 x19))), .any, .any, .any, .any, .any, .any, .any, .any, .any, .any, .any, .any, .any, .any, .any, .v (.one (.sc (.int .i64 x19))), .v (.one (.sc (.bool (decide (x19 > (0 : Int)))))), .v (.one (.sc (.bool (decide (x19 > (0 : Int)))))), .v (.one (.ptr 2 ⟨0, 0, 0, 0⟩)), .v (.one (.ptr 2 ⟨0, 0, 0, 0⟩)), .v (.one (.ptr 2 ⟨1, 0, 0, 0⟩)), .v (.one (.sc (.bool x17))), .v (.one (.sc (.bool (!x17)))), .v (.one (.sc (.bool (!x17)))), .any, .any, .v (.one (.ptr 3 ⟨1, 0, 0, 0⟩)), .any, .v (.one (.ptr 2 ⟨0, 0, 0, 0⟩)), .v (.agg [.c (.sc (.int .i64 t31.1)), .c (.sc (.int .i64 t31.2.1)), .c (.sc (.int .u8 (p2 t31))), .c (.fs (.int .u8) (p3 t31) false)]), .v (.one (.os 5 0 0 4 1 (some 1))), .v (.one (.os 4 0 0 4 (List.length (x18 ++ (List.take 1 [(t31.1, (t31.2.1, ((p2 t31), (p3 t31))))]))) none)), .v (.one (.ptr 3 ⟨1, 0, 0, 0⟩)), .any, .any, .any, .any, .any, .any, .any, .any, .any, .any, .any, .any, .any, .any, .any, .any, .any, .any, .any, .any], [.fix false (.int .u8) a2 5, .ex false [.c (.sc (.int .u32 (0 : Int))), .c (.sc (.slice none 0 0))] 36, .ex false [.c (.os 0 0 (p4 t31) 1 (p5 t31) none), .c (.sc (.bool (z6 t31)))] 59, .ex false [.c (.sc (.int .u32 (IntKind.wrap .u32 (t3.1)))), .c (.os 4 0 0 4 (List.length (x18 ++ (List.take 1 [(t31.1, (t31.2.1, ((p2 t31), (p3 t31))))]))) none)] 36, .gro false (.pair (.int .i64) (.pair (.int .i64) (.pair (.int .u8) (.sl (.int .u8))))) (x18 ++ (List.take 1 [(t31.1, (t31.2.1, ((p2 t31), (p3 t31))))])) 50, .ex false [.row 1 (.pair (.int .i64) (.pair (.int .i64) (.pair (.int .u8) (.sl (.int .u8))))) [(t31.1, (t31.2.1, ((p2 t31), (p3 t31))))]] 50, .dead], 1⟩ : St) = ⟨[.any, .any, .v (.one (.ptr 1 ⟨0, 0, 0, 0⟩)), .any, .v (.one (.ptr 2 ⟨0, 0, 0, 0⟩)), .v (.one (.ptr 3 ⟨0, 0, 0, 0⟩)), .v (.one (.sc (.int .i64 x19))), .any, .any, .any, .any, .any, .any, .any, .any, .any, .any, .any, .any, .any, .any, .any, .v (.one (.sc (.int .i64 x19))), .v (.one (.sc (.bool (decide (x19 > (0 : Int)))))), .v (.one (.sc (.bool (decide (x19 > (0 : Int)))))), .v (.one (.ptr 2 ⟨0, 0, 0, 0⟩)), .v (.one (.ptr 2 ⟨0, 0, 0, 0⟩)), .v (.one (.ptr 2 ⟨1, 0, 0, 0⟩)), .v (.one (.sc (.bool x17))), .v (.one (.sc (.bool (!x17)))), .v (.one (.sc (.bool (!x17)))), .any, .any, .v (.one (.ptr 3 ⟨1, 0, 0, 0⟩)), .any, .v (.one (.ptr 2 ⟨0, 0, 0, 0⟩)), .v (.agg [.c (.sc (.int .i64 t31.1)), .c (.sc (.int .i64 t31.2.1)), .c (.sc (.int .u8 (p2 t31))), .c (.fs (.int .u8) (p3 t31) false)]), .v (.one (.os 5 0 0 4 1 (some 1))), .v (.one (.os 4 0 0 4 (List.length (x18 ++ (List.take 1 [(t31.1, (t31.2.1, ((p2 t31), (p3 t31))))]))) none)), .v (.one (.ptr 3 ⟨1, 0, 0, 0⟩)), .any, .any, .any, .any, .any, .any, .any, .any, .any, .any, .any, .any, .any, .any, .any, .any, .any, .any, .any, .any], [.fix false (.int .u8) a2 5, .ex false [.c (.sc (.int .u32 (0 : Int))), .c (.sc (.slice none 0 0))] 36, .ex false [.c (.os 0 0 (p4 t31) 1 (p5 t31) none), .c (.sc (.bool (z6 t31)))] 59, .ex false [.c (.sc (.int .u32 (IntKind.wrap .u32 (t3.1)))), .c (.os 4 0 0 4 (List.length (x18 ++ (List.take 1 [(t31.1, (t31.2.1, ((p2 t31), (p3 t31))))]))) none)] 36, .gro false (.pair (.int .i64) (.pair (.int .i64) (.pair (.int .u8) (.sl (.int .u8))))) (x18 ++ (List.take 1 [(t31.1, (t31.2.1, ((p2 t31), (p3 t31))))])) 50, .ex false [.row 1 (.pair (.int .i64) (.pair (.int .i64) (.pair (.int .u8) (.sl (.int .u8))))) [(t31.1, (t31.2.1, ((p2 t31), (p3 t31))))]] 50, .dead], 1⟩) ∧ ((Fun cfg 22 [.one (.ptr 0 ⟨0, 0, 0, 0⟩)] [.ex false [.c (.os 1 0 x15 1 x16 none), .c (.sc (.bool x17))] 59, .fix false (.int .u8) a2 5] (image_reader_seg.R t31) (image_reader_seg.B x15 x16 x17 a2 t31) ∧ True) ∧ (True) ∧ (0 + 1 ≤ 1 ∧ 0 = 0 ∧ (List.length x18) = (List.length x18) ∧ (((List.length x18) + (List.length (List.take 1 [(t31.1, (t31.2.1, ((p2 t31), (p3 t31))))]))) * 48 ≤ 140737488355328 ∧ (List.length x18) + (List.length (List.take 1 [(t31.1, (t31.2.1, ((p2 t31), (p3 t31))))])) ≤ 9223372036854775807)) ∧ (True) ∧ True ∧ (⟨[.any, .any, .v (.one (.ptr 1 ⟨0, 0, 0, 0⟩)), .any, .v (.one (.ptr 2 ⟨0, 0, 0, 0⟩)), .v (.one (.ptr 3 ⟨0, 0, 0, 0⟩)), .v (.one (.sc (.int .i64 x19))), .any, .any, .any, .any, .any, .any, .any, .any, .any, .any, .any, .any, .any, .any, .any, .v (.one (.sc (.int .i64 x19))), .v (.one (.sc (.bool (decide (x19 > (0 : Int)))))), .v (.one (.sc (.bool (decide (x19 > (0 : Int)))))), .v (.one (.ptr 2 ⟨0, 0, 0, 0⟩)), .v (.one (.ptr 2 ⟨0, 0, 0, 0⟩)), .v (.one (.ptr 2 ⟨1, 0, 0, 0⟩)), .v (.one (.sc (.bool x17))), .v (.one (.sc (.bool (!x17)))), .v (.one (.sc (.bool (!x17)))), .any, .any, .v (.one (.ptr 3 ⟨1, 0, 0, 0⟩)), .any, .v (.one (.ptr 2 ⟨0, 0, 0, 0⟩)), .v (.agg [.c (.sc (.int .i64 t31.1)), .c (.sc (.int .i64 t31.2.1)), .c (.sc (.int .u8 (p2 t31))), .c (.fs (.int .u8) (p3 t31) false)]), .v (.one (.os 5 0 0 4 1 (some 1))), .v (.one (.os 4 0 0 4 (List.length (x18 ++ (List.take 1 [(t31.1, (t31.2.1, ((p2 t31), (p3 t31))))]))) none)), .v (.one (.ptr 3 ⟨1, 0, 0, 0⟩)), .any, .any, .any, .any, .any, .any, .any, .any, .any, .any, .any, .any, .any, .any, .any, .any, .any, .any, .any, .any], [.fix false (.int .u8) a2 5, .ex false [.c (.sc (.int .u32 (0 : Int))), .c (.sc (.slice none 0 0))] 36, .ex false [.c (.os 0 0 (p4 t31) 1 (p5 t31) none), .c (.sc (.bool (z6 t31)))] 59, .ex false [.c (.sc (.int .u32 (IntKind.wrap .u32 (t3.1)))), .c (.os 4 0 0 4 (List.length (x18 ++ (List.take 1 [(t31.1, (t31.2.1, ((p2 t31), (p3 t31))))]))) none)] 36, .gro false (.pair (.int .i64) (.pair (.int .i64) (.pair (.int .u8) (.sl (.int .u8))))) (x18 ++ (List.take 1 [(t31.1, (t31.2.1, ((p2 t31), (p3 t31))))])) 50, .ex false [.row 1 (.pair (.int .i64) (.pair (.int .i64) (.pair (.int .u8) (.sl (.int .u8))))) [(t31.1, (t31.2.1, ((p2 t31), (p3 t31))))]] 50, .dead], 1⟩ : St) = ⟨[.any, .any, .v (.one (.ptr 1 ⟨0, 0, 0, 0⟩)), .any, .v (.one (.ptr 2 ⟨0, 0, 0, 0⟩)), .v (.one (.ptr 3 ⟨0, 0, 0, 0⟩)), .v (.one (.sc (.int .i64 x19))), .any, .any, .any, .any, .any, .any, .any, .any, .any, .any, .any, .any, .any, .any, .any, .v (.one (.sc (.int .i64 x19))), .v (.one (.sc (.bool (decide (x19 > (0 : Int)))))), .v (.one (.sc (.bool (decide (x19 > (0 : Int)))))), .v (.one (.ptr 2 ⟨0, 0, 0, 0⟩)), .v (.one (.ptr 2 ⟨0, 0, 0, 0⟩)), .v (.one (.ptr 2 ⟨1, 0, 0, 0⟩)), .v (.one (.sc (.bool x17))), .v (.one (.sc (.bool (!x17)))), .v (.one (.sc (.bool (!x17)))), .any, .any, .v (.one (.ptr 3 ⟨1, 0, 0, 0⟩)), .any, .v (.one (.ptr 2 ⟨0, 0, 0, 0⟩)), .v (.agg [.c (.sc (.int .i64 t31.1)), .c (.sc (.int .i64 t31.2.1)), .c (.sc (.int .u8 (p2 t31))), .c (.fs (.int .u8) (p3 t31) false)]), .v (.one (.os 5 0 0 4 1 (some 1))), .v (.one (.os 4 0 0 4 (List.length (x18 ++ (List.take 1 [(t31.1, (t31.2.1, ((p2 t31), (p3 t31))))]))) none)), .v (.one (.ptr 3 ⟨1, 0, 0, 0⟩)), .any, .any, .any, .any, .any, .any, .any, .any, .any, .any, .any, .any, .any, .any, .any, .any, .any, .any, .any, .any], [.fix false (.int .u8) a2 5, .ex false [.c (.sc (.int .u32 (0 : Int))), .c (.sc (.slice none 0 0))] 36, .ex false [.c (.os 0 0 (p4 t31) 1 (p5 t31) none), .c (.sc (.bool (z6 t31)))] 59, .ex false [.c (.sc (.int .u32 (IntKind.wrap .u32 (t3.1)))), .c (.os 4 0 0 4 (List.length (x18 ++ (List.take 1 [(t31.1, (t31.2.1, ((p2 t31), (p3 t31))))]))) none)] 36, .gro false (.pair (.int .i64) (.pair (.int .i64) (.pair (.int .u8) (.sl (.int .u8))))) (x18 ++ (List.take 1 [(t31.1, (t31.2.1, ((p2 t31), (p3 t31))))])) 50, .ex false [.row 1 (.pair (.int .i64) (.pair (.int .i64) (.pair (.int .u8) (.sl (.int .u8))))) [(t31.1, (t31.2.1, ((p2 t31), (p3 t31))))]] 50, .dead], 1⟩) ∧ True) ∧ (True ∧ (True) ∧ (((True) ∧ (True) ∧ True) ∧ TripN cfg (cpath (Tryd.f10.body.getD .skip) [1, 1, 1, 1, 0, 1, 0, 0]) n (image_Decode.l0_S t3 a2 (p4 t31) (p5 t31) (z6 t31) (x18 ++ (List.take 1 [(t31.1, (t31.2.1, ((p2 t31), (p3 t31))))])) (IntKind.wrap .i64 (x19 - (1 : Int)))) (image_Decode.l0_Q t3 a2 r)))))) ∧ ((!x17) = false → (((True) ∧ (True) ∧ True) ∧ image_Decode.l0_Q t3 a2 r (.exit 0) ⟨[.any, .any, .v (.one (.ptr 1 ⟨0, 0, 0, 0⟩)), .any, .v (.one (.ptr 2 ⟨0, 0, 0, 0⟩)), .v (.one (.ptr 3 ⟨0, 0, 0, 0⟩)), .any, .any, .any, .any, .any, .any, .any, .any, .any, .any, .any, .any, .any, .any, .any, .any, .any, .any, .any, .any, .any, .any, .any, .any, .any, .any, .any, .any, .any, .any, .any, .any, .any, .any, .any, .any, .any, .any, .any, .any, .any, .any, .any, .any, .any, .any, .any, .any, .any, .any, .any, .any, .any, .any], [.fix false (.int .u8) a2 5, .ex false [.c (.sc (.int .u32 (0 : Int))), .c (.sc (.slice none 0 0))] 36, .ex false [.c (.os 0 0 x15 1 x16 none), .c (.sc (.bool x17))] 59, .ex false [.c (.sc (.int .u32 (IntKind.wrap .u32 (t3.1)))), .c (.os 4 0 0 4 (List.length x18) none)] 36, .gro false (.pair (.int .i64) (.pair (.int .i64) (.pair (.int .u8) (.sl (.int .u8))))) x18 50], 1⟩))))))))) ∧ ((decide (x19 > (0 : Int))) = false → ((decide (x19 > (0 : Int))) = false ∧ ((decide (x19 > (0 : Int))) = false ∧ ((decide (x19 > (0 : Int))) = false ∧ ((decide (x19 > (0 : Int))) = false ∧ ((decide (x19 > (0 : Int))) = false ∧ (false = false ∧ (((True) ∧ (True) ∧ True) ∧ image_Decode.l0_Q t3 a2 r (.exit 0) ⟨[.any, .any, .v (.one (.ptr 1 ⟨0, 0, 0, 0⟩)), .any, .v (.one (.ptr 2 ⟨0, 0, 0, 0⟩)), .v (.one (.ptr 3 ⟨0, 0, 0, 0⟩)), .any, .any, .any, .any, .any, .any, .any, .any, .any, .any, .any, .any, .any, .any, .any, .any, .any, .any, .any, .any, .any, .any, .any, .any, .any, .any, .any, .any, .any, .any, .any, .any, .any, .any, .any, .any, .any, .any, .any, .any, .any, .any, .any, .any, .any, .any, .any, .any, .any, .any, .any, .any, .any, .any], [.fix false (.int .u8) a2 5, .ex false [.c (.sc (.int .u32 (0 : Int))), .c (.sc (.slice none 0 0))] 36, .ex false [.c (.os 0 0 x15 1 x16 none), .c (.sc (.bool x17))] 59, .ex false [.c (.sc (.int .u32 (IntKind.wrap .u32 (t3.1)))), .c (.os 4 0 0 4 (List.length x18) none)] 36, .gro false (.pair (.int .i64) (.pair (.int .i64) (.pair (.int .u8) (.sl (.int .u8))))) x18 50], 1⟩)))))))))) (by kernel_rfl) ?_)
    refine ⟨trivial, ?_⟩
    refine ⟨fun b29 => ?_, fun b29 => ?_⟩
    · rw [if_pos (of_decide_eq_true b29)] at h
      refine ⟨b29, ?_⟩
      refine ⟨b29, ?_⟩
      refine ⟨b29, ?_⟩
      refine ⟨trivial, ?_⟩
      refine ⟨b29, ?_⟩
      refine ⟨b29, ?_⟩
      refine ⟨fun b30 => ?_, fun b30 => ?_⟩
      · rw [if_pos (ff (not_t b30))] at h
        obtain ⟨t31, ht31, h⟩ := of_bind h
        refine ⟨t31, ?_⟩
        obtain ⟨g32, h⟩ := of_guard h
        refine ⟨⟨trivial, ⟨image_reader_seg.fun_ ht31, trivial⟩, g32, trivial, rfl⟩, ⟨⟨⟨image_reader_seg.fun_ ht31, trivial⟩, trivial, g32, trivial, trivial, rfl⟩, ⟨⟨image_reader_seg.fun_ ht31, trivial⟩, trivial, g32, trivial, trivial, rfl⟩, trivial⟩, ?_⟩
        refine ⟨trivial, trivial, ?_⟩
        exact ⟨⟨trivial, trivial, trivial⟩, ih t31.2.2.2.2.1 t31.2.2.2.2.2.1 t31.2.2.2.2.2.2 (x18 ++ (List.take 1 [(t31.1, (t31.2.1, (t31.2.2.1, t31.2.2.2.1)))])) (IntKind.wrap .i64 (x19 - (1 : Int))) r h⟩
      · rw [if_neg (not_not_intro (not_f b30))] at h
        obtain rfl := Option.some.inj h
        exact ⟨⟨trivial, trivial, trivial⟩, rfl, rfl⟩
    · rw [if_neg (of_decide_eq_false b29)] at h
      refine ⟨b29, ?_⟩
      refine ⟨b29, ?_⟩
      refine ⟨b29, ?_⟩
      refine ⟨b29, ?_⟩
      refine ⟨b29, ?_⟩
      refine ⟨rfl, ?_⟩
      obtain rfl := Option.some.inj h
      exact ⟨⟨trivial, trivial, trivial⟩, rfl, rfl⟩
def image_Decode.f (a0 : Nat) (a1 : Nat) (a2 : (List Int)) : Option (Int × (List (Int × (Int × (Int × (List Int))))) × (Option Int)) :=
  (image_reader_take.f (4 : Int) a0 a1 false a2).bind fun t1 =>
  if ¬ ((strOfNums t1.1) = (⟨#[104, 120, 48, 49]⟩ : ByteArray)) then
    some ((0 : Int), ([] : List (Int × (Int × (Int × (List Int))))), (some (8 : Int)))
  else
    (image_reader_number.f (4 : Int) t1.2.1 t1.2.2.1 t1.2.2.2 a2).bind fun t3 =>
    (image_reader_number.f (1 : Int) t3.2.1 t3.2.2.1 t3.2.2.2 a2).bind fun t4 =>
    (image_Decode.l0 t3 a2 FUEL t4.2.1 t4.2.2.1 t4.2.2.2 ([] : List (Int × (Int × (Int × (List Int))))) t4.1).bind fun t28 =>
    if t28.2.2.1 = true then
      some ((0 : Int), ([] : List (Int × (Int × (Int × (List Int))))), (some (8 : Int)))
    else
      if ((t28.2.1 : Nat) : Int) > (0 : Int) then
        some ((0 : Int), ([] : List (Int × (Int × (Int × (List Int))))), (some (8 : Int)))
      else
        (image_Check.f (IntKind.wrap .u32 (t3.1)) t28.2.2.2).bind fun t43 =>
        if ¬ (t43 = none) then
          some ((0 : Int), ([] : List (Int × (Int × (Int × (List Int))))), (some (8 : Int)))
        else
          some ((IntKind.wrap .u32 (t3.1)), t28.2.2.2, none)
def image_Decode.R (r : Int × (List (Int × (Int × (Int × (List Int))))) × (Option Int)) : Tm := .tup [.agg [.c (.sc (.int .u32 r.1)), .c (.fs (.pair (.int .i64) (.pair (.int .i64) (.pair (.int .u8) (.sl (.int .u8))))) r.2.1 false)], .one (.err r.2.2)]
def image_Decode.B (a0 : Nat) (a1 : Nat) (a2 : (List Int)) (r : Int × (List (Int × (Int × (Int × (List Int))))) × (Option Int)) : List Box := [.fix false (.int .u8) a2 5]
theorem image_Decode.fun_ {a0 : Nat} {a1 : Nat} {a2 : (List Int)} {r : Int × (List (Int × (Int × (Int × (List Int))))) × (Option Int)} (h : image_Decode.f a0 a1 a2 = some r) : Fun cfg 10 [.one (.os 0 0 a0 1 a1 none)] [.fix false (.int .u8) a2 5] (image_Decode.R r) (image_Decode.B a0 a1 a2 r) := by
  unfold image_Decode.f at h
  refine fun_of_run cfg_ok (f := 10) (fn := Tryd.f10) Tryd.func10 rfl (by kernel_rfl) (rs := [.cell 2 36, .tmp 3]) rfl (nt := 60) rfl (l := fin) (k := (.callR true [] [2, 0] ((List Int) × Nat × Nat × Bool) (fun t1 => (image_reader_take.R t1)) (fun t1 => (image_reader_take.B (4 : Int) a0 a1 false a2 t1)) (fun t1 => (.d (.b false) (.br (aE 2 (.adj [.co 0 true [(.pair (.int .i64) (.pair (.int .i64) (.pair (.int .u8) (.sl (.int .u8)))))], .drop 1] .nil)) (.callR true [] [2, 0] (Int × Nat × Nat × Bool) (fun t3 => (image_reader_number.R t3)) (fun t3 => (image_reader_number.B (4 : Int) t1.2.1 (p2 t1) (z3 t1) a2 t3)) (fun t3 => (.callR true [] [2, 0] (Int × Nat × Nat × Bool) (fun t4 => (image_reader_number.R t4)) (fun t4 => (image_reader_number.B (1 : Int) t3.2.1 (p2 t3) (z3 t3) a2 t4)) (fun t4 => (.adj [] (.adj [.keep [2, 4, 5, 6], .newG (.pair (.int .i64) (.pair (.int .i64) (.pair (.int .u8) (.sl (.int .u8))))) 50, .nilB 3 1 4 4] (.sub (Nat × Nat × Bool × (List (Int × (Int × (Int × (List Int)))))) (fun _ => (.exit 0)) (fun t28 => ⟨[.any, .any, .v (.one (.ptr 1 ⟨0, 0, 0, 0⟩)), .any, .v (.one (.ptr 2 ⟨0, 0, 0, 0⟩)), .v (.one (.ptr 3 ⟨0, 0, 0, 0⟩)), .any, .any, .any, .any, .any, .any, .any, .any, .any, .any, .any, .any, .any, .any, .any, .any, .any, .any, .any, .any, .any, .any, .any, .any, .any, .any, .any, .any, .any, .any, .any, .any, .any, .any, .any, .any, .any, .any, .any, .any, .any, .any, .any, .any, .any, .any, .any, .any, .any, .any, .any, .any, .any, .any], [.fix false (.int .u8) a2 5, .ex false [.c (.sc (.int .u32 (0 : Int))), .c (.sc (.slice none 0 0))] 36, .ex false [.c (.os 0 0 t28.1 1 t28.2.1 none), .c (.sc (.bool (p2 t28)))] 59, .ex false [.c (.sc (.int .u32 (IntKind.wrap .u32 (t3.1)))), .c (.os 4 0 0 4 (List.length (z3 t28)) none)] 36, .gro false (.pair (.int .i64) (.pair (.int .i64) (.pair (.int .u8) (.sl (.int .u8))))) (z3 t28) 50], 1⟩) (fun t28 => (.br (oT 11 (aE 2 (.adj [.co 0 true [(.pair (.int .i64) (.pair (.int .i64) (.pair (.int .u8) (.sl (.int .u8)))))], .drop 1] .nil))) (oF 6 (.br (oT 4 (aE 2 (.adj [.co 0 true [(.pair (.int .i64) (.pair (.int .i64) (.pair (.int .u8) (.sl (.int .u8)))))], .drop 1] .nil))) (.one false (.call true [] ((Option Int)) image_Check.R (fun t43 => (oF 2 (.br (aE 2 (.adj [.co 0 true [(.pair (.int .i64) (.pair (.int .i64) (.pair (.int .u8) (.sl (.int .u8)))))], .drop 1] .nil)) (aE 3 (.adj [.co 0 true [], .drop 1] .nil))))))))))))))))))))))) (to_goal (q := (∃ t1 : (List Int) × Nat × Nat × Bool, (Fun cfg 20 [.one (.ptr 0 ⟨0, 0, 0, 0⟩), .one (.sc (.int .i64 (4 : Int)))] [.ex false [.c (.os 1 0 a0 1 a1 none), .c (.sc (.bool false))] 59, .fix false (.int .u8) a2 5] (image_reader_take.R t1) (image_reader_take.B (4 : Int) a0 a1 false a2 t1) ∧ True) ∧ (True) ∧ (True) ∧ (((!((strOfNums t1.1).toList == (⟨#[104, 120, 48, 49]⟩ : ByteArray).toList)) = true → (True ∧ (True) ∧ (True ∧ (((True) ∧ True) ∧ ((True) ∧ (True) ∧ True) ∧ (.tup [.agg [.c (.sc (.int .u32 (0 : Int))), .c (.fs (.pair (.int .i64) (.pair (.int .i64) (.pair (.int .u8) (.sl (.int .u8))))) ([] : List (Int × (Int × (Int × (List Int))))) false)], .one (.err (some (8 : Int)))] : Tm) = image_Decode.R r ∧ ([.fix false (.int .u8) a2 5] : List Box) = image_Decode.B a0 a1 a2 r)))) ∧ ((!((strOfNums t1.1).toList == (⟨#[104, 120, 48, 49]⟩ : ByteArray).toList)) = false → (∃ t3 : Int × Nat × Nat × Bool, (Fun cfg 21 [.one (.ptr 0 ⟨0, 0, 0, 0⟩), .one (.sc (.int .i64 (4 : Int)))] [.ex false [.c (.os 1 0 t1.2.1 1 (p2 t1) none), .c (.sc (.bool (z3 t1)))] 59, .fix false (.int .u8) a2 5] (image_reader_number.R t3) (image_reader_number.B (4 : Int) t1.2.1 (p2 t1) (z3 t1) a2 t3) ∧ True) ∧ (True) ∧ (True) ∧ (∃ t4 : Int × Nat × Nat × Bool, (Fun cfg 21 [.one (.ptr 0 ⟨0, 0, 0, 0⟩), .one (.sc (.int .i64 (1 : Int)))] [.ex false [.c (.os 1 0 t3.2.1 1 (p2 t3) none), .c (.sc (.bool (z3 t3)))] 59, .fix false (.int .u8) a2 5] (image_reader_number.R t4) (image_reader_number.B (1 : Int) t3.2.1 (p2 t3) (z3 t3) a2 t4) ∧ True) ∧ (True ∧ (((True) ∧ (True) ∧ (True) ∧ True) ∧ (∃ t28 : Nat × Nat × Bool × (List (Int × (Int × (Int × (List Int))))), Trip cfg (.loop (cpath (Tryd.f10.body.getD .skip) [1, 1, 1, 1, 0, 1, 0, 0])) ⟨[.any, .any, .v (.one (.ptr 1 ⟨0, 0, 0, 0⟩)), .any, .v (.one (.ptr 2 ⟨0, 0, 0, 0⟩)), .v (.one (.ptr 3 ⟨0, 0, 0, 0⟩)), .v (.one (.sc (.int .i64 t4.1))), .any, .any, .any, .any, .any, .any, .any, .any, .any, .any, .any, .any, .any, .any, .any, .any, .any, .any, .any, .any, .any, .any, .any, .any, .any, .any, .any, .any, .any, .any, .any, .any, .any, .any, .any, .any, .any, .any, .any, .any, .any, .any, .any, .any, .any, .any, .any, .any, .any, .any, .any, .any, .any], [.fix false (.int .u8) a2 5, .ex false [.c (.sc (.int .u32 (0 : Int))), .c (.sc (.slice none 0 0))] 36, .ex false [.c (.os 0 0 t4.2.1 1 (p2 t4) none), .c (.sc (.bool (z3 t4)))] 59, .ex false [.c (.sc (.int .u32 (IntKind.wrap .u32 (t3.1)))), .c (.os 4 0 0 4 0 none)] 36, .gro false (.pair (.int .i64) (.pair (.int .i64) (.pair (.int .u8) (.sl (.int .u8))))) ([] : List (Int × (Int × (Int × (List Int))))) 50], 1⟩ (fun e s => e = (.exit 0) ∧ s = ⟨[.any, .any, .v (.one (.ptr 1 ⟨0, 0, 0, 0⟩)), .any, .v (.one (.ptr 2 ⟨0, 0, 0, 0⟩)), .v (.one (.ptr 3 ⟨0, 0, 0, 0⟩)), .any, .any, .any, .any, .any, .any, .any, .any, .any, .any, .any, .any, .any, .any, .any, .any, .any, .any, .any, .any, .any, .any, .any, .any, .any, .any, .any, .any, .any, .any, .any, .any, .any, .any, .any, .any, .any, .any, .any, .any, .any, .any, .any, .any, .any, .any, .any, .any, .any, .any, .any, .any, .any, .any], [.fix false (.int .u8) a2 5, .ex false [.c (.sc (.int .u32 (0 : Int))), .c (.sc (.slice none 0 0))] 36, .ex false [.c (.os 0 0 t28.1 1 t28.2.1 none), .c (.sc (.bool (p2 t28)))] 59, .ex false [.c (.sc (.int .u32 (IntKind.wrap .u32 (t3.1)))), .c (.os 4 0 0 4 (List.length (z3 t28)) none)] 36, .gro false (.pair (.int .i64) (.pair (.int .i64) (.pair (.int .u8) (.sl (.int .u8))))) (z3 t28) 50], 1⟩) ∧ (True) ∧ (((p2 t28) = false → ((p2 t28) = false ∧ ((p2 t28) = false ∧ ((p2 t28) = false ∧ (True) ∧ ((p2 t28) = false ∧ (True) ∧ ((p2 t28) = false ∧ (True) ∧ ((p2 t28) = false ∧ (((decide (((t28.2.1 : Nat) : Int) > (0 : Int))) = false → (True) ∧ ((decide (((t28.2.1 : Nat) : Int) > (0 : Int))) = false ∧ (∃ t43 : (Option Int), ((0 = 0 ∧ (List.length (z3 t28)) = (List.length (z3 t28))) ∧ Fun cfg 14 [.agg [.c (.sc (.int .u32 (IntKind.wrap .u32 (t3.1)))), .c (.fs (.pair (.int .i64) (.pair (.int .i64) (.pair (.int .u8) (.sl (.int .u8))))) (z3 t28) false)]] [] (image_Check.R t43) [] ∧ True) ∧ ((decide (((t28.2.1 : Nat) : Int) > (0 : Int))) = false ∧ (True) ∧ ((decide (((t28.2.1 : Nat) : Int) > (0 : Int))) = false ∧ (((!(Option.isNone t43)) = true → (True ∧ (True) ∧ (True ∧ (((True) ∧ True) ∧ ((True) ∧ (True) ∧ True) ∧ (.tup [.agg [.c (.sc (.int .u32 (0 : Int))), .c (.fs (.pair (.int .i64) (.pair (.int .i64) (.pair (.int .u8) (.sl (.int .u8))))) ([] : List (Int × (Int × (Int × (List Int))))) false)], .one (.err (some (8 : Int)))] : Tm) = image_Decode.R r ∧ ([.fix false (.int .u8) a2 5] : List Box) = image_Decode.B a0 a1 a2 r)))) ∧ ((!(Option.isNone t43)) = false → (True ∧ (True ∧ (True) ∧ (True) ∧ (True ∧ (((True) ∧ True) ∧ ((((0 = 0 ∧ (List.length (z3 t28)) = (List.length (z3 t28)))) ∧ True) ∧ (True) ∧ True) ∧ (.tup [.agg [.c (.sc (.int .u32 (IntKind.wrap .u32 (t3.1)))), .c (.fs (.pair (.int .i64) (.pair (.int .i64) (.pair (.int .u8) (.sl (.int .u8))))) (z3 t28) false)], .one (.err none)] : Tm) = image_Decode.R r ∧ ([.fix false (.int .u8) a2 5] : List Box) = image_Decode.B a0 a1 a2 r))))))))))) ∧ ((decide (((t28.2.1 : Nat) : Int) > (0 : Int))) = true → ((decide (((t28.2.1 : Nat) : Int) > (0 : Int))) = true ∧ ((decide (((t28.2.1 : Nat) : Int) > (0 : Int))) = true ∧ ((decide (((t28.2.1 : Nat) : Int) > (0 : Int))) = true ∧ (true = true ∧ (True ∧ (True) ∧ (True ∧ (((True) ∧ True) ∧ ((True) ∧ (True) ∧ True) ∧ (.tup [.agg [.c (.sc (.int .u32 (0 : Int))), .c (.fs (.pair (.int .i64) (.pair (.int .i64) (.pair (.int .u8) (.sl (.int .u8))))) ([] : List (Int × (Int × (Int × (List Int))))) false)], .one (.err (some (8 : Int)))] : Tm) = image_Decode.R r ∧ ([.fix false (.int .u8) a2 5] : List Box) = image_Decode.B a0 a1 a2 r)))))))))))))))) ∧ ((p2 t28) = true → ((p2 t28) = true ∧ ((p2 t28) = true ∧ ((p2 t28) = true ∧ ((p2 t28) = true ∧ ((p2 t28) = true ∧ ((p2 t28) = true ∧ (true = true ∧ (true = true ∧ (true = true ∧ (true = true ∧ (true = true ∧ (True ∧ (True) ∧ (True ∧ (((True) ∧ True) ∧ ((True) ∧ (True) ∧ True) ∧ (.tup [.agg [.c (.sc (.int .u32 (0 : Int))), .c (.fs (.pair (.int .i64) (.pair (.int .i64) (.pair (.int .u8) (.sl (.int .u8))))) ([] : List (Int × (Int × (Int × (List Int))))) false)], .one (.err (some (8 : Int)))] : Tm) = image_Decode.R r ∧ ([.fix false (.int .u8) a2 5] : List Box) = image_Decode.B a0 a1 a2 r))))))))))))))))))))))))) (by kernel_rfl) ?_)
  obtain ⟨t1, ht1, h⟩ := of_bind h
  refine ⟨t1, ⟨image_reader_take.fun_ ht1, trivial⟩, ?_⟩
  refine ⟨trivial, trivial, ?_⟩
  refine ⟨fun b2 => ?_, fun b2 => ?_⟩
  · rw [if_pos (str_f (not_t b2))] at h
    refine ⟨trivial, trivial, trivial, ?_⟩
    obtain rfl := Option.some.inj h
    exact ⟨⟨trivial, trivial⟩, ⟨trivial, trivial, trivial⟩, rfl, rfl⟩
  · rw [if_neg (not_not_intro (str_t (not_f b2)))] at h
    obtain ⟨t3, ht3, h⟩ := of_bind h
    refine ⟨t3, ⟨image_reader_number.fun_ ht3, trivial⟩, ?_⟩
    refine ⟨trivial, trivial, ?_⟩
    obtain ⟨t4, ht4, h⟩ := of_bind h
    refine ⟨t4, ⟨image_reader_number.fun_ ht4, trivial⟩, ?_⟩
    refine ⟨trivial, ?_⟩
    obtain ⟨t28, ht28, h⟩ := of_bind h
    refine ⟨⟨trivial, trivial, trivial, trivial⟩, t28, Trip.loop FUEL (image_Decode.l0_ok t3 a2 FUEL t4.2.1 t4.2.2.1 t4.2.2.2 ([] : List (Int × (Int × (Int × (List Int))))) t4.1 t28 ht28), ?_⟩
    refine ⟨trivial, ?_⟩
    refine ⟨fun b41 => ?_, fun b41 => ?_⟩
    · rw [if_neg (ff b41)] at h
      refine ⟨b41, ?_⟩
      refine ⟨b41, ?_⟩
      refine ⟨b41, ?_⟩
      refine ⟨trivial, ?_⟩
      refine ⟨b41, ?_⟩
      refine ⟨trivial, ?_⟩
      refine ⟨b41, ?_⟩
      refine ⟨trivial, ?_⟩
      refine ⟨b41, ?_⟩
      refine ⟨fun b42 => ?_, fun b42 => ?_⟩
      · rw [if_neg (of_decide_eq_false b42)] at h
        refine ⟨trivial, ?_⟩
        refine ⟨b42, ?_⟩
        obtain ⟨t43, ht43, h⟩ := of_bind h
        refine ⟨t43, ⟨⟨rfl, rfl⟩, image_Check.fun_ ht43, trivial⟩, ?_⟩
        refine ⟨b42, ?_⟩
        refine ⟨trivial, ?_⟩
        refine ⟨b42, ?_⟩
        refine ⟨fun b44 => ?_, fun b44 => ?_⟩
        · rw [if_pos (none_f (not_t b44))] at h
          refine ⟨trivial, trivial, trivial, ?_⟩
          obtain rfl := Option.some.inj h
          exact ⟨⟨trivial, trivial⟩, ⟨trivial, trivial, trivial⟩, rfl, rfl⟩
        · rw [if_neg (not_not_intro (none_t (not_f b44)))] at h
          refine ⟨trivial, trivial, trivial, trivial, trivial, ?_⟩
          obtain rfl := Option.some.inj h
          exact ⟨⟨trivial, trivial⟩, ⟨⟨⟨rfl, rfl⟩, trivial⟩, trivial, trivial⟩, rfl, rfl⟩
      · rw [if_pos (of_decide_eq_true b42)] at h
        refine ⟨b42, ?_⟩
        refine ⟨b42, ?_⟩
        refine ⟨b42, ?_⟩
        refine ⟨rfl, trivial, trivial, trivial, ?_⟩
        obtain rfl := Option.some.inj h
        exact ⟨⟨trivial, trivial⟩, ⟨trivial, trivial, trivial⟩, rfl, rfl⟩
    · rw [if_pos b41] at h
      refine ⟨b41, ?_⟩
      refine ⟨b41, ?_⟩
      refine ⟨b41, ?_⟩
      refine ⟨b41, ?_⟩
      refine ⟨b41, ?_⟩
      refine ⟨b41, ?_⟩
      refine ⟨rfl, rfl, rfl, rfl, rfl, trivial, trivial, trivial, ?_⟩
      obtain rfl := Option.some.inj h
      exact ⟨⟨trivial, trivial⟩, ⟨trivial, trivial, trivial⟩, rfl, rfl⟩
/-! slices.Clone[[]byte,byte] -/
def slices_Clone_byte_byte_v1.f (a0 : (List Int)) : Option (List Int) :=
  if (List.length a0) = 0 then same (
    some ([] : List Int)
    ) (
    if True ∧ 0 = 0 ∧ 0 = 0 ∧ ((0 + (List.length a0)) * 1 ≤ 140737488355328 ∧ 0 + (List.length a0) ≤ 9223372036854775807) then
      some (([] : List Int) ++ a0)
    else none
    )
  else
    if True ∧ 0 = 0 ∧ 0 = 0 ∧ ((0 + (List.length a0)) * 1 ≤ 140737488355328 ∧ 0 + (List.length a0) ≤ 9223372036854775807) then
      some (([] : List Int) ++ a0)
    else none
def slices_Clone_byte_byte_v1.R (r : (List Int)) : Tm := .v (.one (.fs (.int .u8) r false))
theorem slices_Clone_byte_byte_v1.fun_ {a0 : (List Int)} {r : (List Int)} (h : slices_Clone_byte_byte_v1.f a0 = some r) : Fun cfg 31 [.one (.fs (.int .u8) a0 false)] [] (slices_Clone_byte_byte_v1.R r) [] := by
  unfold slices_Clone_byte_byte_v1.f at h
  refine fun_of_run cfg_ok (f := 31) (fn := Tryd.f31) Tryd.func31 rfl (by kernel_rfl) (rs := [.tmp 2]) rfl (nt := 8) rfl (l := fin) (k := (.nq (.one true (aE 2 (.adj [.co 0 true [(.int .u8)]] .nil))) (.one false (.d .no (.d (.b false) (.adj [] (.adj [.co 0 true [], .drop 0] .nil))))))) (to_goal (q := (((List.length a0) = 0 → (true = true ∧ (True ∧ (True ∧ ((True) ∧ ((True) ∧ True) ∧ (.v (.one (.fs (.int .u8) ([] : List Int) false)) : Tm) = slices_Clone_byte_byte_v1.R r ∧ ([] : List Box) = []))))) ∧ (false = false ∧ (True ∧ 0 = 0 ∧ 0 = 0 ∧ ((0 + (List.length a0)) * 1 ≤ 140737488355328 ∧ 0 + (List.length a0) ≤ 9223372036854775807)) ∧ (True ∧ ((True) ∧ ((((0 = 0 ∧ (List.length (([] : List Int) ++ a0)) = (List.length (([] : List Int) ++ a0)))) ∧ True) ∧ (True) ∧ True) ∧ (.v (.one (.fs (.int .u8) (([] : List Int) ++ a0) false)) : Tm) = slices_Clone_byte_byte_v1.R r ∧ ([] : List Box) = []))))) (by kernel_rfl) ?_)
  refine ⟨fun g1 => ?_, ?_⟩
  · replace h := same_a g1 h
    refine ⟨rfl, trivial, trivial, ?_⟩
    obtain rfl := Option.some.inj h
    exact ⟨trivial, ⟨trivial, trivial⟩, rfl, rfl⟩
  · replace h := same_b h
    refine ⟨rfl, ?_⟩
    obtain ⟨g2, h⟩ := of_guard h
    refine ⟨g2, ?_⟩
    refine ⟨trivial, ?_⟩
    obtain rfl := Option.some.inj h
    exact ⟨trivial, ⟨⟨⟨rfl, rfl⟩, trivial⟩, trivial, trivial⟩, rfl, rfl⟩
/-! (*halter/image.reader).take -/
def image_reader_take_v1.f (a0 : Int) (a1 : (List Int)) (a2 : Bool) : Option ((List Int) × (List Int) × Bool) :=
  if a2 = true then
    if 0 ≤ a0 ∧ a0 = a0 ∧ (1 : Int) * a0 ≤ 281474976710656 ∧ a0 ≤ 9223372036854775807 then
      if (0 + (Int.toNat a0) ≤ (Int.toNat a0)) ∧ True then
        some ((List.take (Int.toNat a0) (List.replicate (Int.toNat a0) (0 : Int))), a1, true)
      else none
    else none
  else
    if a0 > (((List.length a1) : Nat) : Int) then
      if 0 ≤ a0 ∧ a0 = a0 ∧ (1 : Int) * a0 ≤ 281474976710656 ∧ a0 ≤ 9223372036854775807 then
        if (0 + (Int.toNat a0) ≤ (Int.toNat a0)) ∧ True then
          some ((List.take (Int.toNat a0) (List.replicate (Int.toNat a0) (0 : Int))), a1, true)
        else none
      else none
    else
      if 0 ≤ a0 ∧ a0 ≤ (((List.length a1) : Nat) : Int) then
        (slices_Clone_byte_byte_v1.f (List.take (Int.toNat a0) a1)).bind fun t7 =>
        if (True) ∧ ((0 ≤ a0 ∧ a0 ≤ (((List.length a1) : Nat) : Int))) then
          some (t7, (List.drop (Int.toNat a0) a1), a2)
        else none
      else none
def image_reader_take_v1.R (r : (List Int) × (List Int) × Bool) : Tm := .v (.one (.fs (.int .u8) r.1 false))
def image_reader_take_v1.B (a0 : Int) (a1 : (List Int)) (a2 : Bool) (r : (List Int) × (List Int) × Bool) : List Box := [.ex false [.c (.fs (.int .u8) r.2.1 false), .c (.sc (.bool r.2.2))] 59]
theorem image_reader_take_v1.fun_ {a0 : Int} {a1 : (List Int)} {a2 : Bool} {r : (List Int) × (List Int) × Bool} (h : image_reader_take_v1.f a0 a1 a2 = some r) : Fun cfg 20 [.one (.ptr 0 ⟨0, 0, 0, 0⟩), .one (.sc (.int .i64 a0))] [.ex false [.c (.fs (.int .u8) a1 false), .c (.sc (.bool a2))] 59] (image_reader_take_v1.R r) (image_reader_take_v1.B a0 a1 a2 r) := by
  unfold image_reader_take_v1.f at h
  refine fun_of_run cfg_ok (f := 20) (fn := Tryd.f20) Tryd.func20 rfl (by kernel_rfl) (rs := [.tmp 4]) rfl (nt := 41) rfl (l := fin) (k := (.br (oT 8 (.d .no (.adj [] (.adj [.co 0 false [], .drop 1] .nil)))) (oF 7 (.br (.d .no (.adj [] (.adj [.co 0 false [], .drop 1] .nil))) (.call true [] ((List Int)) slices_Clone_byte_byte_v1.R (fun t7 => (aE 4 .nil))))))) (to_goal (q := (True) ∧ ((a2 = false → (a2 = false ∧ (a2 = false ∧ (a2 = false ∧ (a2 = false ∧ (True) ∧ (a2 = false ∧ (True) ∧ (a2 = false ∧ (True) ∧ (a2 = false ∧ (((decide (a0 > (((List.length a1) : Nat) : Int))) = true → (True) ∧ (0 ≤ a0 ∧ a0 = a0 ∧ (1 : Int) * a0 ≤ 281474976710656 ∧ a0 ≤ 9223372036854775807) ∧ (True ∧ ((True) ∧ (((0 + (Int.toNat a0) ≤ (Int.toNat a0)) ∧ True) ∧ (True) ∧ True) ∧ (.v (.one (.fs (.int .u8) (List.take (Int.toNat a0) (List.replicate (Int.toNat a0) (0 : Int))) false)) : Tm) = image_reader_take_v1.R r ∧ ([.ex false [.c (.fs (.int .u8) a1 false), .c (.sc (.bool true))] 59] : List Box) = image_reader_take_v1.B a0 a1 a2 r))) ∧ ((decide (a0 > (((List.length a1) : Nat) : Int))) = false → (True) ∧ (0 ≤ a0 ∧ a0 ≤ (((List.length a1) : Nat) : Int)) ∧ (∃ t7 : (List Int), (Fun cfg 31 [.one (.fs (.int .u8) (List.take (Int.toNat a0) a1) false)] [] (slices_Clone_byte_byte_v1.R t7) [] ∧ True) ∧ (True ∧ (True) ∧ ((True) ∧ ((0 ≤ a0 ∧ a0 ≤ (((List.length a1) : Nat) : Int)))) ∧ (True) ∧ (True ∧ (True ∧ ((True) ∧ (True) ∧ (.v (.one (.fs (.int .u8) t7 false)) : Tm) = image_reader_take_v1.R r ∧ ([.ex false [.c (.fs (.int .u8) (List.drop (Int.toNat a0) a1) false), .c (.sc (.bool a2))] 59] : List Box) = image_reader_take_v1.B a0 a1 a2 r))))))))))))))) ∧ (a2 = true → (a2 = true ∧ (a2 = true ∧ (a2 = true ∧ (a2 = true ∧ (a2 = true ∧ (a2 = true ∧ (a2 = true ∧ (true = true ∧ (True) ∧ (0 ≤ a0 ∧ a0 = a0 ∧ (1 : Int) * a0 ≤ 281474976710656 ∧ a0 ≤ 9223372036854775807) ∧ (True ∧ ((True) ∧ (((0 + (Int.toNat a0) ≤ (Int.toNat a0)) ∧ True) ∧ (True) ∧ True) ∧ (.v (.one (.fs (.int .u8) (List.take (Int.toNat a0) (List.replicate (Int.toNat a0) (0 : Int))) false)) : Tm) = image_reader_take_v1.R r ∧ ([.ex false [.c (.fs (.int .u8) a1 false), .c (.sc (.bool true))] 59] : List Box) = image_reader_take_v1.B a0 a1 a2 r))))))))))))) (by kernel_rfl) ?_)
  refine ⟨trivial, ?_⟩
  refine ⟨fun b1 => ?_, fun b1 => ?_⟩
  · rw [if_neg (ff b1)] at h
    refine ⟨b1, ?_⟩
    refine ⟨b1, ?_⟩
    refine ⟨b1, ?_⟩
    refine ⟨b1, ?_⟩
    refine ⟨trivial, ?_⟩
    refine ⟨b1, ?_⟩
    refine ⟨trivial, ?_⟩
    refine ⟨b1, ?_⟩
    refine ⟨trivial, ?_⟩
    refine ⟨b1, ?_⟩
    refine ⟨fun b4 => ?_, fun b4 => ?_⟩
    · rw [if_pos (of_decide_eq_true b4)] at h
      refine ⟨trivial, ?_⟩
      obtain ⟨g6, h⟩ := of_guard h
      refine ⟨g6, ?_⟩
      refine ⟨trivial, ?_⟩
      obtain ⟨g5, h⟩ := of_guard h
      obtain rfl := Option.some.inj h
      exact ⟨trivial, ⟨g5, trivial, trivial⟩, rfl, rfl⟩
    · rw [if_neg (of_decide_eq_false b4)] at h
      refine ⟨trivial, ?_⟩
      obtain ⟨g9, h⟩ := of_guard h
      refine ⟨g9, ?_⟩
      obtain ⟨t7, ht7, h⟩ := of_bind h
      refine ⟨t7, ⟨slices_Clone_byte_byte_v1.fun_ ht7, trivial⟩, ?_⟩
      refine ⟨trivial, trivial, ?_⟩
      obtain ⟨g8, h⟩ := of_guard h
      refine ⟨g8, ?_⟩
      refine ⟨trivial, trivial, trivial, ?_⟩
      obtain rfl := Option.some.inj h
      exact ⟨trivial, trivial, rfl, rfl⟩
  · rw [if_pos b1] at h
    refine ⟨b1, ?_⟩
    refine ⟨b1, ?_⟩
    refine ⟨b1, ?_⟩
    refine ⟨b1, ?_⟩
    refine ⟨b1, ?_⟩
    refine ⟨b1, ?_⟩
    refine ⟨b1, ?_⟩
    refine ⟨rfl, trivial, ?_⟩
    obtain ⟨g3, h⟩ := of_guard h
    refine ⟨g3, ?_⟩
    refine ⟨trivial, ?_⟩
    obtain ⟨g2, h⟩ := of_guard h
    obtain rfl := Option.some.inj h
    exact ⟨trivial, ⟨g2, trivial, trivial⟩, rfl, rfl⟩
/-! (*halter/image.reader).number -/
def image_reader_number_v1.l0 (t1 : (List Int) × (List Int) × Bool) : Nat → Int → Int → Option Int
  | 0, _, _ => none
  | n + 1, x2, x3 =>
    if x3 < (((List.length t1.1) : Nat) : Int) then
      if 0 ≤ x3 ∧ x3 < (((List.length t1.1) : Nat) : Int) then
        if 0 ≤ (IntKind.wrap .i64 ((8 : Int) * x3)) then
          image_reader_number_v1.l0 t1 n (bits .or .i64 x2 (shl .i64 (IntKind.wrap .i64 ((List.getD t1.1 (Int.toNat x3) (0 : Int)))) (IntKind.wrap .i64 ((8 : Int) * x3)))) (IntKind.wrap .i64 (x3 + (1 : Int)))
        else none
      else none
    else
      some x2
def image_reader_number_v1.l0_S (t1 : (List Int) × (List Int) × Bool) (x2 : Int) (x3 : Int) : St := ⟨[.any, .any, .any, .any, .any, .v (.one (.sc (.int .i64 x2))), .any, .any, .any, .any, .v (.one (.fs (.int .u8) t1.1 false)), .v (.one (.sc (.int .i64 (((List.length t1.1) : Nat) : Int)))), .v (.one (.sc (.int .i64 x3))), .any, .any, .any, .any, .any, .any, .any, .any, .any, .any, .any, .any, .any], [.ex false [.c (.fs (.int .u8) t1.2.1 false), .c (.sc (.bool t1.2.2))] 59], 1⟩
def image_reader_number_v1.l0_Q (t1 : (List Int) × (List Int) × Bool) (t : Int) : Exit → St → Prop := fun e s => e = (.exit 0) ∧ s = ⟨[.any, .any, .any, .any, .any, .v (.one (.sc (.int .i64 t))), .any, .any, .any, .any, .any, .any, .any, .any, .any, .any, .any, .any, .any, .any, .any, .any, .any, .any, .any, .any], [.ex false [.c (.fs (.int .u8) t1.2.1 false), .c (.sc (.bool t1.2.2))] 59], 1⟩
theorem image_reader_number_v1.l0_ok (t1 : (List Int) × (List Int) × Bool) : ∀ (n : Nat) (x2 : Int) (x3 : Int) (r : Int), image_reader_number_v1.l0 t1 n x2 x3 = some r → TripN cfg (cpath (Tryd.f21.body.getD .skip) [1, 1, 0, 1, 0, 0]) n (image_reader_number_v1.l0_S t1 x2 x3) (image_reader_number_v1.l0_Q t1 r) := by
  intro n
  induction n with
  | zero => intro x2 x3 r h; cases h
  | succ n ih =>
    intro x2 x3 r h
    rw [image_reader_number_v1.l0] at h
    refine TripN.of_run cfg_ok (k := (.br (aE 5 (.adj [.keep [5, 10, 11, 12], .drop 1] .nil)) (.adj [.keep [5], .drop 1] .nil))) (to_goal (q := (True) ∧ (((decide (x3 < (((List.length t1.1) : Nat) : Int))) = true → (True ∧ (True ∧ (True ∧ (0 ≤ x3 ∧ x3 < (((List.length t1.1) : Nat) : Int)) ∧ (True) ∧ (True ∧ (True) ∧ (True) ∧ (0 ≤ (IntKind.wrap .i64 ((8 : Int) * x3))) ∧ (True) ∧ (True ∧ (True) ∧ (((True) ∧ (True) ∧ True) ∧ TripN cfg (cpath (Tryd.f21.body.getD .skip) [1, 1, 0, 1, 0, 0]) n (image_reader_number_v1.l0_S t1 (bits .or .i64 x2 (shl .i64 (IntKind.wrap .i64 ((List.getD t1.1 (Int.toNat x3) (0 : Int)))) (IntKind.wrap .i64 ((8 : Int) * x3)))) (IntKind.wrap .i64 (x3 + (1 : Int)))) (image_reader_number_v1.l0_Q t1 r)))))))) ∧ ((decide (x3 < (((List.length t1.1) : Nat) : Int))) = false → (((True) ∧ (True) ∧ True) ∧ image_reader_number_v1.l0_Q t1 r (.exit 0) ⟨[.any, .any, .any, .any, .any, .v (.one (.sc (.int .i64 x2))), .any, .any, .any, .any, .any, .any, .any, .any, .any, .any, .any, .any, .any, .any, .any, .any, .any, .any, .any, .any], [.ex false [.c (.fs (.int .u8) t1.2.1 false), .c (.sc (.bool (z2 t1)))] 59], 1⟩)))) (by kernel_rfl) ?_)
    refine ⟨trivial, ?_⟩
    refine ⟨fun b9 => ?_, fun b9 => ?_⟩
    · rw [if_pos (of_decide_eq_true b9)] at h
      refine ⟨trivial, trivial, trivial, ?_⟩
      obtain ⟨g11, h⟩ := of_guard h
      refine ⟨g11, ?_⟩
      refine ⟨trivial, trivial, trivial, trivial, ?_⟩
      obtain ⟨g10, h⟩ := of_guard h
      refine ⟨g10, ?_⟩
      refine ⟨trivial, trivial, trivial, ?_⟩
      exact ⟨⟨trivial, trivial, trivial⟩, ih (bits .or .i64 x2 (shl .i64 (IntKind.wrap .i64 ((List.getD t1.1 (Int.toNat x3) (0 : Int)))) (IntKind.wrap .i64 ((8 : Int) * x3)))) (IntKind.wrap .i64 (x3 + (1 : Int))) r h⟩
    · rw [if_neg (of_decide_eq_false b9)] at h
      obtain rfl := Option.some.inj h
      exact ⟨⟨trivial, trivial, trivial⟩, rfl, rfl⟩
def image_reader_number_v1.f (a0 : Int) (a1 : (List Int)) (a2 : Bool) : Option (Int × (List Int) × Bool) :=
  (image_reader_take_v1.f a0 a1 a2).bind fun t1 =>
  (image_reader_number_v1.l0 t1 FUEL (0 : Int) (0 : Int)).bind fun t8 =>
  some (t8, t1.2.1, t1.2.2)
def image_reader_number_v1.R (r : Int × (List Int) × Bool) : Tm := .v (.one (.sc (.int .i64 r.1)))
def image_reader_number_v1.B (a0 : Int) (a1 : (List Int)) (a2 : Bool) (r : Int × (List Int) × Bool) : List Box := [.ex false [.c (.fs (.int .u8) r.2.1 false), .c (.sc (.bool r.2.2))] 59]
theorem image_reader_number_v1.fun_ {a0 : Int} {a1 : (List Int)} {a2 : Bool} {r : Int × (List Int) × Bool} (h : image_reader_number_v1.f a0 a1 a2 = some r) : Fun cfg 21 [.one (.ptr 0 ⟨0, 0, 0, 0⟩), .one (.sc (.int .i64 a0))] [.ex false [.c (.fs (.int .u8) a1 false), .c (.sc (.bool a2))] 59] (image_reader_number_v1.R r) (image_reader_number_v1.B a0 a1 a2 r) := by
  unfold image_reader_number_v1.f at h
  refine fun_of_run cfg_ok (f := 21) (fn := Tryd.f21) Tryd.func21 rfl (by kernel_rfl) (rs := [.tmp 4]) rfl (nt := 26) rfl (l := fin) (k := (.callR true [] [0] ((List Int) × (List Int) × Bool) (fun t1 => (image_reader_take_v1.R t1)) (fun t1 => (image_reader_take_v1.B a0 a1 a2 t1)) (fun t1 => (.adj [] (.adj [.keep [5, 10, 11, 12]] (.sub (Int) (fun _ => (.exit 0)) (fun t8 => ⟨[.any, .any, .any, .any, .any, .v (.one (.sc (.int .i64 t8))), .any, .any, .any, .any, .any, .any, .any, .any, .any, .any, .any, .any, .any, .any, .any, .any, .any, .any, .any, .any], [.ex false [.c (.fs (.int .u8) t1.2.1 false), .c (.sc (.bool (z2 t1)))] 59], 1⟩) (fun t8 => (aE 3 .nil)))))))) (to_goal (q := (∃ t1 : (List Int) × (List Int) × Bool, (Fun cfg 20 [.one (.ptr 0 ⟨0, 0, 0, 0⟩), .one (.sc (.int .i64 a0))] [.ex false [.c (.fs (.int .u8) a1 false), .c (.sc (.bool a2))] 59] (image_reader_take_v1.R t1) (image_reader_take_v1.B a0 a1 a2 t1) ∧ True) ∧ (True) ∧ (True ∧ (((True) ∧ True) ∧ (∃ t8 : Int, Trip cfg (.loop (cpath (Tryd.f21.body.getD .skip) [1, 1, 0, 1, 0, 0])) ⟨[.any, .any, .any, .any, .any, .v (.one (.sc (.int .i64 (0 : Int)))), .any, .any, .any, .any, .v (.one (.fs (.int .u8) t1.1 false)), .v (.one (.sc (.int .i64 (((List.length t1.1) : Nat) : Int)))), .v (.one (.sc (.int .i64 (0 : Int)))), .any, .any, .any, .any, .any, .any, .any, .any, .any, .any, .any, .any, .any], [.ex false [.c (.fs (.int .u8) t1.2.1 false), .c (.sc (.bool (z2 t1)))] 59], 1⟩ (fun e s => e = (.exit 0) ∧ s = ⟨[.any, .any, .any, .any, .any, .v (.one (.sc (.int .i64 t8))), .any, .any, .any, .any, .any, .any, .any, .any, .any, .any, .any, .any, .any, .any, .any, .any, .any, .any, .any, .any], [.ex false [.c (.fs (.int .u8) t1.2.1 false), .c (.sc (.bool (z2 t1)))] 59], 1⟩) ∧ (True ∧ (True ∧ ((True) ∧ (True) ∧ (.v (.one (.sc (.int .i64 t8))) : Tm) = image_reader_number_v1.R r ∧ ([.ex false [.c (.fs (.int .u8) t1.2.1 false), .c (.sc (.bool (z2 t1)))] 59] : List Box) = image_reader_number_v1.B a0 a1 a2 r)))))))) (by kernel_rfl) ?_)
  obtain ⟨t1, ht1, h⟩ := of_bind h
  refine ⟨t1, ⟨image_reader_take_v1.fun_ ht1, trivial⟩, ?_⟩
  refine ⟨trivial, trivial, ?_⟩
  obtain ⟨t8, ht8, h⟩ := of_bind h
  refine ⟨⟨trivial, trivial⟩, t8, Trip.loop FUEL (image_reader_number_v1.l0_ok t1 FUEL (0 : Int) (0 : Int) t8 ht8), ?_⟩
  refine ⟨trivial, trivial, ?_⟩
  obtain rfl := Option.some.inj h
  exact ⟨trivial, trivial, rfl, rfl⟩
/-! (*halter/image.reader).seg -/
def image_reader_seg_v1.f (a0 : (List Int)) (a1 : Bool) : Option (Int × Int × Int × (List Int) × (List Int) × Bool) :=
  (image_reader_number_v1.f (2 : Int) a0 a1).bind fun t1 =>
  (image_reader_number_v1.f (2 : Int) t1.2.1 t1.2.2).bind fun t2 =>
  (image_reader_number_v1.f (1 : Int) t2.2.1 t2.2.2).bind fun t3 =>
  (image_reader_number_v1.f (2 : Int) t3.2.1 t3.2.2).bind fun t4 =>
  (image_reader_take_v1.f t4.1 t4.2.1 t4.2.2).bind fun t5 =>
  some (t1.1, t2.1, (IntKind.wrap .u8 (t3.1)), t5.1, t5.2.1, t5.2.2)
def image_reader_seg_v1.R (r : Int × Int × Int × (List Int) × (List Int) × Bool) : Tm := .v (.agg [.c (.sc (.int .i64 r.1)), .c (.sc (.int .i64 r.2.1)), .c (.sc (.int .u8 r.2.2.1)), .c (.fs (.int .u8) r.2.2.2.1 false)])
def image_reader_seg_v1.B (a0 : (List Int)) (a1 : Bool) (r : Int × Int × Int × (List Int) × (List Int) × Bool) : List Box := [.ex false [.c (.fs (.int .u8) r.2.2.2.2.1 false), .c (.sc (.bool r.2.2.2.2.2))] 59]
theorem image_reader_seg_v1.fun_ {a0 : (List Int)} {a1 : Bool} {r : Int × Int × Int × (List Int) × (List Int) × Bool} (h : image_reader_seg_v1.f a0 a1 = some r) : Fun cfg 22 [.one (.ptr 0 ⟨0, 0, 0, 0⟩)] [.ex false [.c (.fs (.int .u8) a0 false), .c (.sc (.bool a1))] 59] (image_reader_seg_v1.R r) (image_reader_seg_v1.B a0 a1 r) := by
  unfold image_reader_seg_v1.f at h
  refine fun_of_run cfg_ok (f := 22) (fn := Tryd.f22) Tryd.func22 rfl (by kernel_rfl) (rs := [.cell 2 50]) rfl (nt := 18) rfl (l := fin) (k := (.callR true [] [0] (Int × (List Int) × Bool) (fun t1 => (image_reader_number_v1.R t1)) (fun t1 => (image_reader_number_v1.B (2 : Int) a0 a1 t1)) (fun t1 => (.callR true [] [0] (Int × (List Int) × Bool) (fun t2 => (image_reader_number_v1.R t2)) (fun t2 => (image_reader_number_v1.B (2 : Int) t1.2.1 (z2 t1) t2)) (fun t2 => (.callR true [] [0] (Int × (List Int) × Bool) (fun t3 => (image_reader_number_v1.R t3)) (fun t3 => (image_reader_number_v1.B (1 : Int) t2.2.1 (z2 t2) t3)) (fun t3 => (.callR true [] [0] (Int × (List Int) × Bool) (fun t4 => (image_reader_number_v1.R t4)) (fun t4 => (image_reader_number_v1.B (2 : Int) t3.2.1 (z2 t3) t4)) (fun t4 => (.callR true [] [0] ((List Int) × (List Int) × Bool) (fun t5 => (image_reader_take_v1.R t5)) (fun t5 => (image_reader_take_v1.B t4.1 t4.2.1 (z2 t4) t5)) (fun t5 => (aE 2 (.adj [.drop 1] .nil))))))))))))) (to_goal (q := (∃ t1 : Int × (List Int) × Bool, (Fun cfg 21 [.one (.ptr 0 ⟨0, 0, 0, 0⟩), .one (.sc (.int .i64 (2 : Int)))] [.ex false [.c (.fs (.int .u8) a0 false), .c (.sc (.bool a1))] 59] (image_reader_number_v1.R t1) (image_reader_number_v1.B (2 : Int) a0 a1 t1) ∧ True) ∧ (∃ t2 : Int × (List Int) × Bool, (Fun cfg 21 [.one (.ptr 0 ⟨0, 0, 0, 0⟩), .one (.sc (.int .i64 (2 : Int)))] [.ex false [.c (.fs (.int .u8) t1.2.1 false), .c (.sc (.bool (z2 t1)))] 59] (image_reader_number_v1.R t2) (image_reader_number_v1.B (2 : Int) t1.2.1 (z2 t1) t2) ∧ True) ∧ (∃ t3 : Int × (List Int) × Bool, (Fun cfg 21 [.one (.ptr 0 ⟨0, 0, 0, 0⟩), .one (.sc (.int .i64 (1 : Int)))] [.ex false [.c (.fs (.int .u8) t2.2.1 false), .c (.sc (.bool (z2 t2)))] 59] (image_reader_number_v1.R t3) (image_reader_number_v1.B (1 : Int) t2.2.1 (z2 t2) t3) ∧ True) ∧ (True) ∧ (True) ∧ (∃ t4 : Int × (List Int) × Bool, (Fun cfg 21 [.one (.ptr 0 ⟨0, 0, 0, 0⟩), .one (.sc (.int .i64 (2 : Int)))] [.ex false [.c (.fs (.int .u8) t3.2.1 false), .c (.sc (.bool (z2 t3)))] 59] (image_reader_number_v1.R t4) (image_reader_number_v1.B (2 : Int) t3.2.1 (z2 t3) t4) ∧ True) ∧ (∃ t5 : (List Int) × (List Int) × Bool, (Fun cfg 20 [.one (.ptr 0 ⟨0, 0, 0, 0⟩), .one (.sc (.int .i64 t4.1))] [.ex false [.c (.fs (.int .u8) t4.2.1 false), .c (.sc (.bool (z2 t4)))] 59] (image_reader_take_v1.R t5) (image_reader_take_v1.B t4.1 t4.2.1 (z2 t4) t5) ∧ True) ∧ (True) ∧ (True ∧ (True) ∧ (True) ∧ (True ∧ (((True) ∧ True) ∧ ((True) ∧ True) ∧ (.v (.agg [.c (.sc (.int .i64 t1.1)), .c (.sc (.int .i64 t2.1)), .c (.sc (.int .u8 (IntKind.wrap .u8 (t3.1)))), .c (.fs (.int .u8) t5.1 false)]) : Tm) = image_reader_seg_v1.R r ∧ ([.ex false [.c (.fs (.int .u8) t5.2.1 false), .c (.sc (.bool (z2 t5)))] 59] : List Box) = image_reader_seg_v1.B a0 a1 r))))))))) (by kernel_rfl) ?_)
  obtain ⟨t1, ht1, h⟩ := of_bind h
  refine ⟨t1, ⟨image_reader_number_v1.fun_ ht1, trivial⟩, ?_⟩
  obtain ⟨t2, ht2, h⟩ := of_bind h
  refine ⟨t2, ⟨image_reader_number_v1.fun_ ht2, trivial⟩, ?_⟩
  obtain ⟨t3, ht3, h⟩ := of_bind h
  refine ⟨t3, ⟨image_reader_number_v1.fun_ ht3, trivial⟩, ?_⟩
  refine ⟨trivial, trivial, ?_⟩
  obtain ⟨t4, ht4, h⟩ := of_bind h
  refine ⟨t4, ⟨image_reader_number_v1.fun_ ht4, trivial⟩, ?_⟩
  obtain ⟨t5, ht5, h⟩ := of_bind h
  refine ⟨t5, ⟨image_reader_take_v1.fun_ ht5, trivial⟩, ?_⟩
  refine ⟨trivial, trivial, trivial, trivial, trivial, ?_⟩
  obtain rfl := Option.some.inj h
  exact ⟨⟨trivial, trivial⟩, ⟨trivial, trivial⟩, rfl, rfl⟩
/-! halter/image.Decode -/
def image_Decode_v1.l0 (t3 : Int × (List Int) × Bool) : Nat → (List Int) → Bool → (List (Int × (Int × (Int × (List Int))))) → Int → Option ((List Int) × Bool × (List (Int × (Int × (Int × (List Int))))))
  | 0, _, _, _, _ => none
  | n + 1, x15, x16, x17, x18 =>
    if x18 > (0 : Int) then
      if ¬ (x16 = true) then
        (image_reader_seg_v1.f x15 x16).bind fun t29 =>
        if 0 + 1 ≤ 1 ∧ 0 = 0 ∧ (List.length x17) = (List.length x17) ∧ (((List.length x17) + (List.length (List.take 1 [(t29.1, (t29.2.1, (t29.2.2.1, t29.2.2.2.1)))]))) * 48 ≤ 140737488355328 ∧ (List.length x17) + (List.length (List.take 1 [(t29.1, (t29.2.1, (t29.2.2.1, t29.2.2.2.1)))])) ≤ 9223372036854775807) then
          image_Decode_v1.l0 t3 n t29.2.2.2.2.1 t29.2.2.2.2.2 (x17 ++ (List.take 1 [(t29.1, (t29.2.1, (t29.2.2.1, t29.2.2.2.1)))])) (IntKind.wrap .i64 (x18 - (1 : Int)))
        else none
      else
        some (x15, x16, x17)
    else
      some (x15, x16, x17)
def image_Decode_v1.l0_S (t3 : Int × (List Int) × Bool) (x15 : List Int) (x16 : Bool) (x17 : List (Int × (Int × (Int × (List Int))))) (x18 : Int) : St := ⟨[.any, .any, .v (.one (.ptr 0 ⟨0, 0, 0, 0⟩)), .any, .v (.one (.ptr 1 ⟨0, 0, 0, 0⟩)), .v (.one (.ptr 2 ⟨0, 0, 0, 0⟩)), .v (.one (.sc (.int .i64 x18))), .any, .any, .any, .any, .any, .any, .any, .any, .any, .any, .any, .any, .any, .any, .any, .any, .any, .any, .any, .any, .any, .any, .any, .any, .any, .any, .any, .any, .any, .any, .any, .any, .any, .any, .any, .any, .any, .any, .any, .any, .any, .any, .any, .any, .any, .any, .any, .any, .any, .any, .any, .any, .any], [.ex false [.c (.sc (.int .u32 (0 : Int))), .c (.sc (.slice none 0 0))] 36, .ex false [.c (.fs (.int .u8) x15 false), .c (.sc (.bool x16))] 59, .ex false [.c (.sc (.int .u32 (IntKind.wrap .u32 (t3.1)))), .c (.os 3 0 0 4 (List.length x17) none)] 36, .gro false (.pair (.int .i64) (.pair (.int .i64) (.pair (.int .u8) (.sl (.int .u8))))) x17 50], 0⟩
def image_Decode_v1.l0_Q (t3 : Int × (List Int) × Bool) (t : (List Int) × Bool × (List (Int × (Int × (Int × (List Int)))))) : Exit → St → Prop := fun e s => e = (.exit 0) ∧ s = ⟨[.any, .any, .v (.one (.ptr 0 ⟨0, 0, 0, 0⟩)), .any, .v (.one (.ptr 1 ⟨0, 0, 0, 0⟩)), .v (.one (.ptr 2 ⟨0, 0, 0, 0⟩)), .any, .any, .any, .any, .any, .any, .any, .any, .any, .any, .any, .any, .any, .any, .any, .any, .any, .any, .any, .any, .any, .any, .any, .any, .any, .any, .any, .any, .any, .any, .any, .any, .any, .any, .any, .any, .any, .any, .any, .any, .any, .any, .any, .any, .any, .any, .any, .any, .any, .any, .any, .any, .any, .any], [.ex false [.c (.sc (.int .u32 (0 : Int))), .c (.sc (.slice none 0 0))] 36, .ex false [.c (.fs (.int .u8) t.1 false), .c (.sc (.bool t.2.1))] 59, .ex false [.c (.sc (.int .u32 (IntKind.wrap .u32 (t3.1)))), .c (.os 3 0 0 4 (List.length t.2.2) none)] 36, .gro false (.pair (.int .i64) (.pair (.int .i64) (.pair (.int .u8) (.sl (.int .u8))))) t.2.2 50], 0⟩
theorem image_Decode_v1.l0_ok (t3 : Int × (List Int) × Bool) : ∀ (n : Nat) (x15 : List Int) (x16 : Bool) (x17 : List (Int × (Int × (Int × (List Int))))) (x18 : Int) (r : (List Int) × Bool × (List (Int × (Int × (Int × (List Int)))))), image_Decode_v1.l0 t3 n x15 x16 x17 x18 = some r → TripN cfg (cpath (Tryd.f10.body.getD .skip) [1, 1, 1, 1, 0, 1, 0, 0]) n (image_Decode_v1.l0_S t3 x15 x16 x17 x18) (image_Decode_v1.l0_Q t3 r) := by
  intro n
  induction n with
  | zero => intro x15 x16 x17 x18 r h; cases h
  | succ n ih =>
    intro x15 x16 x17 x18 r h
    rw [image_Decode_v1.l0] at h
    refine TripN.of_run cfg_ok (k := (.br (oT 5 (.br (.ex (Int × Int × Int × (List Int) × (List Int) × Bool) (fun t29 => (.drP [(0, dN), (2, dN), (1, ⟨none, .no, true⟩), (3, ⟨none, .callR true [] [1] (image_reader_seg_v1.R t29) (image_reader_seg_v1.B x15 x16 t29), true⟩), (4, dN), (5, ⟨none, .mv false, false⟩), (6, dN), (7, dN)] [([0, 2, 3, 1, 4, 5, 6, 7], [0, 1, 2, 3, 4, 5]), ([0, 2, 3, 4, 1, 5, 6, 7], [0, 1, 2, 3, 4, 5])] ⟨[.any, .any, .v (.one (.ptr 0 ⟨0, 0, 0, 0⟩)), .any, .v (.one (.ptr 1 ⟨0, 0, 0, 0⟩)), .v (.one (.ptr 2 ⟨0, 0, 0, 0⟩)), .v (.one (.sc (.int .i64 x18))), .any, .any, .any, .any, .any, .any, .any, .any, .any, .any, .any, .any, .any, .any, .any, .v (.one (.sc (.int .i64 x18))), .v (.one (.sc (.bool (decide (x18 > (0 : Int)))))), .v (.one (.sc (.bool (decide (x18 > (0 : Int)))))), .v (.one (.ptr 1 ⟨0, 0, 0, 0⟩)), .v (.one (.ptr 1 ⟨0, 0, 0, 0⟩)), .v (.one (.ptr 1 ⟨1, 0, 0, 0⟩)), .v (.one (.sc (.bool x16))), .v (.one (.sc (.bool (!x16)))), .v (.one (.sc (.bool (!x16)))), .any, .any, .v (.one (.ptr 2 ⟨1, 0, 0, 0⟩)), .any, .v (.one (.ptr 1 ⟨0, 0, 0, 0⟩)), .v (.agg [.c (.sc (.int .i64 t29.1)), .c (.sc (.int .i64 t29.2.1)), .c (.sc (.int .u8 (p2 t29))), .c (.fs (.int .u8) (p3 t29) false)]), .v (.one (.os 4 0 0 4 1 (some 1))), .v (.one (.os 3 0 0 4 (List.length (x17 ++ (List.take 1 [(t29.1, (t29.2.1, ((p2 t29), (p3 t29))))]))) none)), .v (.one (.ptr 2 ⟨1, 0, 0, 0⟩)), .any, .any, .any, .any, .any, .any, .any, .any, .any, .any, .any, .any, .any, .any, .any, .any, .any, .any, .any, .any], [.ex false [.c (.sc (.int .u32 (0 : Int))), .c (.sc (.slice none 0 0))] 36, .ex false [.c (.fs (.int .u8) (p4 t29) false), .c (.sc (.bool (z5 t29)))] 59, .ex false [.c (.sc (.int .u32 (IntKind.wrap .u32 (t3.1)))), .c (.os 3 0 0 4 (List.length (x17 ++ (List.take 1 [(t29.1, (t29.2.1, ((p2 t29), (p3 t29))))]))) none)] 36, .gro false (.pair (.int .i64) (.pair (.int .i64) (.pair (.int .u8) (.sl (.int .u8))))) (x17 ++ (List.take 1 [(t29.1, (t29.2.1, ((p2 t29), (p3 t29))))])) 50, .ex false [.row 1 (.pair (.int .i64) (.pair (.int .i64) (.pair (.int .u8) (.sl (.int .u8))))) [(t29.1, (t29.2.1, ((p2 t29), (p3 t29))))]] 50, .dead], 0⟩ (.adj [] (.adj [.keep [2, 4, 5, 6], .drop 4] .nil))))) (.adj [.keep [2, 4, 5], .drop 4] .nil))) (oF 6 (.adj [.keep [2, 4, 5], .drop 4] .nil)))) (to_goal (q := (True) ∧ (((decide (x18 > (0 : Int))) = true → ((decide (x18 > (0 : Int))) = true ∧ ((decide (x18 > (0 : Int))) = true ∧ ((decide (x18 > (0 : Int))) = true ∧ (True) ∧ ((decide (x18 > (0 : Int))) = true ∧ ((decide (x18 > (0 : Int))) = true ∧ (((!x16) = true → (∃ t29 : Int × Int × Int × (List Int) × (List Int) × Bool, (((True) ∧ (Fun cfg 22 [.one (.ptr 0 ⟨0, 0, 0, 0⟩)] [.ex false [.c (.fs (.int .u8) x15 false), .c (.sc (.bool x16))] 59] (image_reader_seg_v1.R t29) (image_reader_seg_v1.B x15 x16 t29) ∧ True) ∧ (0 + 1 ≤ 1 ∧ 0 = 0 ∧ (List.length x17) = (List.length x17) ∧ (((List.length x17) + (List.length (List.take 1 [(t29.1, (t29.2.1, ((p2 t29), (p3 t29))))]))) * 48 ≤ 140737488355328 ∧ (List.length x17) + (List.length (List.take 1 [(t29.1, (t29.2.1, ((p2 t29), (p3 t29))))])) ≤ 9223372036854775807)) ∧ (True) ∧ (⟨[.any, .any, .v (.one (.ptr 0 ⟨0, 0, 0, 0⟩)), .any, .v (.one (.ptr 1 ⟨0, 0, 0, 0⟩)), .v (.one (.ptr 2 ⟨0, 0, 0, 0⟩)), .v (.one (.sc (.int .i64 x18))), .any, .any, .any, .any, .any, .any, .any, .any, .any, .any, .any, .any, .any, .any, .any, .v (.one (.sc (.int .i64 x18))), .v (.one (.sc (.bool (decide (x18 > (0 : Int)))))), .v (.one (.sc (.bool (decide (x18 > (0 : Int)))))), .v (.one (.ptr 1 ⟨0, 0, 0, 0⟩)), .v (.one (.ptr 1 ⟨0, 0, 0, 0⟩)), .v (.one (.ptr 1 ⟨1, 0, 0, 0⟩)), .v (.one (.sc (.bool x16))), .v (.one (.sc (.bool (!x16)))), .v (.one (.sc (.bool (!x16)))), .any, .any, .v (.one (.ptr 2 ⟨1, 0, 0, 0⟩)), .any, .v (.one (.ptr 1 ⟨0, 0, 0, 0⟩)), .v (.agg [.c (.sc (.int .i64 t29.1)), .c (.sc (.int .i64 t29.2.1)), .c (.sc (.int .u8 (p2 t29))), .c (.fs (.int .u8) (p3 t29) false)]), .v (.one (.os 4 0 0 4 1 (some 1))), .v (.one (.os 3 0 0 4 (List.length (x17 ++ (List.take 1 [(t29.1, (t29.2.1, ((p2 t29), (p3 t29))))]))) none)), .v (.one (.ptr 2 ⟨1, 0, 0, 0⟩)), .any, .any, .any, .any, .any, .any, .any, .any, .any, .any, .any, .any, .any, .any, .any, .any, .any, .any, .any, .any], [.ex false [.c (.sc (.int .u32 (0 : Int))), .c (.sc (.slice none 0 0))] 36, .ex false [.c (.fs (.int .u8) (p4 t29) false), .c (.sc (.bool (z5 t29)))] 59, .ex false [.c (.sc (.int .u32 (IntKind.wrap .u32 (t3.1)))), .c (.os 3 0 0 4 (List.length (x17 ++ (List.take 1 [(t29.1, (t29.2.1, ((p2 t29), (p3 t29))))]))) none)] 36, .gro false (.pair (.int .i64) (.pair (.int .i64) (.pair (.int .u8) (.sl (.int .u8))))) (x17 ++ (List.take 1 [(t29.1, (t29.2.1, ((p2 t29), (p3 t29))))])) 50, .ex false [.row 1 (.pair (.int .i64) (.pair (.int .i64) (.pair (.int .u8) (.sl (.int .u8))))) [(t29.1, (t29.2.1, ((p2 t29), (p3 t29))))]] 50, .dead], 0⟩ : St) = ⟨[.any, .any, .v (.one (.ptr 0 ⟨0, 0, 0, 0⟩)), .any, .v (.one (.ptr 1 ⟨0, 0, 0, 0⟩)), .v (.one (.ptr 2 ⟨0, 0, 0, 0⟩)), .v (.one (.sc (.int .i64 x18))), .any, .any, .any, .any, .any, .any, .any, .any, .any, .any, .any, .any, .any, .any, .any, .v (.one (.sc (.int .i64 x18))), .v (.one (.sc (.bool (decide (x18 > (0 : Int)))))), .v (.one (.sc (.bool (decide (x18 > (0 : Int)))))), .v (.one (.ptr 1 ⟨0, 0, 0, 0⟩)), .v (.one (.ptr 1 ⟨0, 0, 0, 0⟩)), .v (.one (.ptr 1 ⟨1, 0, 0, 0⟩)), .v (.one (.sc (.bool x16))), .v (.one (.sc (.bool (!x16)))), .v (.one (.sc (.bool (!x16)))), .any, .any, .v (.one (.ptr 2 ⟨1, 0, 0, 0⟩)), .any, .v (.one (.ptr 1 ⟨0, 0, 0, 0⟩)), .v (.agg [.c (.sc (.int .i64 t29.1)), .c (.sc (.int .i64 t29.2.1)), .c (.sc (.int .u8 (p2 t29))), .c (.fs (.int .u8) (p3 t29) false)]), .v (.one (.os 4 0 0 4 1 (some 1))), .v (.one (.os 3 0 0 4 (List.length (x17 ++ (List.take 1 [(t29.1, (t29.2.1, ((p2 t29), (p3 t29))))]))) none)), .v (.one (.ptr 2 ⟨1, 0, 0, 0⟩)), .any, .any, .any, .any, .any, .any, .any, .any, .any, .any, .any, .any, .any, .any, .any, .any, .any, .any, .any, .any], [.ex false [.c (.sc (.int .u32 (0 : Int))), .c (.sc (.slice none 0 0))] 36, .ex false [.c (.fs (.int .u8) (p4 t29) false), .c (.sc (.bool (z5 t29)))] 59, .ex false [.c (.sc (.int .u32 (IntKind.wrap .u32 (t3.1)))), .c (.os 3 0 0 4 (List.length (x17 ++ (List.take 1 [(t29.1, (t29.2.1, ((p2 t29), (p3 t29))))]))) none)] 36, .gro false (.pair (.int .i64) (.pair (.int .i64) (.pair (.int .u8) (.sl (.int .u8))))) (x17 ++ (List.take 1 [(t29.1, (t29.2.1, ((p2 t29), (p3 t29))))])) 50, .ex false [.row 1 (.pair (.int .i64) (.pair (.int .i64) (.pair (.int .u8) (.sl (.int .u8))))) [(t29.1, (t29.2.1, ((p2 t29), (p3 t29))))]] 50, .dead], 0⟩) ∧ (((Fun cfg 22 [.one (.ptr 0 ⟨0, 0, 0, 0⟩)] [.ex false [.c (.fs (.int .u8) x15 false), .c (.sc (.bool x16))] 59] (image_reader_seg_v1.R t29) (image_reader_seg_v1.B x15 x16 t29) ∧ True) ∧ (True) ∧ (0 + 1 ≤ 1 ∧ 0 = 0 ∧ (List.length x17) = (List.length x17) ∧ (((List.length x17) + (List.length (List.take 1 [(t29.1, (t29.2.1, ((p2 t29), (p3 t29))))]))) * 48 ≤ 140737488355328 ∧ (List.length x17) + (List.length (List.take 1 [(t29.1, (t29.2.1, ((p2 t29), (p3 t29))))])) ≤ 9223372036854775807)) ∧ (True) ∧ True ∧ (⟨[.any, .any, .v (.one (.ptr 0 ⟨0, 0, 0, 0⟩)), .any, .v (.one (.ptr 1 ⟨0, 0, 0, 0⟩)), .v (.one (.ptr 2 ⟨0, 0, 0, 0⟩)), .v (.one (.sc (.int .i64 x18))), .any, .any, .any, .any, .any, .any, .any, .any, .any, .any, .any, .any, .any, .any, .any, .v (.one (.sc (.int .i64 x18))), .v (.one (.sc (.bool (decide (x18 > (0 : Int)))))), .v (.one (.sc (.bool (decide (x18 > (0 : Int)))))), .v (.one (.ptr 1 ⟨0, 0, 0, 0⟩)), .v (.one (.ptr 1 ⟨0, 0, 0, 0⟩)), .v (.one (.ptr 1 ⟨1, 0, 0, 0⟩)), .v (.one (.sc (.bool x16))), .v (.one (.sc (.bool (!x16)))), .v (.one (.sc (.bool (!x16)))), .any, .any, .v (.one (.ptr 2 ⟨1, 0, 0, 0⟩)), .any, .v (.one (.ptr 1 ⟨0, 0, 0, 0⟩)), .v (.agg [.c (.sc (.int .i64 t29.1)), .c (.sc (.int .i64 t29.2.1)), .c (.sc (.int .u8 (p2 t29))), .c (.fs (.int .u8) (p3 t29) false)]), .v (.one (.os 4 0 0 4 1 (some 1))), .v (.one (.os 3 0 0 4 (List.length (x17 ++ (List.take 1 [(t29.1, (t29.2.1, ((p2 t29), (p3 t29))))]))) none)), .v (.one (.ptr 2 ⟨1, 0, 0, 0⟩)), .any, .any, .any, .any, .any, .any, .any, .any, .any, .any, .any, .any, .any, .any, .any, .any, .any, .any, .any, .any], [.ex false [.c (.sc (.int .u32 (0 : Int))), .c (.sc (.slice none 0 0))] 36, .ex false [.c (.fs (.int .u8) (p4 t29) false), .c (.sc (.bool (z5 t29)))] 59, .ex false [.c (.sc (.int .u32 (IntKind.wrap .u32 (t3.1)))), .c (.os 3 0 0 4 (List.length (x17 ++ (List.take 1 [(t29.1, (t29.2.1, ((p2 t29), (p3 t29))))]))) none)] 36, .gro false (.pair (.int .i64) (.pair (.int .i64) (.pair (.int .u8) (.sl (.int .u8))))) (x17 ++ (List.take 1 [(t29.1, (t29.2.1, ((p2 t29), (p3 t29))))])) 50, .ex false [.row 1 (.pair (.int .i64) (.pair (.int .i64) (.pair (.int .u8) (.sl (.int .u8))))) [(t29.1, (t29.2.1, ((p2 t29), (p3 t29))))]] 50, .dead], 0⟩ : St) = ⟨[.any, .any, .v (.one (.ptr 0 ⟨0, 0, 0, 0⟩)), .any, .v (.one (.ptr 1 ⟨0, 0, 0, 0⟩)), .v (.one (.ptr 2 ⟨0, 0, 0, 0⟩)), .v (.one (.sc (.int .i64 x18))), .any, .any, .any, .any, .any, .any, .any, .any, .any, .any, .any, .any, .any, .any, .any, .v (.one (.sc (.int .i64 x18))), .v (.one (.sc (.bool (decide (x18 > (0 : Int)))))), .v (.one (.sc (.bool (decide (x18 > (0 : Int)))))), .v (.one (.ptr 1 ⟨0, 0, 0, 0⟩)), .v (.one (.ptr 1 ⟨0, 0, 0, 0⟩)), .v (.one (.ptr 1 ⟨1, 0, 0, 0⟩)), .v (.one (.sc (.bool x16))), .v (.one (.sc (.bool (!x16)))), .v (.one (.sc (.bool (!x16)))), .any, .any, .v (.one (.ptr 2 ⟨1, 0, 0, 0⟩)), .any, .v (.one (.ptr 1 ⟨0, 0, 0, 0⟩)), .v (.agg [.c (.sc (.int .i64 t29.1)), .c (.sc (.int .i64 t29.2.1)), .c (.sc (.int .u8 (p2 t29))), .c (.fs (.int .u8) (p3 t29) false)]), .v (.one (.os 4 0 0 4 1 (some 1))), .v (.one (.os 3 0 0 4 (List.length (x17 ++ (List.take 1 [(t29.1, (t29.2.1, ((p2 t29), (p3 t29))))]))) none)), .v (.one (.ptr 2 ⟨1, 0, 0, 0⟩)), .any, .any, .any, .any, .any, .any, .any, .any, .any, .any, .any, .any, .any, .any, .any, .any, .any, .any, .any, .any], [.ex false [.c (.sc (.int .u32 (0 : Int))), .c (.sc (.slice none 0 0))] 36, .ex false [.c (.fs (.int .u8) (p4 t29) false), .c (.sc (.bool (z5 t29)))] 59, .ex false [.c (.sc (.int .u32 (IntKind.wrap .u32 (t3.1)))), .c (.os 3 0 0 4 (List.length (x17 ++ (List.take 1 [(t29.1, (t29.2.1, ((p2 t29), (p3 t29))))]))) none)] 36, .gro false (.pair (.int .i64) (.pair (.int .i64) (.pair (.int .u8) (.sl (.int .u8))))) (x17 ++ (List.take 1 [(t29.1, (t29.2.1, ((p2 t29), (p3 t29))))])) 50, .ex false [.row 1 (.pair (.int .i64) (.pair (.int .i64) (.pair (.int .u8) (.sl (.int .u8))))) [(t29.1, (t29.2.1, ((p2 t29), (p3 t29))))]] 50, .dead], 0⟩) ∧ ((Fun cfg 22 [.one (.ptr 0 ⟨0, 0, 0, 0⟩)] [.ex false [.c (.fs (.int .u8) x15 false), .c (.sc (.bool x16))] 59] (image_reader_seg_v1.R t29) (image_reader_seg_v1.B x15 x16 t29) ∧ True) ∧ (True) ∧ (0 + 1 ≤ 1 ∧ 0 = 0 ∧ (List.length x17) = (List.length x17) ∧ (((List.length x17) + (List.length (List.take 1 [(t29.1, (t29.2.1, ((p2 t29), (p3 t29))))]))) * 48 ≤ 140737488355328 ∧ (List.length x17) + (List.length (List.take 1 [(t29.1, (t29.2.1, ((p2 t29), (p3 t29))))])) ≤ 9223372036854775807)) ∧ (True) ∧ True ∧ (⟨[.any, .any, .v (.one (.ptr 0 ⟨0, 0, 0, 0⟩)), .any, .v (.one (.ptr 1 ⟨0, 0, 0, 0⟩)), .v (.one (.ptr 2 ⟨0, 0, 0, 0⟩)), .v (.one (.sc (.int .i64 x18))), .any, .any, .any, .any, .any, .any, .any, .any, .any, .any, .any, .any, .any, .any, .any, .v (.one (.sc (.int .i64 x18))), .v (.one (.sc (.bool (decide (x18 > (0 : Int)))))), .v (.one (.sc (.bool (decide (x18 > (0 : Int)))))), .v (.one (.ptr 1 ⟨0, 0, 0, 0⟩)), .v (.one (.ptr 1 ⟨0, 0, 0, 0⟩)), .v (.one (.ptr 1 ⟨1, 0, 0, 0⟩)), .v (.one (.sc (.bool x16))), .v (.one (.sc (.bool (!x16)))), .v (.one (.sc (.bool (!x16)))), .any, .any, .v (.one (.ptr 2 ⟨1, 0, 0, 0⟩)), .any, .v (.one (.ptr 1 ⟨0, 0, 0, 0⟩)), .v (.agg [.c (.sc (.int .i64 t29.1)), .c (.sc (.int .i64 t29.2.1)), .c (.sc (.int .u8 (p2 t29))), .c (.fs (.int .u8) (p3 t29) false)]), .v (.one (.os 4 0 0 4 1 (some 1))), .v (.one (.os 3 0 0 4 (List.length (x17 ++ (List.take 1 [(t29.1, (t29.2.1, ((p2 t29), (p3 t29))))]))) none)), .v (.one (.ptr 2 ⟨1, 0, 0, 0⟩)), .any, .any, .any, .any, .any, .any, .any, .any, .any, .any, .any, .any, .any, .any, .any, .any, .any, .any, .any, .any], [.ex false [.c (.sc (.int .u32 (0 : Int))), .c (.sc (.slice none 0 0))] 36, .ex false [.c (.fs (.int .u8) (p4 t29) false), .c (.sc (.bool (z5 t29)))] 59, .ex false [.c (.sc (.int .u32 (IntKind.wrap .u32 (t3.1)))), .c (.os 3 0 0 4 (List.length (x17 ++ (List.take 1 [(t29.1, (t29.2.1, ((p2 t29), (p3 t29))))]))) none)] 36, .gro false (.pair (.int .i64) (.pair (.int .i64) (.pair (.int .u8) (.sl (.int .u8))))) (x17 ++ (List.take 1 [(t29.1, (t29.2.1, ((p2 t29), (p3 t29))))])) 50, .ex false [.row 1 (.pair (.int .i64) (.pair (.int .i64) (.pair (.int .u8) (.sl (.int .u8))))) [(t29.1, (t29.2.1, ((p2 t29), (p3 t29))))]] 50, .dead], 0⟩ : St) = ⟨[.any, .any, .v (.one (.ptr 0 ⟨0, 0, 0, 0⟩)), .any, .v (.one (.ptr 1 ⟨0, 0, 0, 0⟩)), .v (.one (.ptr 2 ⟨0, 0, 0, 0⟩)), .v (.one (.sc (.int .i64 x18))), .any, .any, .any, .any, .any, .any, .any, .any, .any, .any, .any, .any, .any, .any, .any, .v (.one (.sc (.int .i64 x18))), .v (.one (.sc (.bool (decide (x18 > (0 : Int)))))), .v (.one (.sc (.bool (decide (x18 > (0 : Int)))))), .v (.one (.ptr 1 ⟨0, 0, 0, 0⟩)), .v (.one (.ptr 1 ⟨0, 0, 0, 0⟩)), .v (.one (.ptr 1 ⟨1, 0, 0, 0⟩)), .v (.one (.sc (.bool x16))), .v (.one (.sc (.bool (!x16)))), .v (.one (.sc (.bool (!x16)))), .any, .any, .v (.one (.ptr 2 ⟨1, 0, 0, 0⟩)), .any, .v (.one (.ptr 1 ⟨0, 0, 0, 0⟩)), .v (.agg [.c (.sc (.int .i64 t29.1)), .c (.sc (.int .i64 t29.2.1)), .c (.sc (.int .u8 (p2 t29))), .c (.fs (.int .u8) (p3 t29) false)]), .v (.one (.os 4 0 0 4 1 (some 1))), .v (.one (.os 3 0 0 4 (List.length (x17 ++ (List.take 1 [(t29.1, (t29.2.1, ((p2 t29), (p3 t29))))]))) none)), .v (.one (.ptr 2 ⟨1, 0, 0, 0⟩)), .any, .any, .any, .any, .any, .any, .any, .any, .any, .any, .any, .any, .any, .any, .any, .any, .any, .any, .any, .any], [.ex false [.c (.sc (.int .u32 (0 : Int))), .c (.sc (.slice none 0 0))] 36, .ex false [.c (.fs (.int .u8) (p4 t29) false), .c (.sc (.bool (z5 t29)))] 59, .ex false [.c (.sc (.int .u32 (IntKind.wrap .u32 (t3.1)))), .c (.os 3 0 0 4 (List.length (x17 ++ (List.take 1 [(t29.1, (t29.2.1, ((p2 t29), (p3 t29))))]))) none)] 36, .gro false (.pair (.int .i64) (.pair (.int .i64) (.pair (.int .u8) (.sl (.int .u8))))) (x17 ++ (List.take 1 [(t29.1, (t29.2.1, ((p2 t29), (p3 t29))))])) 50, .ex false [.row 1 (.pair (.int .i64) (.pair (.int .i64) (.pair (.int .u8) (.sl (.int .u8))))) [(t29.1, (t29.2.1, ((p2 t29), (p3 t29))))]] 50, .dead], 0⟩) ∧ True) ∧ (True ∧ (True) ∧ (((True) ∧ (True) ∧ True) ∧ TripN cfg (cpath (Tryd.f10.body.getD .skip) [1, 1, 1, 1, 0, 1, 0, 0]) n (image_Decode_v1.l0_S t3 (p4 t29) (z5 t29) (x17 ++ (List.take 1 [(t29.1, (t29.2.1, ((p2 t29), (p3 t29))))])) (IntKind.wrap .i64 (x18 - (1 : Int)))) (image_Decode_v1.l0_Q t3 r)))))) ∧ ((!x16) = false → (((True) ∧ (True) ∧ True) ∧ image_Decode_v1.l0_Q t3 r (.exit 0) ⟨[.any, .any, .v (.one (.ptr 0 ⟨0, 0, 0, 0⟩)), .any, .v (.one (.ptr 1 ⟨0, 0, 0, 0⟩)), .v (.one (.ptr 2 ⟨0, 0, 0, 0⟩)), .any, .any, .any, .any, .any, .any, .any, .any, .any, .any, .any, .any, .any, .any, .any, .any, .any, .any, .any, .any, .any, .any, .any, .any, .any, .any, .any, .any, .any, .any, .any, .any, .any, .any, .any, .any, .any, .any, .any, .any, .any, .any, .any, .any, .any, .any, .any, .any, .any, .any, .any, .any, .any, .any], [.ex false [.c (.sc (.int .u32 (0 : Int))), .c (.sc (.slice none 0 0))] 36, .ex false [.c (.fs (.int .u8) x15 false), .c (.sc (.bool x16))] 59, .ex false [.c (.sc (.int .u32 (IntKind.wrap .u32 (t3.1)))), .c (.os 3 0 0 4 (List.length x17) none)] 36, .gro false (.pair (.int .i64) (.pair (.int .i64) (.pair (.int .u8) (.sl (.int .u8))))) x17 50], 0⟩))))))))) ∧ ((decide (x18 > (0 : Int))) = false → ((decide (x18 > (0 : Int))) = false ∧ ((decide (x18 > (0 : Int))) = false ∧ ((decide (x18 > (0 : Int))) = false ∧ ((decide (x18 > (0 : Int))) = false ∧ ((decide (x18 > (0 : Int))) = false ∧ (false = false ∧ (((True) ∧ (True) ∧ True) ∧ image_Decode_v1.l0_Q t3 r (.exit 0) ⟨[.any, .any, .v (.one (.ptr 0 ⟨0, 0, 0, 0⟩)), .any, .v (.one (.ptr 1 ⟨0, 0, 0, 0⟩)), .v (.one (.ptr 2 ⟨0, 0, 0, 0⟩)), .any, .any, .any, .any, .any, .any, .any, .any, .any, .any, .any, .any, .any, .any, .any, .any, .any, .any, .any, .any, .any, .any, .any, .any, .any, .any, .any, .any, .any, .any, .any, .any, .any, .any, .any, .any, .any, .any, .any, .any, .any, .any, .any, .any, .any, .any, .any, .any, .any, .any, .any, .any, .any, .any], [.ex false [.c (.sc (.int .u32 (0 : Int))), .c (.sc (.slice none 0 0))] 36, .ex false [.c (.fs (.int .u8) x15 false), .c (.sc (.bool x16))] 59, .ex false [.c (.sc (.int .u32 (IntKind.wrap .u32 (t3.1)))), .c (.os 3 0 0 4 (List.length x17) none)] 36, .gro false (.pair (.int .i64) (.pair (.int .i64) (.pair (.int .u8) (.sl (.int .u8))))) x17 50], 0⟩)))))))))) (by kernel_rfl) ?_)
    refine ⟨trivial, ?_⟩
    refine ⟨fun b27 => ?_, fun b27 => ?_⟩
    · rw [if_pos (of_decide_eq_true b27)] at h
      refine ⟨b27, ?_⟩
      refine ⟨b27, ?_⟩
      refine ⟨b27, ?_⟩
      refine ⟨trivial, ?_⟩
      refine ⟨b27, ?_⟩
      refine ⟨b27, ?_⟩
      refine ⟨fun b28 => ?_, fun b28 => ?_⟩
      · rw [if_pos (ff (not_t b28))] at h
        obtain ⟨t29, ht29, h⟩ := of_bind h
        refine ⟨t29, ?_⟩
        obtain ⟨g30, h⟩ := of_guard h
        refine ⟨⟨trivial, ⟨image_reader_seg_v1.fun_ ht29, trivial⟩, g30, trivial, rfl⟩, ⟨⟨⟨image_reader_seg_v1.fun_ ht29, trivial⟩, trivial, g30, trivial, trivial, rfl⟩, ⟨⟨image_reader_seg_v1.fun_ ht29, trivial⟩, trivial, g30, trivial, trivial, rfl⟩, trivial⟩, ?_⟩
        refine ⟨trivial, trivial, ?_⟩
        exact ⟨⟨trivial, trivial, trivial⟩, ih t29.2.2.2.2.1 t29.2.2.2.2.2 (x17 ++ (List.take 1 [(t29.1, (t29.2.1, (t29.2.2.1, t29.2.2.2.1)))])) (IntKind.wrap .i64 (x18 - (1 : Int))) r h⟩
      · rw [if_neg (not_not_intro (not_f b28))] at h
        obtain rfl := Option.some.inj h
        exact ⟨⟨trivial, trivial, trivial⟩, rfl, rfl⟩
    · rw [if_neg (of_decide_eq_false b27)] at h
      refine ⟨b27, ?_⟩
      refine ⟨b27, ?_⟩
      refine ⟨b27, ?_⟩
      refine ⟨b27, ?_⟩
      refine ⟨b27, ?_⟩
      refine ⟨rfl, ?_⟩
      obtain rfl := Option.some.inj h
      exact ⟨⟨trivial, trivial, trivial⟩, rfl, rfl⟩
def image_Decode_v1.f (a0 : (List Int)) : Option (Int × (List (Int × (Int × (Int × (List Int))))) × (Option Int)) :=
  (image_reader_take_v1.f (4 : Int) a0 false).bind fun t1 =>
  if ¬ ((strOfNums t1.1) = (⟨#[104, 120, 48, 49]⟩ : ByteArray)) then
    some ((0 : Int), ([] : List (Int × (Int × (Int × (List Int))))), (some (8 : Int)))
  else
    (image_reader_number_v1.f (4 : Int) t1.2.1 t1.2.2).bind fun t3 =>
    (image_reader_number_v1.f (1 : Int) t3.2.1 t3.2.2).bind fun t4 =>
    (image_Decode_v1.l0 t3 FUEL t4.2.1 t4.2.2 ([] : List (Int × (Int × (Int × (List Int))))) t4.1).bind fun t26 =>
    if t26.2.1 = true then
      some ((0 : Int), ([] : List (Int × (Int × (Int × (List Int))))), (some (8 : Int)))
    else
      if (((List.length t26.1) : Nat) : Int) > (0 : Int) then
        some ((0 : Int), ([] : List (Int × (Int × (Int × (List Int))))), (some (8 : Int)))
      else
        (image_Check.f (IntKind.wrap .u32 (t3.1)) t26.2.2).bind fun t39 =>
        if ¬ (t39 = none) then
          some ((0 : Int), ([] : List (Int × (Int × (Int × (List Int))))), (some (8 : Int)))
        else
          some ((IntKind.wrap .u32 (t3.1)), t26.2.2, none)
def image_Decode_v1.R (r : Int × (List (Int × (Int × (Int × (List Int))))) × (Option Int)) : Tm := .tup [.agg [.c (.sc (.int .u32 r.1)), .c (.fs (.pair (.int .i64) (.pair (.int .i64) (.pair (.int .u8) (.sl (.int .u8))))) r.2.1 false)], .one (.err r.2.2)]
theorem image_Decode_v1.fun_ {a0 : (List Int)} {r : Int × (List (Int × (Int × (Int × (List Int))))) × (Option Int)} (h : image_Decode_v1.f a0 = some r) : Fun cfg 10 [.one (.fs (.int .u8) a0 false)] [] (image_Decode_v1.R r) [] := by
  unfold image_Decode_v1.f at h
  refine fun_of_run cfg_ok (f := 10) (fn := Tryd.f10) Tryd.func10 rfl (by kernel_rfl) (rs := [.cell 2 36, .tmp 3]) rfl (nt := 60) rfl (l := fin) (k := (.callR true [] [1] ((List Int) × (List Int) × Bool) (fun t1 => (image_reader_take_v1.R t1)) (fun t1 => (image_reader_take_v1.B (4 : Int) a0 false t1)) (fun t1 => (.d (.b false) (.br (aE 2 (.adj [.co 0 true [(.pair (.int .i64) (.pair (.int .i64) (.pair (.int .u8) (.sl (.int .u8)))))], .drop 0] .nil)) (.callR true [] [1] (Int × (List Int) × Bool) (fun t3 => (image_reader_number_v1.R t3)) (fun t3 => (image_reader_number_v1.B (4 : Int) t1.2.1 (z2 t1) t3)) (fun t3 => (.callR true [] [1] (Int × (List Int) × Bool) (fun t4 => (image_reader_number_v1.R t4)) (fun t4 => (image_reader_number_v1.B (1 : Int) t3.2.1 (z2 t3) t4)) (fun t4 => (.adj [] (.adj [.keep [2, 4, 5, 6], .newG (.pair (.int .i64) (.pair (.int .i64) (.pair (.int .u8) (.sl (.int .u8))))) 50, .nilB 2 1 3 4] (.sub ((List Int) × Bool × (List (Int × (Int × (Int × (List Int)))))) (fun _ => (.exit 0)) (fun t26 => ⟨[.any, .any, .v (.one (.ptr 0 ⟨0, 0, 0, 0⟩)), .any, .v (.one (.ptr 1 ⟨0, 0, 0, 0⟩)), .v (.one (.ptr 2 ⟨0, 0, 0, 0⟩)), .any, .any, .any, .any, .any, .any, .any, .any, .any, .any, .any, .any, .any, .any, .any, .any, .any, .any, .any, .any, .any, .any, .any, .any, .any, .any, .any, .any, .any, .any, .any, .any, .any, .any, .any, .any, .any, .any, .any, .any, .any, .any, .any, .any, .any, .any, .any, .any, .any, .any, .any, .any, .any, .any], [.ex false [.c (.sc (.int .u32 (0 : Int))), .c (.sc (.slice none 0 0))] 36, .ex false [.c (.fs (.int .u8) t26.1 false), .c (.sc (.bool t26.2.1))] 59, .ex false [.c (.sc (.int .u32 (IntKind.wrap .u32 (t3.1)))), .c (.os 3 0 0 4 (List.length (z2 t26)) none)] 36, .gro false (.pair (.int .i64) (.pair (.int .i64) (.pair (.int .u8) (.sl (.int .u8))))) (z2 t26) 50], 0⟩) (fun t26 => (.br (oT 11 (aE 2 (.adj [.co 0 true [(.pair (.int .i64) (.pair (.int .i64) (.pair (.int .u8) (.sl (.int .u8)))))], .drop 0] .nil))) (oF 6 (.br (oT 4 (aE 2 (.adj [.co 0 true [(.pair (.int .i64) (.pair (.int .i64) (.pair (.int .u8) (.sl (.int .u8)))))], .drop 0] .nil))) (.one false (.call true [] ((Option Int)) image_Check.R (fun t39 => (oF 2 (.br (aE 2 (.adj [.co 0 true [(.pair (.int .i64) (.pair (.int .i64) (.pair (.int .u8) (.sl (.int .u8)))))], .drop 0] .nil)) (aE 3 (.adj [.co 0 true [], .drop 0] .nil))))))))))))))))))))))) (to_goal (q := (∃ t1 : (List Int) × (List Int) × Bool, (Fun cfg 20 [.one (.ptr 0 ⟨0, 0, 0, 0⟩), .one (.sc (.int .i64 (4 : Int)))] [.ex false [.c (.fs (.int .u8) a0 false), .c (.sc (.bool false))] 59] (image_reader_take_v1.R t1) (image_reader_take_v1.B (4 : Int) a0 false t1) ∧ True) ∧ (True) ∧ (True) ∧ (((!((strOfNums t1.1).toList == (⟨#[104, 120, 48, 49]⟩ : ByteArray).toList)) = true → (True ∧ (True) ∧ (True ∧ (((True) ∧ True) ∧ ((True) ∧ (True) ∧ True) ∧ (.tup [.agg [.c (.sc (.int .u32 (0 : Int))), .c (.fs (.pair (.int .i64) (.pair (.int .i64) (.pair (.int .u8) (.sl (.int .u8))))) ([] : List (Int × (Int × (Int × (List Int))))) false)], .one (.err (some (8 : Int)))] : Tm) = image_Decode_v1.R r ∧ ([] : List Box) = [])))) ∧ ((!((strOfNums t1.1).toList == (⟨#[104, 120, 48, 49]⟩ : ByteArray).toList)) = false → (∃ t3 : Int × (List Int) × Bool, (Fun cfg 21 [.one (.ptr 0 ⟨0, 0, 0, 0⟩), .one (.sc (.int .i64 (4 : Int)))] [.ex false [.c (.fs (.int .u8) t1.2.1 false), .c (.sc (.bool (z2 t1)))] 59] (image_reader_number_v1.R t3) (image_reader_number_v1.B (4 : Int) t1.2.1 (z2 t1) t3) ∧ True) ∧ (True) ∧ (True) ∧ (∃ t4 : Int × (List Int) × Bool, (Fun cfg 21 [.one (.ptr 0 ⟨0, 0, 0, 0⟩), .one (.sc (.int .i64 (1 : Int)))] [.ex false [.c (.fs (.int .u8) t3.2.1 false), .c (.sc (.bool (z2 t3)))] 59] (image_reader_number_v1.R t4) (image_reader_number_v1.B (1 : Int) t3.2.1 (z2 t3) t4) ∧ True) ∧ (True ∧ (((True) ∧ (True) ∧ (True) ∧ True) ∧ (∃ t26 : (List Int) × Bool × (List (Int × (Int × (Int × (List Int))))), Trip cfg (.loop (cpath (Tryd.f10.body.getD .skip) [1, 1, 1, 1, 0, 1, 0, 0])) ⟨[.any, .any, .v (.one (.ptr 0 ⟨0, 0, 0, 0⟩)), .any, .v (.one (.ptr 1 ⟨0, 0, 0, 0⟩)), .v (.one (.ptr 2 ⟨0, 0, 0, 0⟩)), .v (.one (.sc (.int .i64 t4.1))), .any, .any, .any, .any, .any, .any, .any, .any, .any, .any, .any, .any, .any, .any, .any, .any, .any, .any, .any, .any, .any, .any, .any, .any, .any, .any, .any, .any, .any, .any, .any, .any, .any, .any, .any, .any, .any, .any, .any, .any, .any, .any, .any, .any, .any, .any, .any, .any, .any, .any, .any, .any, .any], [.ex false [.c (.sc (.int .u32 (0 : Int))), .c (.sc (.slice none 0 0))] 36, .ex false [.c (.fs (.int .u8) t4.2.1 false), .c (.sc (.bool (z2 t4)))] 59, .ex false [.c (.sc (.int .u32 (IntKind.wrap .u32 (t3.1)))), .c (.os 3 0 0 4 0 none)] 36, .gro false (.pair (.int .i64) (.pair (.int .i64) (.pair (.int .u8) (.sl (.int .u8))))) ([] : List (Int × (Int × (Int × (List Int))))) 50], 0⟩ (fun e s => e = (.exit 0) ∧ s = ⟨[.any, .any, .v (.one (.ptr 0 ⟨0, 0, 0, 0⟩)), .any, .v (.one (.ptr 1 ⟨0, 0, 0, 0⟩)), .v (.one (.ptr 2 ⟨0, 0, 0, 0⟩)), .any, .any, .any, .any, .any, .any, .any, .any, .any, .any, .any, .any, .any, .any, .any, .any, .any, .any, .any, .any, .any, .any, .any, .any, .any, .any, .any, .any, .any, .any, .any, .any, .any, .any, .any, .any, .any, .any, .any, .any, .any, .any, .any, .any, .any, .any, .any, .any, .any, .any, .any, .any, .any, .any], [.ex false [.c (.sc (.int .u32 (0 : Int))), .c (.sc (.slice none 0 0))] 36, .ex false [.c (.fs (.int .u8) t26.1 false), .c (.sc (.bool t26.2.1))] 59, .ex false [.c (.sc (.int .u32 (IntKind.wrap .u32 (t3.1)))), .c (.os 3 0 0 4 (List.length (z2 t26)) none)] 36, .gro false (.pair (.int .i64) (.pair (.int .i64) (.pair (.int .u8) (.sl (.int .u8))))) (z2 t26) 50], 0⟩) ∧ (True) ∧ ((t26.2.1 = false → (t26.2.1 = false ∧ (t26.2.1 = false ∧ (t26.2.1 = false ∧ (True) ∧ (t26.2.1 = false ∧ (True) ∧ (t26.2.1 = false ∧ (True) ∧ (t26.2.1 = false ∧ (((decide ((((List.length t26.1) : Nat) : Int) > (0 : Int))) = false → (True) ∧ ((decide ((((List.length t26.1) : Nat) : Int) > (0 : Int))) = false ∧ (∃ t39 : (Option Int), ((0 = 0 ∧ (List.length (z2 t26)) = (List.length (z2 t26))) ∧ Fun cfg 14 [.agg [.c (.sc (.int .u32 (IntKind.wrap .u32 (t3.1)))), .c (.fs (.pair (.int .i64) (.pair (.int .i64) (.pair (.int .u8) (.sl (.int .u8))))) (z2 t26) false)]] [] (image_Check.R t39) [] ∧ True) ∧ ((decide ((((List.length t26.1) : Nat) : Int) > (0 : Int))) = false ∧ (True) ∧ ((decide ((((List.length t26.1) : Nat) : Int) > (0 : Int))) = false ∧ (((!(Option.isNone t39)) = true → (True ∧ (True) ∧ (True ∧ (((True) ∧ True) ∧ ((True) ∧ (True) ∧ True) ∧ (.tup [.agg [.c (.sc (.int .u32 (0 : Int))), .c (.fs (.pair (.int .i64) (.pair (.int .i64) (.pair (.int .u8) (.sl (.int .u8))))) ([] : List (Int × (Int × (Int × (List Int))))) false)], .one (.err (some (8 : Int)))] : Tm) = image_Decode_v1.R r ∧ ([] : List Box) = [])))) ∧ ((!(Option.isNone t39)) = false → (True ∧ (True ∧ (True) ∧ (True) ∧ (True ∧ (((True) ∧ True) ∧ ((((0 = 0 ∧ (List.length (z2 t26)) = (List.length (z2 t26)))) ∧ True) ∧ (True) ∧ True) ∧ (.tup [.agg [.c (.sc (.int .u32 (IntKind.wrap .u32 (t3.1)))), .c (.fs (.pair (.int .i64) (.pair (.int .i64) (.pair (.int .u8) (.sl (.int .u8))))) (z2 t26) false)], .one (.err none)] : Tm) = image_Decode_v1.R r ∧ ([] : List Box) = []))))))))))) ∧ ((decide ((((List.length t26.1) : Nat) : Int) > (0 : Int))) = true → ((decide ((((List.length t26.1) : Nat) : Int) > (0 : Int))) = true ∧ ((decide ((((List.length t26.1) : Nat) : Int) > (0 : Int))) = true ∧ ((decide ((((List.length t26.1) : Nat) : Int) > (0 : Int))) = true ∧ (true = true ∧ (True ∧ (True) ∧ (True ∧ (((True) ∧ True) ∧ ((True) ∧ (True) ∧ True) ∧ (.tup [.agg [.c (.sc (.int .u32 (0 : Int))), .c (.fs (.pair (.int .i64) (.pair (.int .i64) (.pair (.int .u8) (.sl (.int .u8))))) ([] : List (Int × (Int × (Int × (List Int))))) false)], .one (.err (some (8 : Int)))] : Tm) = image_Decode_v1.R r ∧ ([] : List Box) = [])))))))))))))))) ∧ (t26.2.1 = true → (t26.2.1 = true ∧ (t26.2.1 = true ∧ (t26.2.1 = true ∧ (t26.2.1 = true ∧ (t26.2.1 = true ∧ (t26.2.1 = true ∧ (true = true ∧ (true = true ∧ (true = true ∧ (true = true ∧ (true = true ∧ (True ∧ (True) ∧ (True ∧ (((True) ∧ True) ∧ ((True) ∧ (True) ∧ True) ∧ (.tup [.agg [.c (.sc (.int .u32 (0 : Int))), .c (.fs (.pair (.int .i64) (.pair (.int .i64) (.pair (.int .u8) (.sl (.int .u8))))) ([] : List (Int × (Int × (Int × (List Int))))) false)], .one (.err (some (8 : Int)))] : Tm) = image_Decode_v1.R r ∧ ([] : List Box) = []))))))))))))))))))))))))) (by kernel_rfl) ?_)
  obtain ⟨t1, ht1, h⟩ := of_bind h
  refine ⟨t1, ⟨image_reader_take_v1.fun_ ht1, trivial⟩, ?_⟩
  refine ⟨trivial, trivial, ?_⟩
  refine ⟨fun b2 => ?_, fun b2 => ?_⟩
  · rw [if_pos (str_f (not_t b2))] at h
    refine ⟨trivial, trivial, trivial, ?_⟩
    obtain rfl := Option.some.inj h
    exact ⟨⟨trivial, trivial⟩, ⟨trivial, trivial, trivial⟩, rfl, rfl⟩
  · rw [if_neg (not_not_intro (str_t (not_f b2)))] at h
    obtain ⟨t3, ht3, h⟩ := of_bind h
    refine ⟨t3, ⟨image_reader_number_v1.fun_ ht3, trivial⟩, ?_⟩
    refine ⟨trivial, trivial, ?_⟩
    obtain ⟨t4, ht4, h⟩ := of_bind h
    refine ⟨t4, ⟨image_reader_number_v1.fun_ ht4, trivial⟩, ?_⟩
    refine ⟨trivial, ?_⟩
    obtain ⟨t26, ht26, h⟩ := of_bind h
    refine ⟨⟨trivial, trivial, trivial, trivial⟩, t26, Trip.loop FUEL (image_Decode_v1.l0_ok t3 FUEL t4.2.1 t4.2.2 ([] : List (Int × (Int × (Int × (List Int))))) t4.1 t26 ht26), ?_⟩
    refine ⟨trivial, ?_⟩
    refine ⟨fun b37 => ?_, fun b37 => ?_⟩
    · rw [if_neg (ff b37)] at h
      refine ⟨b37, ?_⟩
      refine ⟨b37, ?_⟩
      refine ⟨b37, ?_⟩
      refine ⟨trivial, ?_⟩
      refine ⟨b37, ?_⟩
      refine ⟨trivial, ?_⟩
      refine ⟨b37, ?_⟩
      refine ⟨trivial, ?_⟩
      refine ⟨b37, ?_⟩
      refine ⟨fun b38 => ?_, fun b38 => ?_⟩
      · rw [if_neg (of_decide_eq_false b38)] at h
        refine ⟨trivial, ?_⟩
        refine ⟨b38, ?_⟩
        obtain ⟨t39, ht39, h⟩ := of_bind h
        refine ⟨t39, ⟨⟨rfl, rfl⟩, image_Check.fun_ ht39, trivial⟩, ?_⟩
        refine ⟨b38, ?_⟩
        refine ⟨trivial, ?_⟩
        refine ⟨b38, ?_⟩
        refine ⟨fun b40 => ?_, fun b40 => ?_⟩
        · rw [if_pos (none_f (not_t b40))] at h
          refine ⟨trivial, trivial, trivial, ?_⟩
          obtain rfl := Option.some.inj h
          exact ⟨⟨trivial, trivial⟩, ⟨trivial, trivial, trivial⟩, rfl, rfl⟩
        · rw [if_neg (not_not_intro (none_t (not_f b40)))] at h
          refine ⟨trivial, trivial, trivial, trivial, trivial, ?_⟩
          obtain rfl := Option.some.inj h
          exact ⟨⟨trivial, trivial⟩, ⟨⟨⟨rfl, rfl⟩, trivial⟩, trivial, trivial⟩, rfl, rfl⟩
      · rw [if_pos (of_decide_eq_true b38)] at h
        refine ⟨b38, ?_⟩
        refine ⟨b38, ?_⟩
        refine ⟨b38, ?_⟩
        refine ⟨rfl, trivial, trivial, trivial, ?_⟩
        obtain rfl := Option.some.inj h
        exact ⟨⟨trivial, trivial⟩, ⟨trivial, trivial, trivial⟩, rfl, rfl⟩
    · rw [if_pos b37] at h
      refine ⟨b37, ?_⟩
      refine ⟨b37, ?_⟩
      refine ⟨b37, ?_⟩
      refine ⟨b37, ?_⟩
      refine ⟨b37, ?_⟩
      refine ⟨b37, ?_⟩
      refine ⟨rfl, rfl, rfl, rfl, rfl, trivial, trivial, trivial, ?_⟩
      obtain rfl := Option.some.inj h
      exact ⟨⟨trivial, trivial⟩, ⟨trivial, trivial, trivial⟩, rfl, rfl⟩
/-! halter/halterlaw21.sure -/
def halterlaw21_sure.f : Option Bool :=
  (image_Encode.f (256 : Int) (List.take 1 [((1 : Int), ((2 : Int), ((5 : Int), [(0 : Int), (0 : Int), (0 : Int), (29 : Int)])))])).bind fun t1 =>
  (image_Decode.f 0 (List.length t1.2) t1.2).bind fun t2 =>
  (image_Decode_v1.f [(104 : Int), (120 : Int), (48 : Int), (49 : Int)]).bind fun t3 =>
  if t1.1 = none then
    if t2.2.2 = none then
      if (((List.length t1.2) : Nat) : Int) = (20 : Int) then
        if t2.1 = (256 : Int) then
          if (((List.length t2.2.1) : Nat) : Int) = (1 : Int) then
            if 0 ≤ (0 : Int) ∧ (0 : Int) < (((List.length t2.2.1) : Nat) : Int) then
              if (List.getD t2.2.1 0 ((0 : Int), ((0 : Int), ((0 : Int), ([] : List Int))))).2.1 = (2 : Int) then
                (num.f t3.2.2).bind fun t10 =>
                some (t10 == (8 : Int))
              else
                some false
            else none
          else
            some false
        else
          some false
      else
        some false
    else
      some false
  else
    some false
def halterlaw21_sure.R (r : Bool) : Tm := .v (.one (.sc (.bool r)))
theorem halterlaw21_sure.fun_ {r : Bool} (h : halterlaw21_sure.f = some r) : Fun cfg 6 [] [] (halterlaw21_sure.R r) [] := by
  unfold halterlaw21_sure.f at h
  refine fun_of_run cfg_ok (f := 6) (fn := Tryd.f6) Tryd.func6 rfl (by kernel_rfl) (rs := [.tmp 0]) rfl (nt := 61) rfl (l := fin) (k := (.d .no (.aj [.co 9 true []] (.d .no (.callR false [] [] ((Option Int) × (List Int)) (fun t1 => (image_Encode.R t1)) (fun t1 => (image_Encode.B (256 : Int) (List.take 1 [((1 : Int), ((2 : Int), ((5 : Int), [(0 : Int), (0 : Int), (0 : Int), (29 : Int)])))]) t1)) (fun t1 => (.aj [.fixB true 2] (.callR true [] [2] (Int × (List (Int × (Int × (Int × (List Int))))) × (Option Int)) (fun t2 => (image_Decode.R t2)) (fun t2 => (image_Decode.B 0 (List.length t1.2) t1.2 t2)) (fun t2 => (.d .no (.call true [] (Int × (List (Int × (Int × (Int × (List Int))))) × (Option Int)) image_Decode_v1.R (fun t3 => (.br (oT 2 (.br (oT 3 (.br (oT 3 (.br (oT 4 (.br (oT 6 (.br (.one true (.call true [] (Int) num.R (fun t10 => (oT 2 (.adj [] (.adj [.drop 0] .nil)))))) (oF 3 (.adj [] (.adj [.drop 0] .nil))))) (oF 10 (.adj [] (.adj [.drop 0] .nil))))) (oF 15 (.adj [] (.adj [.drop 0] .nil))))) (oF 19 (.adj [] (.adj [.drop 0] .nil))))) (oF 23 (.adj [] (.adj [.drop 0] .nil))))) (oF 26 (.adj [] (.adj [.drop 0] .nil)))))))))))))))) (to_goal (q := ((((0 = 0 ∧ 4 = 4) ∧ True) ∧ True) ∧ (∃ t1 : (Option Int) × (List Int), ((0 + 1 ≤ 1) ∧ Fun cfg 7 [.agg [.c (.sc (.int .u32 (256 : Int))), .c (.fs (.pair (.int .i64) (.pair (.int .i64) (.pair (.int .u8) (.sl (.int .u8))))) (List.take 1 [((1 : Int), ((2 : Int), ((5 : Int), [(0 : Int), (0 : Int), (0 : Int), (29 : Int)])))]) false)]] [] (image_Encode.R t1) (image_Encode.B (256 : Int) (List.take 1 [((1 : Int), ((2 : Int), ((5 : Int), [(0 : Int), (0 : Int), (0 : Int), (29 : Int)])))]) t1) ∧ True) ∧ (((True) ∧ True) ∧ (∃ t2 : Int × (List (Int × (Int × (Int × (List Int))))) × (Option Int), (Fun cfg 10 [.one (.os 0 0 0 1 (List.length t1.2) none)] [.fix false (.int .u8) t1.2 5] (image_Decode.R t2) (image_Decode.B 0 (List.length t1.2) t1.2 t2) ∧ True) ∧ (True) ∧ (0 < 4) ∧ (∃ t3 : Int × (List (Int × (Int × (Int × (List Int))))) × (Option Int), ((0 = 0 ∧ 4 = 4) ∧ Fun cfg 10 [.one (.fs (.int .u8) [(104 : Int), (120 : Int), (48 : Int), (49 : Int)] false)] [] (image_Decode_v1.R t3) [] ∧ True) ∧ (True) ∧ (True) ∧ (((Option.isNone t1.1) = true → ((Option.isNone t1.1) = true ∧ (True) ∧ ((Option.isNone t1.1) = true ∧ (((Option.isNone (z2 t2)) = true → ((Option.isNone (z2 t2)) = true ∧ (True) ∧ ((Option.isNone (z2 t2)) = true ∧ (True) ∧ ((Option.isNone (z2 t2)) = true ∧ ((((((List.length t1.2) : Nat) : Int) == (20 : Int)) = true → (((((List.length t1.2) : Nat) : Int) == (20 : Int)) = true ∧ (True) ∧ (((((List.length t1.2) : Nat) : Int) == (20 : Int)) = true ∧ (True) ∧ (((((List.length t1.2) : Nat) : Int) == (20 : Int)) = true ∧ (((t2.1 == (256 : Int)) = true → ((t2.1 == (256 : Int)) = true ∧ (True) ∧ ((t2.1 == (256 : Int)) = true ∧ (True) ∧ ((t2.1 == (256 : Int)) = true ∧ (True) ∧ ((t2.1 == (256 : Int)) = true ∧ ((((((List.length t2.2.1) : Nat) : Int) == (1 : Int)) = true → (((((List.length t2.2.1) : Nat) : Int) == (1 : Int)) = true ∧ (True) ∧ (((((List.length t2.2.1) : Nat) : Int) == (1 : Int)) = true ∧ (0 ≤ (0 : Int) ∧ (0 : Int) < (((List.length t2.2.1) : Nat) : Int)) ∧ (((((List.length t2.2.1) : Nat) : Int) == (1 : Int)) = true ∧ (((((List.length t2.2.1) : Nat) : Int) == (1 : Int)) = true ∧ (True) ∧ (((((List.length t2.2.1) : Nat) : Int) == (1 : Int)) = true ∧ (True) ∧ (((((List.length t2.2.1) : Nat) : Int) == (1 : Int)) = true ∧ ((((List.getD t2.2.1 0 ((0 : Int), ((0 : Int), ((0 : Int), ([] : List Int))))).2.1 == (2 : Int)) = true → (((List.getD t2.2.1 0 ((0 : Int), ((0 : Int), ((0 : Int), ([] : List Int))))).2.1 == (2 : Int)) = true ∧ (∃ t10 : Int, (Fun cfg 12 [.one (.err (z2 t3))] [] (num.R t10) [] ∧ True) ∧ (((List.getD t2.2.1 0 ((0 : Int), ((0 : Int), ((0 : Int), ([] : List Int))))).2.1 == (2 : Int)) = true ∧ (True) ∧ (((List.getD t2.2.1 0 ((0 : Int), ((0 : Int), ((0 : Int), ([] : List Int))))).2.1 == (2 : Int)) = true ∧ (True ∧ ((True) ∧ ((True) ∧ True) ∧ (.v (.one (.sc (.bool (t10 == (8 : Int))))) : Tm) = halterlaw21_sure.R r ∧ ([] : List Box) = []))))))) ∧ (((List.getD t2.2.1 0 ((0 : Int), ((0 : Int), ((0 : Int), ([] : List Int))))).2.1 == (2 : Int)) = false → (((List.getD t2.2.1 0 ((0 : Int), ((0 : Int), ((0 : Int), ([] : List Int))))).2.1 == (2 : Int)) = false ∧ (((List.getD t2.2.1 0 ((0 : Int), ((0 : Int), ((0 : Int), ([] : List Int))))).2.1 == (2 : Int)) = false ∧ (((List.getD t2.2.1 0 ((0 : Int), ((0 : Int), ((0 : Int), ([] : List Int))))).2.1 == (2 : Int)) = false ∧ (True ∧ ((True) ∧ ((True) ∧ True) ∧ (.v (.one (.sc (.bool false))) : Tm) = halterlaw21_sure.R r ∧ ([] : List Box) = [])))))))))))))) ∧ (((((List.length t2.2.1) : Nat) : Int) == (1 : Int)) = false → (((((List.length t2.2.1) : Nat) : Int) == (1 : Int)) = false ∧ (((((List.length t2.2.1) : Nat) : Int) == (1 : Int)) = false ∧ (((((List.length t2.2.1) : Nat) : Int) == (1 : Int)) = false ∧ (((((List.length t2.2.1) : Nat) : Int) == (1 : Int)) = false ∧ (((((List.length t2.2.1) : Nat) : Int) == (1 : Int)) = false ∧ (((((List.length t2.2.1) : Nat) : Int) == (1 : Int)) = false ∧ (false = false ∧ (false = false ∧ (false = false ∧ (false = false ∧ (True ∧ ((True) ∧ ((True) ∧ True) ∧ (.v (.one (.sc (.bool false))) : Tm) = halterlaw21_sure.R r ∧ ([] : List Box) = []))))))))))))))))))) ∧ ((t2.1 == (256 : Int)) = false → ((t2.1 == (256 : Int)) = false ∧ ((t2.1 == (256 : Int)) = false ∧ ((t2.1 == (256 : Int)) = false ∧ ((t2.1 == (256 : Int)) = false ∧ (false = false ∧ (false = false ∧ (false = false ∧ (false = false ∧ (false = false ∧ (false = false ∧ (false = false ∧ (false = false ∧ (false = false ∧ (false = false ∧ (false = false ∧ (True ∧ ((True) ∧ ((True) ∧ True) ∧ (.v (.one (.sc (.bool false))) : Tm) = halterlaw21_sure.R r ∧ ([] : List Box) = []))))))))))))))))))))))) ∧ (((((List.length t1.2) : Nat) : Int) == (20 : Int)) = false → (((((List.length t1.2) : Nat) : Int) == (20 : Int)) = false ∧ (((((List.length t1.2) : Nat) : Int) == (20 : Int)) = false ∧ (((((List.length t1.2) : Nat) : Int) == (20 : Int)) = false ∧ (false = false ∧ (false = false ∧ (false = false ∧ (false = false ∧ (false = false ∧ (false = false ∧ (false = false ∧ (false = false ∧ (false = false ∧ (false = false ∧ (false = false ∧ (false = false ∧ (false = false ∧ (false = false ∧ (false = false ∧ (false = false ∧ (True ∧ ((True) ∧ ((True) ∧ True) ∧ (.v (.one (.sc (.bool false))) : Tm) = halterlaw21_sure.R r ∧ ([] : List Box) = []))))))))))))))))))))))))))) ∧ ((Option.isNone (z2 t2)) = false → ((Option.isNone (z2 t2)) = false ∧ ((Option.isNone (z2 t2)) = false ∧ ((Option.isNone (z2 t2)) = false ∧ (false = false ∧ (false = false ∧ (false = false ∧ (false = false ∧ (false = false ∧ (false = false ∧ (false = false ∧ (false = false ∧ (false = false ∧ (false = false ∧ (false = false ∧ (false = false ∧ (false = false ∧ (false = false ∧ (false = false ∧ (false = false ∧ (false = false ∧ (false = false ∧ (false = false ∧ (false = false ∧ (True ∧ ((True) ∧ ((True) ∧ True) ∧ (.v (.one (.sc (.bool false))) : Tm) = halterlaw21_sure.R r ∧ ([] : List Box) = [])))))))))))))))))))))))))))))) ∧ ((Option.isNone t1.1) = false → ((Option.isNone t1.1) = false ∧ ((Option.isNone t1.1) = false ∧ (false = false ∧ (false = false ∧ (false = false ∧ (false = false ∧ (false = false ∧ (false = false ∧ (false = false ∧ (false = false ∧ (false = false ∧ (false = false ∧ (false = false ∧ (false = false ∧ (false = false ∧ (false = false ∧ (false = false ∧ (false = false ∧ (false = false ∧ (false = false ∧ (false = false ∧ (false = false ∧ (false = false ∧ (false = false ∧ (false = false ∧ (false = false ∧ (True ∧ ((True) ∧ ((True) ∧ True) ∧ (.v (.one (.sc (.bool false))) : Tm) = halterlaw21_sure.R r ∧ ([] : List Box) = [])))))))))))))))))))))))))))))))))))) (by kernel_rfl) ?_)
  refine ⟨⟨⟨⟨rfl, rfl⟩, trivial⟩, trivial⟩, ?_⟩
  obtain ⟨t1, ht1, h⟩ := of_bind h
  refine ⟨t1, ⟨(by decide), image_Encode.fun_ ht1, trivial⟩, ?_⟩
  refine ⟨⟨trivial, trivial⟩, ?_⟩
  obtain ⟨t2, ht2, h⟩ := of_bind h
  refine ⟨t2, ⟨image_Decode.fun_ ht2, trivial⟩, ?_⟩
  refine ⟨trivial, ?_⟩
  refine ⟨(by decide), ?_⟩
  obtain ⟨t3, ht3, h⟩ := of_bind h
  refine ⟨t3, ⟨⟨rfl, rfl⟩, image_Decode_v1.fun_ ht3, trivial⟩, ?_⟩
  refine ⟨trivial, trivial, ?_⟩
  refine ⟨fun b4 => ?_, fun b4 => ?_⟩
  · rw [if_pos (none_t b4)] at h
    refine ⟨b4, ?_⟩
    refine ⟨trivial, ?_⟩
    refine ⟨b4, ?_⟩
    refine ⟨fun b5 => ?_, fun b5 => ?_⟩
    · rw [if_pos (none_t b5)] at h
      refine ⟨b5, ?_⟩
      refine ⟨trivial, ?_⟩
      refine ⟨b5, ?_⟩
      refine ⟨trivial, ?_⟩
      refine ⟨b5, ?_⟩
      refine ⟨fun b6 => ?_, fun b6 => ?_⟩
      · rw [if_pos (beq_t b6)] at h
        refine ⟨b6, ?_⟩
        refine ⟨trivial, ?_⟩
        refine ⟨b6, ?_⟩
        refine ⟨trivial, ?_⟩
        refine ⟨b6, ?_⟩
        refine ⟨fun b7 => ?_, fun b7 => ?_⟩
        · rw [if_pos (beq_t b7)] at h
          refine ⟨b7, ?_⟩
          refine ⟨trivial, ?_⟩
          refine ⟨b7, ?_⟩
          refine ⟨trivial, ?_⟩
          refine ⟨b7, ?_⟩
          refine ⟨trivial, ?_⟩
          refine ⟨b7, ?_⟩
          refine ⟨fun b8 => ?_, fun b8 => ?_⟩
          · rw [if_pos (beq_t b8)] at h
            refine ⟨b8, ?_⟩
            refine ⟨trivial, ?_⟩
            refine ⟨b8, ?_⟩
            obtain ⟨g11, h⟩ := of_guard h
            refine ⟨g11, ?_⟩
            refine ⟨b8, ?_⟩
            refine ⟨b8, ?_⟩
            refine ⟨trivial, ?_⟩
            refine ⟨b8, ?_⟩
            refine ⟨trivial, ?_⟩
            refine ⟨b8, ?_⟩
            refine ⟨fun b9 => ?_, fun b9 => ?_⟩
            · rw [if_pos (beq_t b9)] at h
              refine ⟨b9, ?_⟩
              obtain ⟨t10, ht10, h⟩ := of_bind h
              refine ⟨t10, ⟨num.fun_ ht10, trivial⟩, ?_⟩
              refine ⟨b9, ?_⟩
              refine ⟨trivial, ?_⟩
              refine ⟨b9, ?_⟩
              refine ⟨trivial, ?_⟩
              obtain rfl := Option.some.inj h
              exact ⟨trivial, ⟨trivial, trivial⟩, rfl, rfl⟩
            · rw [if_neg (beq_f b9)] at h
              refine ⟨b9, ?_⟩
              refine ⟨b9, ?_⟩
              refine ⟨b9, ?_⟩
              refine ⟨trivial, ?_⟩
              obtain rfl := Option.some.inj h
              exact ⟨trivial, ⟨trivial, trivial⟩, rfl, rfl⟩
          · rw [if_neg (beq_f b8)] at h
            refine ⟨b8, ?_⟩
            refine ⟨b8, ?_⟩
            refine ⟨b8, ?_⟩
            refine ⟨b8, ?_⟩
            refine ⟨b8, ?_⟩
            refine ⟨b8, ?_⟩
            refine ⟨rfl, rfl, rfl, rfl, trivial, ?_⟩
            obtain rfl := Option.some.inj h
            exact ⟨trivial, ⟨trivial, trivial⟩, rfl, rfl⟩
        · rw [if_neg (beq_f b7)] at h
          refine ⟨b7, ?_⟩
          refine ⟨b7, ?_⟩
          refine ⟨b7, ?_⟩
          refine ⟨b7, ?_⟩
          refine ⟨rfl, rfl, rfl, rfl, rfl, rfl, rfl, rfl, rfl, rfl, rfl, trivial, ?_⟩
          obtain rfl := Option.some.inj h
          exact ⟨trivial, ⟨trivial, trivial⟩, rfl, rfl⟩
      · rw [if_neg (beq_f b6)] at h
        refine ⟨b6, ?_⟩
        refine ⟨b6, ?_⟩
        refine ⟨b6, ?_⟩
        refine ⟨rfl, rfl, rfl, rfl, rfl, rfl, rfl, rfl, rfl, rfl, rfl, rfl, rfl, rfl, rfl, rfl, trivial, ?_⟩
        obtain rfl := Option.some.inj h
        exact ⟨trivial, ⟨trivial, trivial⟩, rfl, rfl⟩
    · rw [if_neg (none_f b5)] at h
      refine ⟨b5, ?_⟩
      refine ⟨b5, ?_⟩
      refine ⟨b5, ?_⟩
      refine ⟨rfl, rfl, rfl, rfl, rfl, rfl, rfl, rfl, rfl, rfl, rfl, rfl, rfl, rfl, rfl, rfl, rfl, rfl, rfl, rfl, trivial, ?_⟩
      obtain rfl := Option.some.inj h
      exact ⟨trivial, ⟨trivial, trivial⟩, rfl, rfl⟩
  · rw [if_neg (none_f b4)] at h
    refine ⟨b4, ?_⟩
    refine ⟨b4, ?_⟩
    refine ⟨rfl, rfl, rfl, rfl, rfl, rfl, rfl, rfl, rfl, rfl, rfl, rfl, rfl, rfl, rfl, rfl, rfl, rfl, rfl, rfl, rfl, rfl, rfl, rfl, trivial, ?_⟩
    obtain rfl := Option.some.inj h
    exact ⟨trivial, ⟨trivial, trivial⟩, rfl, rfl⟩
/-! halter/halterlaw21.giveImage -/
def halterlaw21_giveImage.l0 (a0 : Int) (a1 : (List (Int × (Int × (Int × (List Int)))))) : Nat → (List (Int × (Int × (Int × (List Int))))) → Int → Option (List (Int × (Int × (Int × (List Int)))))
  | 0, _, _ => none
  | n + 1, x9, x10 =>
    if x10 < (((List.length a1) : Nat) : Int) then
      if 0 ≤ x10 ∧ x10 < (((List.length a1) : Nat) : Int) then
        if 0 + 1 ≤ 1 ∧ 0 = 0 ∧ (List.length x9) = (List.length x9) ∧ (((List.length x9) + (List.length (List.take 1 [((List.getD a1 (Int.toNat x10) ((0 : Int), ((0 : Int), ((0 : Int), ([] : List Int))))).1, ((List.getD a1 (Int.toNat x10) ((0 : Int), ((0 : Int), ((0 : Int), ([] : List Int))))).2.1, ((List.getD a1 (Int.toNat x10) ((0 : Int), ((0 : Int), ((0 : Int), ([] : List Int))))).2.2.1, (List.getD a1 (Int.toNat x10) ((0 : Int), ((0 : Int), ((0 : Int), ([] : List Int))))).2.2.2)))]))) * 48 ≤ 140737488355328 ∧ (List.length x9) + (List.length (List.take 1 [((List.getD a1 (Int.toNat x10) ((0 : Int), ((0 : Int), ((0 : Int), ([] : List Int))))).1, ((List.getD a1 (Int.toNat x10) ((0 : Int), ((0 : Int), ((0 : Int), ([] : List Int))))).2.1, ((List.getD a1 (Int.toNat x10) ((0 : Int), ((0 : Int), ((0 : Int), ([] : List Int))))).2.2.1, (List.getD a1 (Int.toNat x10) ((0 : Int), ((0 : Int), ((0 : Int), ([] : List Int))))).2.2.2)))])) ≤ 9223372036854775807) then
          halterlaw21_giveImage.l0 a0 a1 n (x9 ++ (List.take 1 [((List.getD a1 (Int.toNat x10) ((0 : Int), ((0 : Int), ((0 : Int), ([] : List Int))))).1, ((List.getD a1 (Int.toNat x10) ((0 : Int), ((0 : Int), ((0 : Int), ([] : List Int))))).2.1, ((List.getD a1 (Int.toNat x10) ((0 : Int), ((0 : Int), ((0 : Int), ([] : List Int))))).2.2.1, (List.getD a1 (Int.toNat x10) ((0 : Int), ((0 : Int), ((0 : Int), ([] : List Int))))).2.2.2)))])) (IntKind.wrap .i64 (x10 + (1 : Int)))
        else none
      else none
    else
      some x9
def halterlaw21_giveImage.l0_S (a0 : Int) (a1 : (List (Int × (Int × (Int × (List Int)))))) (x9 : List (Int × (Int × (Int × (List Int))))) (x10 : Int) : St := ⟨[.any, .v (.one (.ptr 0 ⟨0, 0, 0, 0⟩)), .v (.one (.ptr 1 ⟨0, 0, 0, 0⟩)), .v (.one (.ptr 2 ⟨0, 0, 0, 0⟩)), .v (.one (.sc (.int .i64 x10))), .any, .any, .any, .any, .any, .any, .any, .any, .any, .any, .any, .any, .any, .any, .any, .any, .any, .any, .any, .any, .any], [.ex false [.c (.sc (.int .u32 a0)), .c (.fs (.pair (.int .i64) (.pair (.int .i64) (.pair (.int .u8) (.sl (.int .u8))))) a1 false)] 25, .ex false [.c (.sc (.int .u32 (0 : Int))), .c (.sc (.slice none 0 0))] 36, .ex false [.c (.sc (.int .u32 a0)), .c (.os 3 0 0 4 (List.length x9) none)] 36, .gro false (.pair (.int .i64) (.pair (.int .i64) (.pair (.int .u8) (.sl (.int .u8))))) x9 50], 0⟩
def halterlaw21_giveImage.l0_Q (a0 : Int) (a1 : (List (Int × (Int × (Int × (List Int)))))) (t : (List (Int × (Int × (Int × (List Int)))))) : Exit → St → Prop := fun e s => e = (.exit 0) ∧ s = ⟨[.any, .any, .v (.one (.ptr 1 ⟨0, 0, 0, 0⟩)), .v (.one (.ptr 2 ⟨0, 0, 0, 0⟩)), .any, .any, .any, .any, .any, .any, .any, .any, .any, .any, .any, .any, .any, .any, .any, .any, .any, .any, .any, .any, .any, .any], [.ex false [.c (.sc (.int .u32 a0)), .c (.fs (.pair (.int .i64) (.pair (.int .i64) (.pair (.int .u8) (.sl (.int .u8))))) a1 false)] 25, .ex false [.c (.sc (.int .u32 (0 : Int))), .c (.sc (.slice none 0 0))] 36, .ex false [.c (.sc (.int .u32 a0)), .c (.os 3 0 0 4 (List.length t) none)] 36, .gro false (.pair (.int .i64) (.pair (.int .i64) (.pair (.int .u8) (.sl (.int .u8))))) t 50], 0⟩
theorem halterlaw21_giveImage.l0_ok (a0 : Int) (a1 : (List (Int × (Int × (Int × (List Int)))))) : ∀ (n : Nat) (x9 : List (Int × (Int × (Int × (List Int))))) (x10 : Int) (r : (List (Int × (Int × (Int × (List Int)))))), halterlaw21_giveImage.l0 a0 a1 n x9 x10 = some r → TripN cfg (cpath (Tryd.f8.body.getD .skip) [1, 1, 0, 1, 0, 0]) n (halterlaw21_giveImage.l0_S a0 a1 x9 x10) (halterlaw21_giveImage.l0_Q a0 a1 r) := by
  intro n
  induction n with
  | zero => intro x9 x10 r h; cases h
  | succ n ih =>
    intro x9 x10 r h
    rw [halterlaw21_giveImage.l0] at h
    refine TripN.of_run cfg_ok (k := (.br (.dr [(0, dN), (2, dN), (4, dN), (1, dN), (3, dN), (5, dN), (6, dN), (7, dN), (8, ⟨none, .mv false, false⟩), (9, dN), (10, dN)] (.adj [] (.adj [.keep [1, 2, 3, 4], .drop 4] .nil))) (.adj [.keep [2, 3], .drop 4] .nil))) (to_goal (q := (True) ∧ (True) ∧ (True) ∧ (((decide (x10 < (((List.length a1) : Nat) : Int))) = true → (True) ∧ (True) ∧ (0 ≤ x10 ∧ x10 < (((List.length a1) : Nat) : Int)) ∧ (True) ∧ (0 + 1 ≤ 1 ∧ 0 = 0 ∧ (List.length x9) = (List.length x9) ∧ (((List.length x9) + (List.length (List.take 1 [((List.getD a1 (Int.toNat x10) ((0 : Int), ((0 : Int), ((0 : Int), ([] : List Int))))).1, ((List.getD a1 (Int.toNat x10) ((0 : Int), ((0 : Int), ((0 : Int), ([] : List Int))))).2.1, ((List.getD a1 (Int.toNat x10) ((0 : Int), ((0 : Int), ((0 : Int), ([] : List Int))))).2.2.1, (List.getD a1 (Int.toNat x10) ((0 : Int), ((0 : Int), ((0 : Int), ([] : List Int))))).2.2.2)))]))) * 48 ≤ 140737488355328 ∧ (List.length x9) + (List.length (List.take 1 [((List.getD a1 (Int.toNat x10) ((0 : Int), ((0 : Int), ((0 : Int), ([] : List Int))))).1, ((List.getD a1 (Int.toNat x10) ((0 : Int), ((0 : Int), ((0 : Int), ([] : List Int))))).2.1, ((List.getD a1 (Int.toNat x10) ((0 : Int), ((0 : Int), ((0 : Int), ([] : List Int))))).2.2.1, (List.getD a1 (Int.toNat x10) ((0 : Int), ((0 : Int), ((0 : Int), ([] : List Int))))).2.2.2)))])) ≤ 9223372036854775807)) ∧ (True) ∧ (True ∧ (True) ∧ (((True) ∧ (True) ∧ True) ∧ TripN cfg (cpath (Tryd.f8.body.getD .skip) [1, 1, 0, 1, 0, 0]) n (halterlaw21_giveImage.l0_S a0 a1 (x9 ++ (List.take 1 [((List.getD a1 (Int.toNat x10) ((0 : Int), ((0 : Int), ((0 : Int), ([] : List Int))))).1, ((List.getD a1 (Int.toNat x10) ((0 : Int), ((0 : Int), ((0 : Int), ([] : List Int))))).2.1, ((List.getD a1 (Int.toNat x10) ((0 : Int), ((0 : Int), ((0 : Int), ([] : List Int))))).2.2.1, (List.getD a1 (Int.toNat x10) ((0 : Int), ((0 : Int), ((0 : Int), ([] : List Int))))).2.2.2)))])) (IntKind.wrap .i64 (x10 + (1 : Int)))) (halterlaw21_giveImage.l0_Q a0 a1 r)))) ∧ ((decide (x10 < (((List.length a1) : Nat) : Int))) = false → (((True) ∧ (True) ∧ True) ∧ halterlaw21_giveImage.l0_Q a0 a1 r (.exit 0) ⟨[.any, .any, .v (.one (.ptr 1 ⟨0, 0, 0, 0⟩)), .v (.one (.ptr 2 ⟨0, 0, 0, 0⟩)), .any, .any, .any, .any, .any, .any, .any, .any, .any, .any, .any, .any, .any, .any, .any, .any, .any, .any, .any, .any, .any, .any], [.ex false [.c (.sc (.int .u32 a0)), .c (.fs (.pair (.int .i64) (.pair (.int .i64) (.pair (.int .u8) (.sl (.int .u8))))) a1 false)] 25, .ex false [.c (.sc (.int .u32 (0 : Int))), .c (.sc (.slice none 0 0))] 36, .ex false [.c (.sc (.int .u32 a0)), .c (.os 3 0 0 4 (List.length x9) none)] 36, .gro false (.pair (.int .i64) (.pair (.int .i64) (.pair (.int .u8) (.sl (.int .u8))))) x9 50], 0⟩)))) (by kernel_rfl) ?_)
    refine ⟨trivial, trivial, trivial, ?_⟩
    refine ⟨fun b16 => ?_, fun b16 => ?_⟩
    · rw [if_pos (of_decide_eq_true b16)] at h
      obtain ⟨g17, h⟩ := of_guard h
      obtain ⟨g18, h⟩ := of_guard h
      refine ⟨trivial, trivial, g17, trivial, g18, trivial, ?_⟩
      refine ⟨trivial, trivial, ?_⟩
      exact ⟨⟨trivial, trivial, trivial⟩, ih (x9 ++ (List.take 1 [((List.getD a1 (Int.toNat x10) ((0 : Int), ((0 : Int), ((0 : Int), ([] : List Int))))).1, ((List.getD a1 (Int.toNat x10) ((0 : Int), ((0 : Int), ((0 : Int), ([] : List Int))))).2.1, ((List.getD a1 (Int.toNat x10) ((0 : Int), ((0 : Int), ((0 : Int), ([] : List Int))))).2.2.1, (List.getD a1 (Int.toNat x10) ((0 : Int), ((0 : Int), ((0 : Int), ([] : List Int))))).2.2.2)))])) (IntKind.wrap .i64 (x10 + (1 : Int))) r h⟩
    · rw [if_neg (of_decide_eq_false b16)] at h
      obtain rfl := Option.some.inj h
      exact ⟨⟨trivial, trivial, trivial⟩, rfl, rfl⟩
def halterlaw21_giveImage.f (a0 : Int) (a1 : (List (Int × (Int × (Int × (List Int)))))) : Option (Int × (List (Int × (Int × (Int × (List Int)))))) :=
  (halterlaw21_giveImage.l0 a0 a1 FUEL ([] : List (Int × (Int × (Int × (List Int))))) (0 : Int)).bind fun t15 =>
  some (a0, t15)
def halterlaw21_giveImage.R (r : Int × (List (Int × (Int × (Int × (List Int)))))) : Tm := .v (.agg [.c (.sc (.int .u32 r.1)), .c (.fs (.pair (.int .i64) (.pair (.int .i64) (.pair (.int .u8) (.sl (.int .u8))))) r.2 false)])
theorem halterlaw21_giveImage.fun_ {a0 : Int} {a1 : (List (Int × (Int × (Int × (List Int)))))} {r : Int × (List (Int × (Int × (Int × (List Int)))))} (h : halterlaw21_giveImage.f a0 a1 = some r) : Fun cfg 8 [.agg [.c (.sc (.int .u32 a0)), .c (.fs (.pair (.int .i64) (.pair (.int .i64) (.pair (.int .u8) (.sl (.int .u8))))) a1 false)]] [] (halterlaw21_giveImage.R r) [] := by
  unfold halterlaw21_giveImage.f at h
  refine fun_of_run cfg_ok (f := 8) (fn := Tryd.f8) Tryd.func8 rfl (by kernel_rfl) (rs := [.cell 2 36]) rfl (nt := 26) rfl (l := fin) (k := (aE 4 (.adj [.keep [1, 2, 3, 4], .newG (.pair (.int .i64) (.pair (.int .i64) (.pair (.int .u8) (.sl (.int .u8))))) 50, .nilB 2 1 3 4] (.sub ((List (Int × (Int × (Int × (List Int)))))) (fun _ => (.exit 0)) (fun t15 => ⟨[.any, .any, .v (.one (.ptr 1 ⟨0, 0, 0, 0⟩)), .v (.one (.ptr 2 ⟨0, 0, 0, 0⟩)), .any, .any, .any, .any, .any, .any, .any, .any, .any, .any, .any, .any, .any, .any, .any, .any, .any, .any, .any, .any, .any, .any], [.ex false [.c (.sc (.int .u32 a0)), .c (.fs (.pair (.int .i64) (.pair (.int .i64) (.pair (.int .u8) (.sl (.int .u8))))) a1 false)] 25, .ex false [.c (.sc (.int .u32 (0 : Int))), .c (.sc (.slice none 0 0))] 36, .ex false [.c (.sc (.int .u32 a0)), .c (.os 3 0 0 4 (List.length t15) none)] 36, .gro false (.pair (.int .i64) (.pair (.int .i64) (.pair (.int .u8) (.sl (.int .u8))))) t15 50], 0⟩) (fun t15 => (aE 2 (.adj [.co 0 true [], .drop 0] .nil))))))) (to_goal (q := (True ∧ (True ∧ (True) ∧ (True) ∧ (True ∧ (True ∧ (((True) ∧ (True) ∧ (True) ∧ True) ∧ (∃ t15 : (List (Int × (Int × (Int × (List Int))))), Trip cfg (.loop (cpath (Tryd.f8.body.getD .skip) [1, 1, 0, 1, 0, 0])) ⟨[.any, .v (.one (.ptr 0 ⟨0, 0, 0, 0⟩)), .v (.one (.ptr 1 ⟨0, 0, 0, 0⟩)), .v (.one (.ptr 2 ⟨0, 0, 0, 0⟩)), .v (.one (.sc (.int .i64 (0 : Int)))), .any, .any, .any, .any, .any, .any, .any, .any, .any, .any, .any, .any, .any, .any, .any, .any, .any, .any, .any, .any, .any], [.ex false [.c (.sc (.int .u32 a0)), .c (.fs (.pair (.int .i64) (.pair (.int .i64) (.pair (.int .u8) (.sl (.int .u8))))) a1 false)] 25, .ex false [.c (.sc (.int .u32 (0 : Int))), .c (.sc (.slice none 0 0))] 36, .ex false [.c (.sc (.int .u32 a0)), .c (.os 3 0 0 4 0 none)] 36, .gro false (.pair (.int .i64) (.pair (.int .i64) (.pair (.int .u8) (.sl (.int .u8))))) ([] : List (Int × (Int × (Int × (List Int))))) 50], 0⟩ (fun e s => e = (.exit 0) ∧ s = ⟨[.any, .any, .v (.one (.ptr 1 ⟨0, 0, 0, 0⟩)), .v (.one (.ptr 2 ⟨0, 0, 0, 0⟩)), .any, .any, .any, .any, .any, .any, .any, .any, .any, .any, .any, .any, .any, .any, .any, .any, .any, .any, .any, .any, .any, .any], [.ex false [.c (.sc (.int .u32 a0)), .c (.fs (.pair (.int .i64) (.pair (.int .i64) (.pair (.int .u8) (.sl (.int .u8))))) a1 false)] 25, .ex false [.c (.sc (.int .u32 (0 : Int))), .c (.sc (.slice none 0 0))] 36, .ex false [.c (.sc (.int .u32 a0)), .c (.os 3 0 0 4 (List.length t15) none)] 36, .gro false (.pair (.int .i64) (.pair (.int .i64) (.pair (.int .u8) (.sl (.int .u8))))) t15 50], 0⟩) ∧ (True ∧ (True) ∧ (True) ∧ (True ∧ (((True) ∧ True) ∧ ((((0 = 0 ∧ (List.length t15) = (List.length t15))) ∧ True) ∧ (True) ∧ True) ∧ (.v (.agg [.c (.sc (.int .u32 a0)), .c (.fs (.pair (.int .i64) (.pair (.int .i64) (.pair (.int .u8) (.sl (.int .u8))))) t15 false)]) : Tm) = halterlaw21_giveImage.R r ∧ ([] : List Box) = [])))))))))) (by kernel_rfl) ?_)
  refine ⟨trivial, trivial, trivial, trivial, trivial, trivial, ?_⟩
  obtain ⟨t15, ht15, h⟩ := of_bind h
  refine ⟨⟨trivial, trivial, trivial, trivial⟩, t15, Trip.loop FUEL (halterlaw21_giveImage.l0_ok a0 a1 FUEL ([] : List (Int × (Int × (Int × (List Int))))) (0 : Int) t15 ht15), ?_⟩
  refine ⟨trivial, trivial, trivial, trivial, ?_⟩
  obtain rfl := Option.some.inj h
  exact ⟨⟨trivial, trivial⟩, ⟨⟨⟨rfl, rfl⟩, trivial⟩, trivial, trivial⟩, rfl, rfl⟩
/-! halter/halterlaw21.isImage -/
def halterlaw21_isImage.c0 (a1 : (List (Int × (Int × (Int × (List Int)))))) (x3 : Int) : Box := .ex false [.c (.sc (.int .i64 (List.getD a1 (Int.toNat x3) ((0 : Int), ((0 : Int), ((0 : Int), ([] : List Int))))).1)), .c (.sc (.int .i64 (List.getD a1 (Int.toNat x3) ((0 : Int), ((0 : Int), ((0 : Int), ([] : List Int))))).2.1)), .c (.sc (.int .u8 (List.getD a1 (Int.toNat x3) ((0 : Int), ((0 : Int), ((0 : Int), ([] : List Int))))).2.2.1)), .c (.fs (.int .u8) (List.getD a1 (Int.toNat x3) ((0 : Int), ((0 : Int), ((0 : Int), ([] : List Int))))).2.2.2 false)] 50
def halterlaw21_isImage.c1 (a3 : (List (Int × (Int × (Int × (List Int)))))) (x3 : Int) : Box := .ex false [.c (.sc (.int .i64 (List.getD a3 (Int.toNat x3) ((0 : Int), ((0 : Int), ((0 : Int), ([] : List Int))))).1)), .c (.sc (.int .i64 (List.getD a3 (Int.toNat x3) ((0 : Int), ((0 : Int), ((0 : Int), ([] : List Int))))).2.1)), .c (.sc (.int .u8 (List.getD a3 (Int.toNat x3) ((0 : Int), ((0 : Int), ((0 : Int), ([] : List Int))))).2.2.1)), .c (.fs (.int .u8) (List.getD a3 (Int.toNat x3) ((0 : Int), ((0 : Int), ((0 : Int), ([] : List Int))))).2.2.2 false)] 29
def halterlaw21_isImage.c2 (a1 : (List (Int × (Int × (Int × (List Int)))))) (x3 : Int) : AV := .agg [.c (.sc (.int .i64 (List.getD a1 (Int.toNat x3) ((0 : Int), ((0 : Int), ((0 : Int), ([] : List Int))))).1)), .c (.sc (.int .i64 (List.getD a1 (Int.toNat x3) ((0 : Int), ((0 : Int), ((0 : Int), ([] : List Int))))).2.1)), .c (.sc (.int .u8 (List.getD a1 (Int.toNat x3) ((0 : Int), ((0 : Int), ((0 : Int), ([] : List Int))))).2.2.1)), .c (.fs (.int .u8) (List.getD a1 (Int.toNat x3) ((0 : Int), ((0 : Int), ((0 : Int), ([] : List Int))))).2.2.2 false)]
def halterlaw21_isImage.c3 (a3 : (List (Int × (Int × (Int × (List Int)))))) (x3 : Int) : AV := .agg [.c (.sc (.int .i64 (List.getD a3 (Int.toNat x3) ((0 : Int), ((0 : Int), ((0 : Int), ([] : List Int))))).1)), .c (.sc (.int .i64 (List.getD a3 (Int.toNat x3) ((0 : Int), ((0 : Int), ((0 : Int), ([] : List Int))))).2.1)), .c (.sc (.int .u8 (List.getD a3 (Int.toNat x3) ((0 : Int), ((0 : Int), ((0 : Int), ([] : List Int))))).2.2.1)), .c (.fs (.int .u8) (List.getD a3 (Int.toNat x3) ((0 : Int), ((0 : Int), ((0 : Int), ([] : List Int))))).2.2.2 false)]
def halterlaw21_isImage.c4 (a1 : (List (Int × (Int × (Int × (List Int)))))) (x3 : Int) (a3 : (List (Int × (Int × (Int × (List Int)))))) : Bool := (!((strOfNums (List.getD a1 (Int.toNat x3) ((0 : Int), ((0 : Int), ((0 : Int), ([] : List Int))))).2.2.2).toList == (strOfNums (List.getD a3 (Int.toNat x3) ((0 : Int), ((0 : Int), ((0 : Int), ([] : List Int))))).2.2.2).toList))
def halterlaw21_isImage.c5 (a1 : (List (Int × (Int × (Int × (List Int)))))) (x3 : Int) (a3 : (List (Int × (Int × (Int × (List Int)))))) : Bool := ((List.getD a1 (Int.toNat x3) ((0 : Int), ((0 : Int), ((0 : Int), ([] : List Int))))).2.2.1 != (List.getD a3 (Int.toNat x3) ((0 : Int), ((0 : Int), ((0 : Int), ([] : List Int))))).2.2.1)
def halterlaw21_isImage.c6 (a1 : (List (Int × (Int × (Int × (List Int)))))) (x3 : Int) (a3 : (List (Int × (Int × (Int × (List Int)))))) : Bool := ((List.getD a1 (Int.toNat x3) ((0 : Int), ((0 : Int), ((0 : Int), ([] : List Int))))).2.1 != (List.getD a3 (Int.toNat x3) ((0 : Int), ((0 : Int), ((0 : Int), ([] : List Int))))).2.1)
def halterlaw21_isImage.c7 (a1 : (List (Int × (Int × (Int × (List Int)))))) (x3 : Int) (a3 : (List (Int × (Int × (Int × (List Int)))))) : Bool := ((List.getD a1 (Int.toNat x3) ((0 : Int), ((0 : Int), ((0 : Int), ([] : List Int))))).1 != (List.getD a3 (Int.toNat x3) ((0 : Int), ((0 : Int), ((0 : Int), ([] : List Int))))).1)
def halterlaw21_isImage.l0 (a0 : Int) (a1 : (List (Int × (Int × (Int × (List Int)))))) (a2 : Int) (a3 : (List (Int × (Int × (Int × (List Int)))))) : Nat → Int → Option ((Unit) ⊕ (Unit))
  | 0, _ => none
  | n + 1, x3 =>
    if x3 < (((List.length a1) : Nat) : Int) then
      if 0 ≤ x3 ∧ x3 < (((List.length a1) : Nat) : Int) then
        if 0 ≤ x3 ∧ x3 < (((List.length a3) : Nat) : Int) then
          if ¬ (List.getD a1 (Int.toNat x3) ((0 : Int), ((0 : Int), ((0 : Int), ([] : List Int))))).1 = (List.getD a3 (Int.toNat x3) ((0 : Int), ((0 : Int), ((0 : Int), ([] : List Int))))).1 then
            some (.inr ())
          else
            if ¬ (List.getD a1 (Int.toNat x3) ((0 : Int), ((0 : Int), ((0 : Int), ([] : List Int))))).2.1 = (List.getD a3 (Int.toNat x3) ((0 : Int), ((0 : Int), ((0 : Int), ([] : List Int))))).2.1 then
              some (.inr ())
            else
              if ¬ (List.getD a1 (Int.toNat x3) ((0 : Int), ((0 : Int), ((0 : Int), ([] : List Int))))).2.2.1 = (List.getD a3 (Int.toNat x3) ((0 : Int), ((0 : Int), ((0 : Int), ([] : List Int))))).2.2.1 then
                some (.inr ())
              else
                if ¬ ((strOfNums (List.getD a1 (Int.toNat x3) ((0 : Int), ((0 : Int), ((0 : Int), ([] : List Int))))).2.2.2) = (strOfNums (List.getD a3 (Int.toNat x3) ((0 : Int), ((0 : Int), ((0 : Int), ([] : List Int))))).2.2.2)) then
                  some (.inr ())
                else
                  halterlaw21_isImage.l0 a0 a1 a2 a3 n (IntKind.wrap .i64 (x3 + (1 : Int)))
        else none
      else none
    else
      some (.inl ())
def halterlaw21_isImage.l0_S (a0 : Int) (a1 : (List (Int × (Int × (Int × (List Int)))))) (a2 : Int) (a3 : (List (Int × (Int × (Int × (List Int)))))) (x3 : Int) : St := ⟨[.any, .any, .v (.one (.ptr 0 ⟨0, 0, 0, 0⟩)), .v (.one (.ptr 1 ⟨0, 0, 0, 0⟩)), .any, .v (.one (.sc (.int .i64 x3))), .any, .any, .any, .any, .any, .any, .any, .any, .any, .any, .any, .any, .any, .any, .any, .any, .any, .any, .any, .any, .any, .any, .any, .any, .any, .any, .any, .any, .any, .any, .any, .any, .any, .any, .any, .any, .any, .any, .any, .any, .any, .any, .any, .any, .any, .any, .any, .any, .any, .any, .any, .any, .any, .any, .any, .any, .any, .any, .any, .any, .any], [.ex false [.c (.sc (.int .u32 a0)), .c (.fs (.pair (.int .i64) (.pair (.int .i64) (.pair (.int .u8) (.sl (.int .u8))))) a1 false)] 36, .ex false [.c (.sc (.int .u32 a2)), .c (.fs (.pair (.int .i64) (.pair (.int .i64) (.pair (.int .u8) (.sl (.int .u8))))) a3 false)] 25], 0⟩
def halterlaw21_isImage.l0_Q (a0 : Int) (a1 : (List (Int × (Int × (Int × (List Int)))))) (a2 : Int) (a3 : (List (Int × (Int × (Int × (List Int)))))) : (Unit) ⊕ (Unit) → Exit → St → Prop
  | .inl t => fun e s => e = (.exit 0) ∧ s = ⟨[.any, .any, .any, .any, .any, .any, .any, .any, .any, .any, .any, .any, .any, .any, .any, .any, .any, .any, .any, .any, .any, .any, .any, .any, .any, .any, .any, .any, .any, .any, .any, .any, .any, .any, .any, .any, .any, .any, .any, .any, .any, .any, .any, .any, .any, .any, .any, .any, .any, .any, .any, .any, .any, .any, .any, .any, .any, .any, .any, .any, .any, .any, .any, .any, .any, .any, .any], [.ex false [.c (.sc (.int .u32 a0)), .c (.fs (.pair (.int .i64) (.pair (.int .i64) (.pair (.int .u8) (.sl (.int .u8))))) a1 false)] 36, .ex false [.c (.sc (.int .u32 a2)), .c (.fs (.pair (.int .i64) (.pair (.int .i64) (.pair (.int .u8) (.sl (.int .u8))))) a3 false)] 25], 0⟩
  | .inr t => fun e s => e = .ret ∧ s = ⟨[.any, .any, .any, .any, .v (.one (.sc (.bool false))), .any, .any, .any, .any, .any, .any, .any, .any, .any, .any, .any, .any, .any, .any, .any, .any, .any, .any, .any, .any, .any, .any, .any, .any, .any, .any, .any, .any, .any, .any, .any, .any, .any, .any, .any, .any, .any, .any, .any, .any, .any, .any, .any, .any, .any, .any, .any, .any, .any, .any, .any, .any, .any, .any, .any, .any, .any, .any, .any, .any, .any, .any], [.ex false [.c (.sc (.int .u32 a0)), .c (.fs (.pair (.int .i64) (.pair (.int .i64) (.pair (.int .u8) (.sl (.int .u8))))) a1 false)] 36, .ex false [.c (.sc (.int .u32 a2)), .c (.fs (.pair (.int .i64) (.pair (.int .i64) (.pair (.int .u8) (.sl (.int .u8))))) a3 false)] 25], 0⟩
end Go.Proofs.YtaiedgjhgkhigaaDoorGImageBack
