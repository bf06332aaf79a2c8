/- Printed by gen.py: what functions of the program compute, in plain Lean, and that they do. -/
import Derived.Test.YtndjiebeihcbgaaDoorE15
import Derived.Test.YtndjiebeihcbgaaDoorN
import Derived.Test.YtndjiebeihcbgaaDoorF
set_option linter.unusedVariables false
set_option maxRecDepth 100000
set_option maxHeartbeats 4000000
namespace Go.Proofs.YtndjiebeihcbgaaDoorGSetTexts
open Go Go.Proofs.YtndjiebeihcbgaaDoorE
def tiL : List (Nat × TI) := [
  (3, ⟨1, 8, false, .int .i64, [.c (.sc (.int .i64 (0 : Int)))], some (.int .i64)⟩),
  (4, ⟨1, 1, false, .bool, [.c (.sc (.bool false))], some .bool⟩),
  (5, ⟨1, 1, false, .int .u8, [.c (.sc (.int .u8 (0 : Int)))], some (.int .u8)⟩),
  (9, ⟨1, 16, false, .str, [.c (.sc (.string ByteArray.empty))], some .str⟩),
  (22, ⟨1, 4, false, .int .u32, [.c (.sc (.int .u32 (0 : Int)))], some (.int .u32)⟩),
  (23, ⟨1, 4, false, .int .u32, [.c (.sc (.int .u32 (0 : Int)))], some (.int .u32)⟩),
  (24, ⟨1, 24, false, (.slice 3), [.c (.sc (.slice none 0 0))], some (.sl (.int .i64))⟩),
  (36, ⟨1, 8, false, .int .u64, [.c (.sc (.int .u64 (0 : Int)))], some (.int .u64)⟩),
  (38, ⟨1, 16, false, .iface, [.c (.err none)], none⟩),
  (51, ⟨1, 8, false, .int .i64, [.c (.sc (.int .i64 (0 : Int)))], some (.int .i64)⟩),
  (52, ⟨1, 8, false, .int .u64, [.c (.sc (.int .u64 (0 : Int)))], some (.int .u64)⟩),
  (55, ⟨1, 24, false, (.slice 5), [.c (.sc (.slice none 0 0))], some (.sl (.int .u8))⟩),
  (58, ⟨32, 32, true, (.array 32 5), [.row 32 (.int .u8) (List.replicate 32 (0 : Int))], some (.arr 32 (.int .u8))⟩),
  (72, ⟨1, 8, false, .int .i64, [.c (.sc (.int .i64 (0 : Int)))], some (.int .i64)⟩)]
def tab0 : List Int := [0, 1, 28, 2, 29, 14, 24, 3, 30, 22, 20, 15, 25, 17, 4, 8, 31, 27, 13, 23, 21, 19, 16, 7, 26, 12, 18, 6, 11, 5, 10, 9]
def tab4 : List Int := [1, 10, 100, 1000, 10000, 100000, 1000000, 10000000, 100000000, 1000000000, 10000000000, 100000000000, 1000000000000, 10000000000000, 100000000000000, 1000000000000000, 10000000000000000, 100000000000000000, 1000000000000000000, 10000000000000000000]
def tab5 : List Int := [0, 1, 56, 2, 57, 49, 28, 3, 61, 58, 42, 50, 38, 29, 17, 4, 62, 47, 59, 36, 45, 43, 51, 22, 53, 39, 33, 30, 24, 18, 12, 5, 63, 55, 48, 27, 60, 41, 37, 16, 46, 35, 44, 21, 52, 32, 23, 11, 54, 26, 40, 15, 34, 20, 31, 10, 25, 14, 19, 9, 13, 8, 7, 6]
def tabs : List (Nat × IntKind × List Int) := [(0, .u8, tab0), (4, .u64, tab4), (5, .u8, tab5)]
noncomputable def cfg : Cfg := ⟨Tryd.prog, 51, [(⟨1, 0, none⟩, .iface 79 (.agg #[.pointer (some ⟨6, 38, none⟩)])), (⟨2, 0, none⟩, .tuple #[])] ++ tabs.flatMap tabG, tiL, [], tabs⟩
theorem cfg_ok : COk cfg := by
  refine ⟨fun p hp => ?_, by kernel_rfl, fun p hp => ?_, fun t ht => ?_, fun x hx y hy => List.mem_append_right _ (List.mem_flatMap.2 ⟨x, hx, hy⟩)⟩
  · simp only [cfg, tiL, List.mem_cons, List.not_mem_nil, or_false] at hp
    rcases hp with rfl | rfl | rfl | rfl | rfl | rfl | rfl | rfl | rfl | rfl | rfl | rfl | rfl | rfl <;> exact ⟨by kernel_rfl, by kernel_rfl, by kernel_rfl, by kernel_rfl, by kernel_rfl, by kernel_rfl⟩
  · simp only [cfg, tiL, List.mem_cons, List.not_mem_nil, or_false] at hp
    rcases hp with rfl | rfl | rfl | rfl | rfl | rfl | rfl | rfl | rfl | rfl | rfl | rfl | rfl | rfl <;> intro fs hfs bl hbl
    · cases hfs
    · cases hfs
    · cases hfs
    · cases hfs
    · cases hfs
    · cases hfs
    · cases hfs
    · cases hfs
    · cases hfs
    · cases hfs
    · cases hfs
    · cases hfs
    · cases hfs
    · cases hfs
  · cases ht
def fin : Scr → List Adj
  | .adj l _ => l
  | _ => []
/-! the error's number -/
def num.f (a0 : Option Int) : Option Int := some (a0.getD 0)
def num.R (r : Int) : Tm := .v (.one (.sc (.int .i64 r)))
theorem num.fun_ {a0 : Option Int} {r : Int} (h : num.f a0 = some r) : Fun cfg 25 [.one (.err a0)] [] (num.R r) [] := by
  refine Fun.of_below (f := 25) (fn := Tryd.f25) Tryd.func25 rfl (by kernel_rfl) (r := .int .i64 r) (fun X => ⟨⟨rfl, rfl⟩, rfl⟩) fun X vs hE hvs hG => ?_
  obtain ⟨v, us, rfl, hv, rfl⟩ := hvs
  have hv : v = errV X.E a0 := hv.1
  have he : errV cfg.E a0 = YtndjiebeihcbgaaDoorN.errW a0 := by cases a0 <;> rfl
  rw [hv, hE, he]
  exact YtndjiebeihcbgaaDoorN.num.calls a0 r X.w (hG _ (List.mem_append_left _ (List.mem_cons_self ..))) h
/-! strconv.toError, by hand -/
def strconv_toErrorS.f (a0 a1 : ByteArray) (a2 a3 a4 : Int) : Option Unit := if a4 = 2 ∧ ByteArray.size a1 ≤ 281474976710656 then some () else none
def strconv_toErrorS.R (t : Unit) : Tm := .v (.one (.oerr 75))
def strconv_toErrorS.B (a0 a1 : ByteArray) (a2 a3 a4 : Int) (t : Unit) : List Box := []
theorem strconv_toErrorS.fun_ {a0 a1 : ByteArray} {a2 a3 a4 : Int} {t : Unit} (h : strconv_toErrorS.f a0 a1 a2 a3 a4 = some t) : Fun cfg 31 [.one (.sc (.string a0)), .one (.sc (.string a1)), .one (.sc (.int .i64 a2)), .one (.sc (.int .i64 a3)), .one (.sc (.iface 72 (.int .i64 a4)))] [] (strconv_toErrorS.R t) (strconv_toErrorS.B a0 a1 a2 a3 a4 t) := by
  unfold strconv_toErrorS.f at h
  split at h
  · rename_i hc
    obtain ⟨rfl, h2⟩ := hc
    exact YtndjiebeihcbgaaDoorF.toError_fun (C := cfg) rfl (by simp [cfg]) h2
  · cases h
/-! halter/sigset.One -/
def sigset_One.f (a0 : Int) : Option Int :=
  if a0 < (1 : Int) then
    some (0 : Int)
  else
    if a0 > (31 : Int) then
      some (0 : Int)
    else
      if 0 ≤ (IntKind.wrap .i64 (a0 - (1 : Int))) then
        some (shl .u32 (1 : Int) (IntKind.wrap .i64 (a0 - (1 : Int))))
      else none
def sigset_One.R (r : Int) : Tm := .v (.one (.sc (.int .u32 r)))
theorem sigset_One.fun_ {a0 : Int} {r : Int} (h : sigset_One.f a0 = some r) : Fun cfg 14 [.one (.sc (.int .i64 a0))] [] (sigset_One.R r) [] := by
  unfold sigset_One.f at h
  refine fun_of_run cfg_ok (f := 14) (fn := Tryd.f14) Tryd.func14 rfl (by kernel_rfl) (rs := [.tmp 2]) rfl (nt := 12) rfl (l := fin) (k := (.br (oT 3 (aE 3 .nil)) (oF 2 (.br (aE 3 .nil) (aE 4 .nil))))) (to_goal (q := (True) ∧ (((decide (a0 < (1 : Int))) = false → ((decide (a0 < (1 : Int))) = false ∧ (True) ∧ ((decide (a0 < (1 : Int))) = false ∧ (((decide (a0 > (31 : Int))) = true → (True ∧ (True ∧ ((True) ∧ (True) ∧ (.v (.one (.sc (.int .u32 (0 : Int)))) : Tm) = sigset_One.R r ∧ ([] : List Box) = [])))) ∧ ((decide (a0 > (31 : Int))) = false → (True ∧ (True ∧ (True) ∧ (0 ≤ (IntKind.wrap .i64 (a0 - (1 : Int)))) ∧ (True ∧ ((True) ∧ (True) ∧ (.v (.one (.sc (.int .u32 (shl .u32 (1 : Int) (IntKind.wrap .i64 (a0 - (1 : Int))))))) : Tm) = sigset_One.R r ∧ ([] : List Box) = []))))))))) ∧ ((decide (a0 < (1 : Int))) = true → ((decide (a0 < (1 : Int))) = true ∧ ((decide (a0 < (1 : Int))) = true ∧ (true = true ∧ (True ∧ (True ∧ ((True) ∧ (True) ∧ (.v (.one (.sc (.int .u32 (0 : Int)))) : Tm) = sigset_One.R r ∧ ([] : List Box) = []))))))))) (by kernel_rfl) ?_)
  refine ⟨trivial, ?_⟩
  refine ⟨fun b1 => ?_, fun b1 => ?_⟩
  · rw [if_neg (of_decide_eq_false b1)] at h
    refine ⟨b1, ?_⟩
    refine ⟨trivial, ?_⟩
    refine ⟨b1, ?_⟩
    refine ⟨fun b2 => ?_, fun b2 => ?_⟩
    · rw [if_pos (of_decide_eq_true b2)] at h
      refine ⟨trivial, trivial, ?_⟩
      obtain rfl := Option.some.inj h
      exact ⟨trivial, trivial, rfl, rfl⟩
    · rw [if_neg (of_decide_eq_false b2)] at h
      refine ⟨trivial, trivial, trivial, ?_⟩
      obtain ⟨g3, h⟩ := of_guard h
      refine ⟨g3, ?_⟩
      refine ⟨trivial, ?_⟩
      obtain rfl := Option.some.inj h
      exact ⟨trivial, trivial, rfl, rfl⟩
  · rw [if_pos (of_decide_eq_true b1)] at h
    refine ⟨b1, ?_⟩
    refine ⟨b1, ?_⟩
    refine ⟨rfl, trivial, trivial, ?_⟩
    obtain rfl := Option.some.inj h
    exact ⟨trivial, trivial, rfl, rfl⟩
/-! halter/sigset.Add -/
def sigset_Add.f (a0 : Int) (a1 : Int) : Option Int :=
  (sigset_One.f a1).bind fun t1 =>
  some (bits .or .u32 (bits .and .u32 a0 (2147483647 : Int)) t1)
def sigset_Add.R (r : Int) : Tm := .v (.one (.sc (.int .u32 r)))
theorem sigset_Add.fun_ {a0 : Int} {a1 : Int} {r : Int} (h : sigset_Add.f a0 a1 = some r) : Fun cfg 8 [.one (.sc (.int .u32 a0)), .one (.sc (.int .i64 a1))] [] (sigset_Add.R r) [] := by
  unfold sigset_Add.f at h
  refine fun_of_run cfg_ok (f := 8) (fn := Tryd.f8) Tryd.func8 rfl (by kernel_rfl) (rs := [.tmp 4]) rfl (nt := 10) rfl (l := fin) (k := (.call true [] (Int) sigset_One.R (fun t1 => (aE 2 .nil)))) (to_goal (q := (True) ∧ (∃ t1 : Int, (Fun cfg 14 [.one (.sc (.int .i64 a1))] [] (sigset_One.R t1) [] ∧ True) ∧ (True) ∧ (True ∧ ((True) ∧ (True) ∧ (.v (.one (.sc (.int .u32 (bits .or .u32 (bits .and .u32 a0 (2147483647 : Int)) t1)))) : Tm) = sigset_Add.R r ∧ ([] : List Box) = [])))) (by kernel_rfl) ?_)
  refine ⟨trivial, ?_⟩
  obtain ⟨t1, ht1, h⟩ := of_bind h
  refine ⟨t1, ⟨sigset_One.fun_ ht1, trivial⟩, ?_⟩
  refine ⟨trivial, trivial, ?_⟩
  obtain rfl := Option.some.inj h
  exact ⟨trivial, trivial, rfl, rfl⟩
/-! internal/strconv.lower -/
def internal_strconv_lower.f (a0 : Int) : Option Int :=
  some (bits .or .u8 a0 (32 : Int))
def internal_strconv_lower.R (r : Int) : Tm := .v (.one (.sc (.int .u8 r)))
theorem internal_strconv_lower.fun_ {a0 : Int} {r : Int} (h : internal_strconv_lower.f a0 = some r) : Fun cfg 36 [.one (.sc (.int .u8 a0))] [] (internal_strconv_lower.R r) [] := by
  unfold internal_strconv_lower.f at h
  refine fun_of_run cfg_ok (f := 36) (fn := Tryd.f36) Tryd.func36 rfl (by kernel_rfl) (rs := [.tmp 2]) rfl (nt := 5) rfl (l := fin) (k := (aE 4 .nil)) (to_goal (q := (True ∧ (True ∧ (True) ∧ (True ∧ ((True) ∧ (True) ∧ (.v (.one (.sc (.int .u8 (bits .or .u8 a0 (32 : Int))))) : Tm) = internal_strconv_lower.R r ∧ ([] : List Box) = []))))) (by kernel_rfl) ?_)
  refine ⟨trivial, trivial, trivial, trivial, ?_⟩
  obtain rfl := Option.some.inj h
  exact ⟨trivial, trivial, rfl, rfl⟩
/-! internal/strconv.ParseUint -/
def internal_strconv_ParseUint.c0 (x3 : Int) (a0 : ByteArray) (x4 : Int) : Bool := (decide ((IntKind.wrap .u64 ((IntKind.wrap .u64 (x3 * (16 : Int))) + (IntKind.wrap .u64 ((IntKind.wrap .u8 ((List.getD (bytesOf a0) (0 + (Int.toNat x4)) (0 : Int)) - (48 : Int))))))) > (IntKind.wrap .u64 ((shl .u64 (1 : Int) (32 : Int)) - (1 : Int)))))
def internal_strconv_ParseUint.c1 (x3 : Int) (t107 : Int) : Bool := (decide ((IntKind.wrap .u64 ((IntKind.wrap .u64 (x3 * (16 : Int))) + (IntKind.wrap .u64 ((IntKind.wrap .u8 ((IntKind.wrap .u8 (t107 - (97 : Int))) + (10 : Int))))))) > (IntKind.wrap .u64 ((shl .u64 (1 : Int) (32 : Int)) - (1 : Int)))))
def internal_strconv_ParseUint.c2 (x3 : Int) (t74 : Int) : Bool := (decide ((IntKind.wrap .u64 ((IntKind.wrap .u64 (x3 * (16 : Int))) + (IntKind.wrap .u64 ((IntKind.wrap .u8 ((IntKind.wrap .u8 (t74 - (97 : Int))) + (10 : Int))))))) > (IntKind.wrap .u64 ((shl .u64 (1 : Int) (32 : Int)) - (1 : Int)))))
def internal_strconv_ParseUint.c3 (x3 : Int) (t83 : Int) : Bool := (decide ((IntKind.wrap .u64 ((IntKind.wrap .u64 (x3 * (16 : Int))) + (IntKind.wrap .u64 ((IntKind.wrap .u8 ((IntKind.wrap .u8 (t83 - (97 : Int))) + (10 : Int))))))) > (IntKind.wrap .u64 ((shl .u64 (1 : Int) (32 : Int)) - (1 : Int)))))
def internal_strconv_ParseUint.c4 (x3 : Int) (t98 : Int) : Bool := (decide ((IntKind.wrap .u64 ((IntKind.wrap .u64 (x3 * (16 : Int))) + (IntKind.wrap .u64 ((IntKind.wrap .u8 ((IntKind.wrap .u8 (t98 - (97 : Int))) + (10 : Int))))))) > (IntKind.wrap .u64 ((shl .u64 (1 : Int) (32 : Int)) - (1 : Int)))))
def internal_strconv_ParseUint.c5 (x3 : Int) (a0 : ByteArray) (x4 : Int) : Bool := (decide ((IntKind.wrap .u64 ((IntKind.wrap .u64 (x3 * (16 : Int))) + (IntKind.wrap .u64 ((IntKind.wrap .u8 ((List.getD (bytesOf a0) (0 + (Int.toNat x4)) (0 : Int)) - (48 : Int))))))) < (IntKind.wrap .u64 (x3 * (16 : Int)))))
def internal_strconv_ParseUint.c6 (x3 : Int) (t107 : Int) : Bool := (decide ((IntKind.wrap .u64 ((IntKind.wrap .u64 (x3 * (16 : Int))) + (IntKind.wrap .u64 ((IntKind.wrap .u8 ((IntKind.wrap .u8 (t107 - (97 : Int))) + (10 : Int))))))) < (IntKind.wrap .u64 (x3 * (16 : Int)))))
def internal_strconv_ParseUint.c7 (x3 : Int) (t74 : Int) : Bool := (decide ((IntKind.wrap .u64 ((IntKind.wrap .u64 (x3 * (16 : Int))) + (IntKind.wrap .u64 ((IntKind.wrap .u8 ((IntKind.wrap .u8 (t74 - (97 : Int))) + (10 : Int))))))) < (IntKind.wrap .u64 (x3 * (16 : Int)))))
def internal_strconv_ParseUint.c8 (x3 : Int) (t83 : Int) : Bool := (decide ((IntKind.wrap .u64 ((IntKind.wrap .u64 (x3 * (16 : Int))) + (IntKind.wrap .u64 ((IntKind.wrap .u8 ((IntKind.wrap .u8 (t83 - (97 : Int))) + (10 : Int))))))) < (IntKind.wrap .u64 (x3 * (16 : Int)))))
def internal_strconv_ParseUint.c9 (x3 : Int) (t98 : Int) : Bool := (decide ((IntKind.wrap .u64 ((IntKind.wrap .u64 (x3 * (16 : Int))) + (IntKind.wrap .u64 ((IntKind.wrap .u8 ((IntKind.wrap .u8 (t98 - (97 : Int))) + (10 : Int))))))) < (IntKind.wrap .u64 (x3 * (16 : Int)))))
def internal_strconv_ParseUint.l0 (a0 : ByteArray) : Nat → Bool → Int → Int → Option ((Bool × Int) ⊕ (Int × Int))
  | 0, _, _, _ => none
  | n + 1, x2, x3, x4 =>
    if x4 < (((List.length (bytesOf a0)) : Nat) : Int) then
      if 0 ≤ x4 ∧ x4 < (((List.length (bytesOf a0)) : Nat) : Int) then
        if (0 + (Int.toNat x4)) < (List.length (bytesOf a0)) then
          if (List.getD (bytesOf a0) (0 + (Int.toNat x4)) (0 : Int)) = (95 : Int) then
            if (48 : Int) ≤ (List.getD (bytesOf a0) (0 + (Int.toNat x4)) (0 : Int)) then
              if (List.getD (bytesOf a0) (0 + (Int.toNat x4)) (0 : Int)) ≤ (57 : Int) then
                if (IntKind.wrap .u8 ((List.getD (bytesOf a0) (0 + (Int.toNat x4)) (0 : Int)) - (48 : Int))) ≥ (16 : Int) then
                  some (.inr ((0 : Int), (2 : Int)))
                else
                  if x3 ≥ (1152921504606846976 : Int) then
                    some (.inr ((IntKind.wrap .u64 ((shl .u64 (1 : Int) (32 : Int)) - (1 : Int))), (1 : Int)))
                  else
                    if (IntKind.wrap .u64 ((IntKind.wrap .u64 (x3 * (16 : Int))) + (IntKind.wrap .u64 ((IntKind.wrap .u8 ((List.getD (bytesOf a0) (0 + (Int.toNat x4)) (0 : Int)) - (48 : Int))))))) < (IntKind.wrap .u64 (x3 * (16 : Int))) then
                      some (.inr ((IntKind.wrap .u64 ((shl .u64 (1 : Int) (32 : Int)) - (1 : Int))), (1 : Int)))
                    else
                      if (IntKind.wrap .u64 ((IntKind.wrap .u64 (x3 * (16 : Int))) + (IntKind.wrap .u64 ((IntKind.wrap .u8 ((List.getD (bytesOf a0) (0 + (Int.toNat x4)) (0 : Int)) - (48 : Int))))))) > (IntKind.wrap .u64 ((shl .u64 (1 : Int) (32 : Int)) - (1 : Int))) then
                        some (.inr ((IntKind.wrap .u64 ((shl .u64 (1 : Int) (32 : Int)) - (1 : Int))), (1 : Int)))
                      else
                        internal_strconv_ParseUint.l0 a0 n x2 (IntKind.wrap .u64 ((IntKind.wrap .u64 (x3 * (16 : Int))) + (IntKind.wrap .u64 ((IntKind.wrap .u8 ((List.getD (bytesOf a0) (0 + (Int.toNat x4)) (0 : Int)) - (48 : Int))))))) (IntKind.wrap .i64 (x4 + (1 : Int)))
              else
                (internal_strconv_lower.f (List.getD (bytesOf a0) (0 + (Int.toNat x4)) (0 : Int))).bind fun t70 =>
                if (97 : Int) ≤ t70 then
                  (internal_strconv_lower.f (List.getD (bytesOf a0) (0 + (Int.toNat x4)) (0 : Int))).bind fun t72 =>
                  if t72 ≤ (122 : Int) then
                    (internal_strconv_lower.f (List.getD (bytesOf a0) (0 + (Int.toNat x4)) (0 : Int))).bind fun t74 =>
                    if (IntKind.wrap .u8 ((IntKind.wrap .u8 (t74 - (97 : Int))) + (10 : Int))) ≥ (16 : Int) then
                      some (.inr ((0 : Int), (2 : Int)))
                    else
                      if x3 ≥ (1152921504606846976 : Int) then
                        some (.inr ((IntKind.wrap .u64 ((shl .u64 (1 : Int) (32 : Int)) - (1 : Int))), (1 : Int)))
                      else
                        if (IntKind.wrap .u64 ((IntKind.wrap .u64 (x3 * (16 : Int))) + (IntKind.wrap .u64 ((IntKind.wrap .u8 ((IntKind.wrap .u8 (t74 - (97 : Int))) + (10 : Int))))))) < (IntKind.wrap .u64 (x3 * (16 : Int))) then
                          some (.inr ((IntKind.wrap .u64 ((shl .u64 (1 : Int) (32 : Int)) - (1 : Int))), (1 : Int)))
                        else
                          if (IntKind.wrap .u64 ((IntKind.wrap .u64 (x3 * (16 : Int))) + (IntKind.wrap .u64 ((IntKind.wrap .u8 ((IntKind.wrap .u8 (t74 - (97 : Int))) + (10 : Int))))))) > (IntKind.wrap .u64 ((shl .u64 (1 : Int) (32 : Int)) - (1 : Int))) then
                            some (.inr ((IntKind.wrap .u64 ((shl .u64 (1 : Int) (32 : Int)) - (1 : Int))), (1 : Int)))
                          else
                            internal_strconv_ParseUint.l0 a0 n x2 (IntKind.wrap .u64 ((IntKind.wrap .u64 (x3 * (16 : Int))) + (IntKind.wrap .u64 ((IntKind.wrap .u8 ((IntKind.wrap .u8 (t74 - (97 : Int))) + (10 : Int))))))) (IntKind.wrap .i64 (x4 + (1 : Int)))
                  else
                    some (.inr ((0 : Int), (2 : Int)))
                else
                  some (.inr ((0 : Int), (2 : Int)))
            else
              (internal_strconv_lower.f (List.getD (bytesOf a0) (0 + (Int.toNat x4)) (0 : Int))).bind fun t79 =>
              if (97 : Int) ≤ t79 then
                (internal_strconv_lower.f (List.getD (bytesOf a0) (0 + (Int.toNat x4)) (0 : Int))).bind fun t81 =>
                if t81 ≤ (122 : Int) then
                  (internal_strconv_lower.f (List.getD (bytesOf a0) (0 + (Int.toNat x4)) (0 : Int))).bind fun t83 =>
                  if (IntKind.wrap .u8 ((IntKind.wrap .u8 (t83 - (97 : Int))) + (10 : Int))) ≥ (16 : Int) then
                    some (.inr ((0 : Int), (2 : Int)))
                  else
                    if x3 ≥ (1152921504606846976 : Int) then
                      some (.inr ((IntKind.wrap .u64 ((shl .u64 (1 : Int) (32 : Int)) - (1 : Int))), (1 : Int)))
                    else
                      if (IntKind.wrap .u64 ((IntKind.wrap .u64 (x3 * (16 : Int))) + (IntKind.wrap .u64 ((IntKind.wrap .u8 ((IntKind.wrap .u8 (t83 - (97 : Int))) + (10 : Int))))))) < (IntKind.wrap .u64 (x3 * (16 : Int))) then
                        some (.inr ((IntKind.wrap .u64 ((shl .u64 (1 : Int) (32 : Int)) - (1 : Int))), (1 : Int)))
                      else
                        if (IntKind.wrap .u64 ((IntKind.wrap .u64 (x3 * (16 : Int))) + (IntKind.wrap .u64 ((IntKind.wrap .u8 ((IntKind.wrap .u8 (t83 - (97 : Int))) + (10 : Int))))))) > (IntKind.wrap .u64 ((shl .u64 (1 : Int) (32 : Int)) - (1 : Int))) then
                          some (.inr ((IntKind.wrap .u64 ((shl .u64 (1 : Int) (32 : Int)) - (1 : Int))), (1 : Int)))
                        else
                          internal_strconv_ParseUint.l0 a0 n x2 (IntKind.wrap .u64 ((IntKind.wrap .u64 (x3 * (16 : Int))) + (IntKind.wrap .u64 ((IntKind.wrap .u8 ((IntKind.wrap .u8 (t83 - (97 : Int))) + (10 : Int))))))) (IntKind.wrap .i64 (x4 + (1 : Int)))
                else
                  some (.inr ((0 : Int), (2 : Int)))
              else
                some (.inr ((0 : Int), (2 : Int)))
          else
            if (48 : Int) ≤ (List.getD (bytesOf a0) (0 + (Int.toNat x4)) (0 : Int)) then
              if (List.getD (bytesOf a0) (0 + (Int.toNat x4)) (0 : Int)) ≤ (57 : Int) then
                if (IntKind.wrap .u8 ((List.getD (bytesOf a0) (0 + (Int.toNat x4)) (0 : Int)) - (48 : Int))) ≥ (16 : Int) then
                  some (.inr ((0 : Int), (2 : Int)))
                else
                  if x3 ≥ (1152921504606846976 : Int) then
                    some (.inr ((IntKind.wrap .u64 ((shl .u64 (1 : Int) (32 : Int)) - (1 : Int))), (1 : Int)))
                  else
                    if (IntKind.wrap .u64 ((IntKind.wrap .u64 (x3 * (16 : Int))) + (IntKind.wrap .u64 ((IntKind.wrap .u8 ((List.getD (bytesOf a0) (0 + (Int.toNat x4)) (0 : Int)) - (48 : Int))))))) < (IntKind.wrap .u64 (x3 * (16 : Int))) then
                      some (.inr ((IntKind.wrap .u64 ((shl .u64 (1 : Int) (32 : Int)) - (1 : Int))), (1 : Int)))
                    else
                      if (IntKind.wrap .u64 ((IntKind.wrap .u64 (x3 * (16 : Int))) + (IntKind.wrap .u64 ((IntKind.wrap .u8 ((List.getD (bytesOf a0) (0 + (Int.toNat x4)) (0 : Int)) - (48 : Int))))))) > (IntKind.wrap .u64 ((shl .u64 (1 : Int) (32 : Int)) - (1 : Int))) then
                        some (.inr ((IntKind.wrap .u64 ((shl .u64 (1 : Int) (32 : Int)) - (1 : Int))), (1 : Int)))
                      else
                        internal_strconv_ParseUint.l0 a0 n x2 (IntKind.wrap .u64 ((IntKind.wrap .u64 (x3 * (16 : Int))) + (IntKind.wrap .u64 ((IntKind.wrap .u8 ((List.getD (bytesOf a0) (0 + (Int.toNat x4)) (0 : Int)) - (48 : Int))))))) (IntKind.wrap .i64 (x4 + (1 : Int)))
              else
                (internal_strconv_lower.f (List.getD (bytesOf a0) (0 + (Int.toNat x4)) (0 : Int))).bind fun t94 =>
                if (97 : Int) ≤ t94 then
                  (internal_strconv_lower.f (List.getD (bytesOf a0) (0 + (Int.toNat x4)) (0 : Int))).bind fun t96 =>
                  if t96 ≤ (122 : Int) then
                    (internal_strconv_lower.f (List.getD (bytesOf a0) (0 + (Int.toNat x4)) (0 : Int))).bind fun t98 =>
                    if (IntKind.wrap .u8 ((IntKind.wrap .u8 (t98 - (97 : Int))) + (10 : Int))) ≥ (16 : Int) then
                      some (.inr ((0 : Int), (2 : Int)))
                    else
                      if x3 ≥ (1152921504606846976 : Int) then
                        some (.inr ((IntKind.wrap .u64 ((shl .u64 (1 : Int) (32 : Int)) - (1 : Int))), (1 : Int)))
                      else
                        if (IntKind.wrap .u64 ((IntKind.wrap .u64 (x3 * (16 : Int))) + (IntKind.wrap .u64 ((IntKind.wrap .u8 ((IntKind.wrap .u8 (t98 - (97 : Int))) + (10 : Int))))))) < (IntKind.wrap .u64 (x3 * (16 : Int))) then
                          some (.inr ((IntKind.wrap .u64 ((shl .u64 (1 : Int) (32 : Int)) - (1 : Int))), (1 : Int)))
                        else
                          if (IntKind.wrap .u64 ((IntKind.wrap .u64 (x3 * (16 : Int))) + (IntKind.wrap .u64 ((IntKind.wrap .u8 ((IntKind.wrap .u8 (t98 - (97 : Int))) + (10 : Int))))))) > (IntKind.wrap .u64 ((shl .u64 (1 : Int) (32 : Int)) - (1 : Int))) then
                            some (.inr ((IntKind.wrap .u64 ((shl .u64 (1 : Int) (32 : Int)) - (1 : Int))), (1 : Int)))
                          else
                            internal_strconv_ParseUint.l0 a0 n x2 (IntKind.wrap .u64 ((IntKind.wrap .u64 (x3 * (16 : Int))) + (IntKind.wrap .u64 ((IntKind.wrap .u8 ((IntKind.wrap .u8 (t98 - (97 : Int))) + (10 : Int))))))) (IntKind.wrap .i64 (x4 + (1 : Int)))
                  else
                    some (.inr ((0 : Int), (2 : Int)))
                else
                  some (.inr ((0 : Int), (2 : Int)))
            else
              (internal_strconv_lower.f (List.getD (bytesOf a0) (0 + (Int.toNat x4)) (0 : Int))).bind fun t103 =>
              if (97 : Int) ≤ t103 then
                (internal_strconv_lower.f (List.getD (bytesOf a0) (0 + (Int.toNat x4)) (0 : Int))).bind fun t105 =>
                if t105 ≤ (122 : Int) then
                  (internal_strconv_lower.f (List.getD (bytesOf a0) (0 + (Int.toNat x4)) (0 : Int))).bind fun t107 =>
                  if (IntKind.wrap .u8 ((IntKind.wrap .u8 (t107 - (97 : Int))) + (10 : Int))) ≥ (16 : Int) then
                    some (.inr ((0 : Int), (2 : Int)))
                  else
                    if x3 ≥ (1152921504606846976 : Int) then
                      some (.inr ((IntKind.wrap .u64 ((shl .u64 (1 : Int) (32 : Int)) - (1 : Int))), (1 : Int)))
                    else
                      if (IntKind.wrap .u64 ((IntKind.wrap .u64 (x3 * (16 : Int))) + (IntKind.wrap .u64 ((IntKind.wrap .u8 ((IntKind.wrap .u8 (t107 - (97 : Int))) + (10 : Int))))))) < (IntKind.wrap .u64 (x3 * (16 : Int))) then
                        some (.inr ((IntKind.wrap .u64 ((shl .u64 (1 : Int) (32 : Int)) - (1 : Int))), (1 : Int)))
                      else
                        if (IntKind.wrap .u64 ((IntKind.wrap .u64 (x3 * (16 : Int))) + (IntKind.wrap .u64 ((IntKind.wrap .u8 ((IntKind.wrap .u8 (t107 - (97 : Int))) + (10 : Int))))))) > (IntKind.wrap .u64 ((shl .u64 (1 : Int) (32 : Int)) - (1 : Int))) then
                          some (.inr ((IntKind.wrap .u64 ((shl .u64 (1 : Int) (32 : Int)) - (1 : Int))), (1 : Int)))
                        else
                          internal_strconv_ParseUint.l0 a0 n x2 (IntKind.wrap .u64 ((IntKind.wrap .u64 (x3 * (16 : Int))) + (IntKind.wrap .u64 ((IntKind.wrap .u8 ((IntKind.wrap .u8 (t107 - (97 : Int))) + (10 : Int))))))) (IntKind.wrap .i64 (x4 + (1 : Int)))
                else
                  some (.inr ((0 : Int), (2 : Int)))
              else
                some (.inr ((0 : Int), (2 : Int)))
        else none
      else none
    else
      some (.inl (x2, x3))
def internal_strconv_ParseUint.l0_S (a0 : ByteArray) (x2 : Bool) (x3 : Int) (x4 : Int) : St := ⟨[.any, .v (.one (.sc (.int .i64 (16 : Int)))), .any, .any, .any, .any, .any, .any, .v (.one (.sc (.bool false))), .v (.one (.sc (.string a0))), .v (.one (.sc (.int .u64 (1152921504606846976 : Int)))), .v (.one (.sc (.int .u64 (IntKind.wrap .u64 ((shl .u64 (1 : Int) (32 : Int)) - (1 : Int)))))), .v (.one (.sc (.bool x2))), .v (.one (.sc (.int .u64 x3))), .any, .any, .any, .any, .any, .any, .any, .any, .any, .any, .any, .any, .any, .any, .any, .any, .any, .any, .any, .any, .any, .any, .any, .any, .any, .any, .any, .any, .any, .any, .any, .any, .any, .any, .any, .any, .any, .any, .any, .any, .any, .any, .any, .any, .any, .any, .any, .any, .any, .any, .any, .any, .any, .any, .any, .any, .any, .any, .any, .any, .any, .any, .any, .any, .any, .any, .any, .any, .any, .any, .any, .any, .any, .any, .any, .any, .any, .any, .any, .any, .any, .any, .any, .any, .any, .v (.one (.os 0 0 0 1 (List.length (bytesOf a0)) none)), .v (.one (.sc (.int .i64 (((List.length (bytesOf a0)) : Nat) : Int)))), .v (.one (.sc (.int .i64 x4))), .any, .any, .any, .any, .any, .any, .any, .any, .any, .any, .any, .any, .any, .any, .any, .any, .any, .any, .any, .any, .any, .any, .any, .any, .any, .any, .any, .any, .any, .any, .any, .any, .any, .any, .any, .any, .any, .any, .any, .any, .any, .any, .any, .any, .any, .any, .any, .any, .any, .any, .any, .any, .any, .any, .any, .any, .any, .any, .any, .any, .any, .any, .any, .any, .any, .any, .any, .any, .any, .any], [.gro false (.int .u8) (bytesOf a0) 5], 0⟩
def internal_strconv_ParseUint.l0_Q (a0 : ByteArray) : (Bool × Int) ⊕ (Int × Int) → Exit → St → Prop
  | .inl t => fun e s => e = (.exit 3) ∧ s = ⟨[.any, .any, .any, .any, .any, .any, .any, .any, .any, .v (.one (.sc (.string a0))), .any, .any, .v (.one (.sc (.bool t.1))), .v (.one (.sc (.int .u64 t.2))), .any, .any, .any, .any, .any, .any, .any, .any, .any, .any, .any, .any, .any, .any, .any, .any, .any, .any, .any, .any, .any, .any, .any, .any, .any, .any, .any, .any, .any, .any, .any, .any, .any, .any, .any, .any, .any, .any, .any, .any, .any, .any, .any, .any, .any, .any, .any, .any, .any, .any, .any, .any, .any, .any, .any, .any, .any, .any, .any, .any, .any, .any, .any, .any, .any, .any, .any, .any, .any, .any, .any, .any, .any, .any, .any, .any, .any, .any, .any, .any, .any, .any, .any, .any, .any, .any, .any, .any, .any, .any, .any, .any, .any, .any, .any, .any, .any, .any, .any, .any, .any, .any, .any, .any, .any, .any, .any, .any, .any, .any, .any, .any, .any, .any, .any, .any, .any, .any, .any, .any, .any, .any, .any, .any, .any, .any, .any, .any, .any, .any, .any, .any, .any, .any, .any, .any, .any, .any, .any, .any, .any, .any, .any, .any, .any, .any, .any, .any, .any, .any, .any, .any, .any, .any, .any, .any, .any, .any], [.gro false (.int .u8) (bytesOf a0) 5], 0⟩
  | .inr t => fun e s => e = .ret ∧ s = ⟨[.any, .any, .any, .any, .any, .any, .v (.one (.sc (.int .u64 t.1))), .v (.one (.sc (.iface 72 (.int .i64 t.2)))), .any, .any, .any, .any, .any, .any, .any, .any, .any, .any, .any, .any, .any, .any, .any, .any, .any, .any, .any, .any, .any, .any, .any, .any, .any, .any, .any, .any, .any, .any, .any, .any, .any, .any, .any, .any, .any, .any, .any, .any, .any, .any, .any, .any, .any, .any, .any, .any, .any, .any, .any, .any, .any, .any, .any, .any, .any, .any, .any, .any, .any, .any, .any, .any, .any, .any, .any, .any, .any, .any, .any, .any, .any, .any, .any, .any, .any, .any, .any, .any, .any, .any, .any, .any, .any, .any, .any, .any, .any, .any, .any, .any, .any, .any, .any, .any, .any, .any, .any, .any, .any, .any, .any, .any, .any, .any, .any, .any, .any, .any, .any, .any, .any, .any, .any, .any, .any, .any, .any, .any, .any, .any, .any, .any, .any, .any, .any, .any, .any, .any, .any, .any, .any, .any, .any, .any, .any, .any, .any, .any, .any, .any, .any, .any, .any, .any, .any, .any, .any, .any, .any, .any, .any, .any, .any, .any, .any, .any, .any, .any, .any, .any, .any, .any], [.gro false (.int .u8) (bytesOf a0) 5], 0⟩
theorem internal_strconv_ParseUint.l0_ok (a0 : ByteArray) : ∀ (n : Nat) (x2 : Bool) (x3 : Int) (x4 : Int) (r : (Bool × Int) ⊕ (Int × Int)), internal_strconv_ParseUint.l0 a0 n x2 x3 x4 = some r → TripN cfg (cpath (Tryd.f30.body.getD .skip) [1, 1, 1, 1, 1, 1, 1, 1, 1, 1, 1, 0, 1, 0, 0]) n (internal_strconv_ParseUint.l0_S a0 x2 x3 x4) (internal_strconv_ParseUint.l0_Q a0 r) := by
  intro n
  induction n with
  | zero => intro x2 x3 x4 r h; cases h
  | succ n ih =>
    intro x2 x3 x4 r h
    rw [internal_strconv_ParseUint.l0] at h
    refine TripN.of_run cfg_ok (k := (.br (.br (.one true (.one false (.br (oT 2 (.br (.br (.adj [] (.adj [.keep [6, 7], .drop 1] .nil)) (.br (.adj [] (.adj [.keep [6, 7], .drop 1] .nil)) (.br (oT 4 (.adj [] (.adj [.keep [6, 7], .drop 1] .nil))) (oF 3 (.br (.adj [] (.adj [.keep [6, 7], .drop 1] .nil)) (aE 3 (.adj [.keep [1, 8, 9, 10, 11, 12, 13, 99, 100, 101], .drop 1] .nil))))))) (.call true [] (Int) internal_strconv_lower.R (fun t70 => (.br (.one true (.call true [] (Int) internal_strconv_lower.R (fun t72 => (oT 2 (.br (.call true [] (Int) internal_strconv_lower.R (fun t74 => (.br (.adj [] (.adj [.keep [6, 7], .drop 1] .nil)) (.br (.adj [] (.adj [.keep [6, 7], .drop 1] .nil)) (.br (oT 4 (.adj [] (.adj [.keep [6, 7], .drop 1] .nil))) (oF 3 (.br (.adj [] (.adj [.keep [6, 7], .drop 1] .nil)) (aE 3 (.adj [.keep [1, 8, 9, 10, 11, 12, 13, 99, 100, 101], .drop 1] .nil))))))))) (.adj [] (.adj [.keep [6, 7], .drop 1] .nil))))))) (oF 4 (.adj [] (.adj [.keep [6, 7], .drop 1] .nil)))))))) (oF 3 (.call true [] (Int) internal_strconv_lower.R (fun t79 => (.br (.one true (.call true [] (Int) internal_strconv_lower.R (fun t81 => (oT 2 (.br (.call true [] (Int) internal_strconv_lower.R (fun t83 => (.br (.adj [] (.adj [.keep [6, 7], .drop 1] .nil)) (.br (.adj [] (.adj [.keep [6, 7], .drop 1] .nil)) (.br (oT 4 (.adj [] (.adj [.keep [6, 7], .drop 1] .nil))) (oF 3 (.br (.adj [] (.adj [.keep [6, 7], .drop 1] .nil)) (aE 3 (.adj [.keep [1, 8, 9, 10, 11, 12, 13, 99, 100, 101], .drop 1] .nil))))))))) (.adj [] (.adj [.keep [6, 7], .drop 1] .nil))))))) (oF 4 (.adj [] (.adj [.keep [6, 7], .drop 1] .nil)))))))))) (oF 2 (.br (oT 2 (.br (.br (.adj [] (.adj [.keep [6, 7], .drop 1] .nil)) (.br (.adj [] (.adj [.keep [6, 7], .drop 1] .nil)) (.br (oT 4 (.adj [] (.adj [.keep [6, 7], .drop 1] .nil))) (oF 3 (.br (.adj [] (.adj [.keep [6, 7], .drop 1] .nil)) (aE 3 (.adj [.keep [1, 8, 9, 10, 11, 12, 13, 99, 100, 101], .drop 1] .nil))))))) (.call true [] (Int) internal_strconv_lower.R (fun t94 => (.br (.one true (.call true [] (Int) internal_strconv_lower.R (fun t96 => (oT 2 (.br (.call true [] (Int) internal_strconv_lower.R (fun t98 => (.br (.adj [] (.adj [.keep [6, 7], .drop 1] .nil)) (.br (.adj [] (.adj [.keep [6, 7], .drop 1] .nil)) (.br (oT 4 (.adj [] (.adj [.keep [6, 7], .drop 1] .nil))) (oF 3 (.br (.adj [] (.adj [.keep [6, 7], .drop 1] .nil)) (aE 3 (.adj [.keep [1, 8, 9, 10, 11, 12, 13, 99, 100, 101], .drop 1] .nil))))))))) (.adj [] (.adj [.keep [6, 7], .drop 1] .nil))))))) (oF 4 (.adj [] (.adj [.keep [6, 7], .drop 1] .nil)))))))) (oF 3 (.call true [] (Int) internal_strconv_lower.R (fun t103 => (.br (.one true (.call true [] (Int) internal_strconv_lower.R (fun t105 => (oT 2 (.br (.call true [] (Int) internal_strconv_lower.R (fun t107 => (.br (.adj [] (.adj [.keep [6, 7], .drop 1] .nil)) (.br (.adj [] (.adj [.keep [6, 7], .drop 1] .nil)) (.br (oT 4 (.adj [] (.adj [.keep [6, 7], .drop 1] .nil))) (oF 3 (.br (.adj [] (.adj [.keep [6, 7], .drop 1] .nil)) (aE 3 (.adj [.keep [1, 8, 9, 10, 11, 12, 13, 99, 100, 101], .drop 1] .nil))))))))) (.adj [] (.adj [.keep [6, 7], .drop 1] .nil))))))) (oF 4 (.adj [] (.adj [.keep [6, 7], .drop 1] .nil)))))))))) (.adj [.keep [9, 12, 13], .drop 1] .nil))) (to_goal (q := (True) ∧ (((decide (x4 < (((List.length (bytesOf a0)) : Nat) : Int))) = true → (0 ≤ x4 ∧ x4 < (((List.length (bytesOf a0)) : Nat) : Int)) ∧ ((0 + (Int.toNat x4)) < (List.length (bytesOf a0))) ∧ (True) ∧ ((((List.getD (bytesOf a0) (0 + (Int.toNat x4)) (0 : Int)) == (95 : Int)) = true → (((List.getD (bytesOf a0) (0 + (Int.toNat x4)) (0 : Int)) == (95 : Int)) = true ∧ (false = false ∧ (True) ∧ (((decide ((48 : Int) ≤ (List.getD (bytesOf a0) (0 + (Int.toNat x4)) (0 : Int)))) = true → ((decide ((48 : Int) ≤ (List.getD (bytesOf a0) (0 + (Int.toNat x4)) (0 : Int)))) = true ∧ (True) ∧ ((decide ((48 : Int) ≤ (List.getD (bytesOf a0) (0 + (Int.toNat x4)) (0 : Int)))) = true ∧ (((decide ((List.getD (bytesOf a0) (0 + (Int.toNat x4)) (0 : Int)) ≤ (57 : Int))) = true → (True) ∧ (True) ∧ (True) ∧ (((decide ((IntKind.wrap .u8 ((List.getD (bytesOf a0) (0 + (Int.toNat x4)) (0 : Int)) - (48 : Int))) ≥ (16 : Int))) = true → (True ∧ (((True) ∧ (True) ∧ True) ∧ internal_strconv_ParseUint.l0_Q a0 r .ret ⟨[.any, .any, .any, .any, .any, .any, .v (.one (.sc (.int .u64 (0 : Int)))), .v (.one (.sc (.iface 72 (.int .i64 (2 : Int))))), .any, .any, .any, .any, .any, .any, .any, .any, .any, .any, .any, .any, .any, .any, .any, .any, .any, .any, .any, .any, .any, .any, .any, .any, .any, .any, .any, .any, .any, .any, .any, .any, .any, .any, .any, .any, .any, .any, .any, .any, .any, .any, .any, .any, .any, .any, .any, .any, .any, .any, .any, .any, .any, .any, .any, .any, .any, .any, .any, .any, .any, .any, .any, .any, .any, .any, .any, .any, .any, .any, .any, .any, .any, .any, .any, .any, .any, .any, .any, .any, .any, .any, .any, .any, .any, .any, .any, .any, .any, .any, .any, .any, .any, .any, .any, .any, .any, .any, .any, .any, .any, .any, .any, .any, .any, .any, .any, .any, .any, .any, .any, .any, .any, .any, .any, .any, .any, .any, .any, .any, .any, .any, .any, .any, .any, .any, .any, .any, .any, .any, .any, .any, .any, .any, .any, .any, .any, .any, .any, .any, .any, .any, .any, .any, .any, .any, .any, .any, .any, .any, .any, .any, .any, .any, .any, .any, .any, .any, .any, .any, .any, .any, .any, .any], [.gro false (.int .u8) (bytesOf a0) 5], 0⟩))) ∧ ((decide ((IntKind.wrap .u8 ((List.getD (bytesOf a0) (0 + (Int.toNat x4)) (0 : Int)) - (48 : Int))) ≥ (16 : Int))) = false → (True) ∧ (((decide (x3 ≥ (1152921504606846976 : Int))) = true → (True ∧ (((True) ∧ (True) ∧ True) ∧ internal_strconv_ParseUint.l0_Q a0 r .ret ⟨[.any, .any, .any, .any, .any, .any, .v (.one (.sc (.int .u64 (IntKind.wrap .u64 ((shl .u64 (1 : Int) (32 : Int)) - (1 : Int)))))), .v (.one (.sc (.iface 72 (.int .i64 (1 : Int))))), .any, .any, .any, .any, .any, .any, .any, .any, .any, .any, .any, .any, .any, .any, .any, .any, .any, .any, .any, .any, .any, .any, .any, .any, .any, .any, .any, .any, .any, .any, .any, .any, .any, .any, .any, .any, .any, .any, .any, .any, .any, .any, .any, .any, .any, .any, .any, .any, .any, .any, .any, .any, .any, .any, .any, .any, .any, .any, .any, .any, .any, .any, .any, .any, .any, .any, .any, .any, .any, .any, .any, .any, .any, .any, .any, .any, .any, .any, .any, .any, .any, .any, .any, .any, .any, .any, .any, .any, .any, .any, .any, .any, .any, .any, .any, .any, .any, .any, .any, .any, .any, .any, .any, .any, .any, .any, .any, .any, .any, .any, .any, .any, .any, .any, .any, .any, .any, .any, .any, .any, .any, .any, .any, .any, .any, .any, .any, .any, .any, .any, .any, .any, .any, .any, .any, .any, .any, .any, .any, .any, .any, .any, .any, .any, .any, .any, .any, .any, .any, .any, .any, .any, .any, .any, .any, .any, .any, .any, .any, .any, .any, .any, .any, .any], [.gro false (.int .u8) (bytesOf a0) 5], 0⟩))) ∧ ((decide (x3 ≥ (1152921504606846976 : Int))) = false → (True) ∧ (True) ∧ (True) ∧ (True) ∧ (True) ∧ (((internal_strconv_ParseUint.c5 x3 a0 x4) = false → ((internal_strconv_ParseUint.c5 x3 a0 x4) = false ∧ ((internal_strconv_ParseUint.c5 x3 a0 x4) = false ∧ (True) ∧ ((internal_strconv_ParseUint.c5 x3 a0 x4) = false ∧ (((internal_strconv_ParseUint.c0 x3 a0 x4) = true → (True ∧ (((True) ∧ (True) ∧ True) ∧ internal_strconv_ParseUint.l0_Q a0 r .ret ⟨[.any, .any, .any, .any, .any, .any, .v (.one (.sc (.int .u64 (IntKind.wrap .u64 ((shl .u64 (1 : Int) (32 : Int)) - (1 : Int)))))), .v (.one (.sc (.iface 72 (.int .i64 (1 : Int))))), .any, .any, .any, .any, .any, .any, .any, .any, .any, .any, .any, .any, .any, .any, .any, .any, .any, .any, .any, .any, .any, .any, .any, .any, .any, .any, .any, .any, .any, .any, .any, .any, .any, .any, .any, .any, .any, .any, .any, .any, .any, .any, .any, .any, .any, .any, .any, .any, .any, .any, .any, .any, .any, .any, .any, .any, .any, .any, .any, .any, .any, .any, .any, .any, .any, .any, .any, .any, .any, .any, .any, .any, .any, .any, .any, .any, .any, .any, .any, .any, .any, .any, .any, .any, .any, .any, .any, .any, .any, .any, .any, .any, .any, .any, .any, .any, .any, .any, .any, .any, .any, .any, .any, .any, .any, .any, .any, .any, .any, .any, .any, .any, .any, .any, .any, .any, .any, .any, .any, .any, .any, .any, .any, .any, .any, .any, .any, .any, .any, .any, .any, .any, .any, .any, .any, .any, .any, .any, .any, .any, .any, .any, .any, .any, .any, .any, .any, .any, .any, .any, .any, .any, .any, .any, .any, .any, .any, .any, .any, .any, .any, .any, .any, .any], [.gro false (.int .u8) (bytesOf a0) 5], 0⟩))) ∧ ((internal_strconv_ParseUint.c0 x3 a0 x4) = false → (True ∧ (True ∧ (True ∧ (True) ∧ (((True) ∧ (True) ∧ True) ∧ TripN cfg (cpath (Tryd.f30.body.getD .skip) [1, 1, 1, 1, 1, 1, 1, 1, 1, 1, 1, 0, 1, 0, 0]) n (internal_strconv_ParseUint.l0_S a0 x2 (IntKind.wrap .u64 ((IntKind.wrap .u64 (x3 * (16 : Int))) + (IntKind.wrap .u64 ((IntKind.wrap .u8 ((List.getD (bytesOf a0) (0 + (Int.toNat x4)) (0 : Int)) - (48 : Int))))))) (IntKind.wrap .i64 (x4 + (1 : Int)))) (internal_strconv_ParseUint.l0_Q a0 r))))))))))) ∧ ((internal_strconv_ParseUint.c5 x3 a0 x4) = true → ((internal_strconv_ParseUint.c5 x3 a0 x4) = true ∧ ((internal_strconv_ParseUint.c5 x3 a0 x4) = true ∧ ((internal_strconv_ParseUint.c5 x3 a0 x4) = true ∧ (true = true ∧ (True ∧ (((True) ∧ (True) ∧ True) ∧ internal_strconv_ParseUint.l0_Q a0 r .ret ⟨[.any, .any, .any, .any, .any, .any, .v (.one (.sc (.int .u64 (IntKind.wrap .u64 ((shl .u64 (1 : Int) (32 : Int)) - (1 : Int)))))), .v (.one (.sc (.iface 72 (.int .i64 (1 : Int))))), .any, .any, .any, .any, .any, .any, .any, .any, .any, .any, .any, .any, .any, .any, .any, .any, .any, .any, .any, .any, .any, .any, .any, .any, .any, .any, .any, .any, .any, .any, .any, .any, .any, .any, .any, .any, .any, .any, .any, .any, .any, .any, .any, .any, .any, .any, .any, .any, .any, .any, .any, .any, .any, .any, .any, .any, .any, .any, .any, .any, .any, .any, .any, .any, .any, .any, .any, .any, .any, .any, .any, .any, .any, .any, .any, .any, .any, .any, .any, .any, .any, .any, .any, .any, .any, .any, .any, .any, .any, .any, .any, .any, .any, .any, .any, .any, .any, .any, .any, .any, .any, .any, .any, .any, .any, .any, .any, .any, .any, .any, .any, .any, .any, .any, .any, .any, .any, .any, .any, .any, .any, .any, .any, .any, .any, .any, .any, .any, .any, .any, .any, .any, .any, .any, .any, .any, .any, .any, .any, .any, .any, .any, .any, .any, .any, .any, .any, .any, .any, .any, .any, .any, .any, .any, .any, .any, .any, .any, .any, .any, .any, .any, .any, .any], [.gro false (.int .u8) (bytesOf a0) 5], 0⟩))))))))))))) ∧ ((decide ((List.getD (bytesOf a0) (0 + (Int.toNat x4)) (0 : Int)) ≤ (57 : Int))) = false → (∃ t70 : Int, (Fun cfg 36 [.one (.sc (.int .u8 (List.getD (bytesOf a0) (0 + (Int.toNat x4)) (0 : Int))))] [] (internal_strconv_lower.R t70) [] ∧ True) ∧ (True) ∧ (((decide ((97 : Int) ≤ t70)) = true → ((decide ((97 : Int) ≤ t70)) = true ∧ (∃ t72 : Int, (Fun cfg 36 [.one (.sc (.int .u8 (List.getD (bytesOf a0) (0 + (Int.toNat x4)) (0 : Int))))] [] (internal_strconv_lower.R t72) [] ∧ True) ∧ ((decide ((97 : Int) ≤ t70)) = true ∧ (True) ∧ ((decide ((97 : Int) ≤ t70)) = true ∧ (((decide (t72 ≤ (122 : Int))) = true → (∃ t74 : Int, (Fun cfg 36 [.one (.sc (.int .u8 (List.getD (bytesOf a0) (0 + (Int.toNat x4)) (0 : Int))))] [] (internal_strconv_lower.R t74) [] ∧ True) ∧ (True) ∧ (True) ∧ (True) ∧ (True) ∧ (((decide ((IntKind.wrap .u8 ((IntKind.wrap .u8 (t74 - (97 : Int))) + (10 : Int))) ≥ (16 : Int))) = true → (True ∧ (((True) ∧ (True) ∧ True) ∧ internal_strconv_ParseUint.l0_Q a0 r .ret ⟨[.any, .any, .any, .any, .any, .any, .v (.one (.sc (.int .u64 (0 : Int)))), .v (.one (.sc (.iface 72 (.int .i64 (2 : Int))))), .any, .any, .any, .any, .any, .any, .any, .any, .any, .any, .any, .any, .any, .any, .any, .any, .any, .any, .any, .any, .any, .any, .any, .any, .any, .any, .any, .any, .any, .any, .any, .any, .any, .any, .any, .any, .any, .any, .any, .any, .any, .any, .any, .any, .any, .any, .any, .any, .any, .any, .any, .any, .any, .any, .any, .any, .any, .any, .any, .any, .any, .any, .any, .any, .any, .any, .any, .any, .any, .any, .any, .any, .any, .any, .any, .any, .any, .any, .any, .any, .any, .any, .any, .any, .any, .any, .any, .any, .any, .any, .any, .any, .any, .any, .any, .any, .any, .any, .any, .any, .any, .any, .any, .any, .any, .any, .any, .any, .any, .any, .any, .any, .any, .any, .any, .any, .any, .any, .any, .any, .any, .any, .any, .any, .any, .any, .any, .any, .any, .any, .any, .any, .any, .any, .any, .any, .any, .any, .any, .any, .any, .any, .any, .any, .any, .any, .any, .any, .any, .any, .any, .any, .any, .any, .any, .any, .any, .any, .any, .any, .any, .any, .any, .any], [.gro false (.int .u8) (bytesOf a0) 5], 0⟩))) ∧ ((decide ((IntKind.wrap .u8 ((IntKind.wrap .u8 (t74 - (97 : Int))) + (10 : Int))) ≥ (16 : Int))) = false → (True) ∧ (((decide (x3 ≥ (1152921504606846976 : Int))) = true → (True ∧ (((True) ∧ (True) ∧ True) ∧ internal_strconv_ParseUint.l0_Q a0 r .ret ⟨[.any, .any, .any, .any, .any, .any, .v (.one (.sc (.int .u64 (IntKind.wrap .u64 ((shl .u64 (1 : Int) (32 : Int)) - (1 : Int)))))), .v (.one (.sc (.iface 72 (.int .i64 (1 : Int))))), .any, .any, .any, .any, .any, .any, .any, .any, .any, .any, .any, .any, .any, .any, .any, .any, .any, .any, .any, .any, .any, .any, .any, .any, .any, .any, .any, .any, .any, .any, .any, .any, .any, .any, .any, .any, .any, .any, .any, .any, .any, .any, .any, .any, .any, .any, .any, .any, .any, .any, .any, .any, .any, .any, .any, .any, .any, .any, .any, .any, .any, .any, .any, .any, .any, .any, .any, .any, .any, .any, .any, .any, .any, .any, .any, .any, .any, .any, .any, .any, .any, .any, .any, .any, .any, .any, .any, .any, .any, .any, .any, .any, .any, .any, .any, .any, .any, .any, .any, .any, .any, .any, .any, .any, .any, .any, .any, .any, .any, .any, .any, .any, .any, .any, .any, .any, .any, .any, .any, .any, .any, .any, .any, .any, .any, .any, .any, .any, .any, .any, .any, .any, .any, .any, .any, .any, .any, .any, .any, .any, .any, .any, .any, .any, .any, .any, .any, .any, .any, .any, .any, .any, .any, .any, .any, .any, .any, .any, .any, .any, .any, .any, .any, .any], [.gro false (.int .u8) (bytesOf a0) 5], 0⟩))) ∧ ((decide (x3 ≥ (1152921504606846976 : Int))) = false → (True) ∧ (True) ∧ (True) ∧ (True) ∧ (True) ∧ (((internal_strconv_ParseUint.c7 x3 t74) = false → ((internal_strconv_ParseUint.c7 x3 t74) = false ∧ ((internal_strconv_ParseUint.c7 x3 t74) = false ∧ (True) ∧ ((internal_strconv_ParseUint.c7 x3 t74) = false ∧ (((internal_strconv_ParseUint.c2 x3 t74) = true → (True ∧ (((True) ∧ (True) ∧ True) ∧ internal_strconv_ParseUint.l0_Q a0 r .ret ⟨[.any, .any, .any, .any, .any, .any, .v (.one (.sc (.int .u64 (IntKind.wrap .u64 ((shl .u64 (1 : Int) (32 : Int)) - (1 : Int)))))), .v (.one (.sc (.iface 72 (.int .i64 (1 : Int))))), .any, .any, .any, .any, .any, .any, .any, .any, .any, .any, .any, .any, .any, .any, .any, .any, .any, .any, .any, .any, .any, .any, .any, .any, .any, .any, .any, .any, .any, .any, .any, .any, .any, .any, .any, .any, .any, .any, .any, .any, .any, .any, .any, .any, .any, .any, .any, .any, .any, .any, .any, .any, .any, .any, .any, .any, .any, .any, .any, .any, .any, .any, .any, .any, .any, .any, .any, .any, .any, .any, .any, .any, .any, .any, .any, .any, .any, .any, .any, .any, .any, .any, .any, .any, .any, .any, .any, .any, .any, .any, .any, .any, .any, .any, .any, .any, .any, .any, .any, .any, .any, .any, .any, .any, .any, .any, .any, .any, .any, .any, .any, .any, .any, .any, .any, .any, .any, .any, .any, .any, .any, .any, .any, .any, .any, .any, .any, .any, .any, .any, .any, .any, .any, .any, .any, .any, .any, .any, .any, .any, .any, .any, .any, .any, .any, .any, .any, .any, .any, .any, .any, .any, .any, .any, .any, .any, .any, .any, .any, .any, .any, .any, .any, .any], [.gro false (.int .u8) (bytesOf a0) 5], 0⟩))) ∧ ((internal_strconv_ParseUint.c2 x3 t74) = false → (True ∧ (True ∧ (True ∧ (True) ∧ (((True) ∧ (True) ∧ True) ∧ TripN cfg (cpath (Tryd.f30.body.getD .skip) [1, 1, 1, 1, 1, 1, 1, 1, 1, 1, 1, 0, 1, 0, 0]) n (internal_strconv_ParseUint.l0_S a0 x2 (IntKind.wrap .u64 ((IntKind.wrap .u64 (x3 * (16 : Int))) + (IntKind.wrap .u64 ((IntKind.wrap .u8 ((IntKind.wrap .u8 (t74 - (97 : Int))) + (10 : Int))))))) (IntKind.wrap .i64 (x4 + (1 : Int)))) (internal_strconv_ParseUint.l0_Q a0 r))))))))))) ∧ ((internal_strconv_ParseUint.c7 x3 t74) = true → ((internal_strconv_ParseUint.c7 x3 t74) = true ∧ ((internal_strconv_ParseUint.c7 x3 t74) = true ∧ ((internal_strconv_ParseUint.c7 x3 t74) = true ∧ (true = true ∧ (True ∧ (((True) ∧ (True) ∧ True) ∧ internal_strconv_ParseUint.l0_Q a0 r .ret ⟨[.any, .any, .any, .any, .any, .any, .v (.one (.sc (.int .u64 (IntKind.wrap .u64 ((shl .u64 (1 : Int) (32 : Int)) - (1 : Int)))))), .v (.one (.sc (.iface 72 (.int .i64 (1 : Int))))), .any, .any, .any, .any, .any, .any, .any, .any, .any, .any, .any, .any, .any, .any, .any, .any, .any, .any, .any, .any, .any, .any, .any, .any, .any, .any, .any, .any, .any, .any, .any, .any, .any, .any, .any, .any, .any, .any, .any, .any, .any, .any, .any, .any, .any, .any, .any, .any, .any, .any, .any, .any, .any, .any, .any, .any, .any, .any, .any, .any, .any, .any, .any, .any, .any, .any, .any, .any, .any, .any, .any, .any, .any, .any, .any, .any, .any, .any, .any, .any, .any, .any, .any, .any, .any, .any, .any, .any, .any, .any, .any, .any, .any, .any, .any, .any, .any, .any, .any, .any, .any, .any, .any, .any, .any, .any, .any, .any, .any, .any, .any, .any, .any, .any, .any, .any, .any, .any, .any, .any, .any, .any, .any, .any, .any, .any, .any, .any, .any, .any, .any, .any, .any, .any, .any, .any, .any, .any, .any, .any, .any, .any, .any, .any, .any, .any, .any, .any, .any, .any, .any, .any, .any, .any, .any, .any, .any, .any, .any, .any, .any, .any, .any, .any], [.gro false (.int .u8) (bytesOf a0) 5], 0⟩)))))))))))))) ∧ ((decide (t72 ≤ (122 : Int))) = false → (True ∧ (((True) ∧ (True) ∧ True) ∧ internal_strconv_ParseUint.l0_Q a0 r .ret ⟨[.any, .any, .any, .any, .any, .any, .v (.one (.sc (.int .u64 (0 : Int)))), .v (.one (.sc (.iface 72 (.int .i64 (2 : Int))))), .any, .any, .any, .any, .any, .any, .any, .any, .any, .any, .any, .any, .any, .any, .any, .any, .any, .any, .any, .any, .any, .any, .any, .any, .any, .any, .any, .any, .any, .any, .any, .any, .any, .any, .any, .any, .any, .any, .any, .any, .any, .any, .any, .any, .any, .any, .any, .any, .any, .any, .any, .any, .any, .any, .any, .any, .any, .any, .any, .any, .any, .any, .any, .any, .any, .any, .any, .any, .any, .any, .any, .any, .any, .any, .any, .any, .any, .any, .any, .any, .any, .any, .any, .any, .any, .any, .any, .any, .any, .any, .any, .any, .any, .any, .any, .any, .any, .any, .any, .any, .any, .any, .any, .any, .any, .any, .any, .any, .any, .any, .any, .any, .any, .any, .any, .any, .any, .any, .any, .any, .any, .any, .any, .any, .any, .any, .any, .any, .any, .any, .any, .any, .any, .any, .any, .any, .any, .any, .any, .any, .any, .any, .any, .any, .any, .any, .any, .any, .any, .any, .any, .any, .any, .any, .any, .any, .any, .any, .any, .any, .any, .any, .any, .any], [.gro false (.int .u8) (bytesOf a0) 5], 0⟩))))))))) ∧ ((decide ((97 : Int) ≤ t70)) = false → ((decide ((97 : Int) ≤ t70)) = false ∧ ((decide ((97 : Int) ≤ t70)) = false ∧ ((decide ((97 : Int) ≤ t70)) = false ∧ (false = false ∧ (True ∧ (((True) ∧ (True) ∧ True) ∧ internal_strconv_ParseUint.l0_Q a0 r .ret ⟨[.any, .any, .any, .any, .any, .any, .v (.one (.sc (.int .u64 (0 : Int)))), .v (.one (.sc (.iface 72 (.int .i64 (2 : Int))))), .any, .any, .any, .any, .any, .any, .any, .any, .any, .any, .any, .any, .any, .any, .any, .any, .any, .any, .any, .any, .any, .any, .any, .any, .any, .any, .any, .any, .any, .any, .any, .any, .any, .any, .any, .any, .any, .any, .any, .any, .any, .any, .any, .any, .any, .any, .any, .any, .any, .any, .any, .any, .any, .any, .any, .any, .any, .any, .any, .any, .any, .any, .any, .any, .any, .any, .any, .any, .any, .any, .any, .any, .any, .any, .any, .any, .any, .any, .any, .any, .any, .any, .any, .any, .any, .any, .any, .any, .any, .any, .any, .any, .any, .any, .any, .any, .any, .any, .any, .any, .any, .any, .any, .any, .any, .any, .any, .any, .any, .any, .any, .any, .any, .any, .any, .any, .any, .any, .any, .any, .any, .any, .any, .any, .any, .any, .any, .any, .any, .any, .any, .any, .any, .any, .any, .any, .any, .any, .any, .any, .any, .any, .any, .any, .any, .any, .any, .any, .any, .any, .any, .any, .any, .any, .any, .any, .any, .any, .any, .any, .any, .any, .any, .any], [.gro false (.int .u8) (bytesOf a0) 5], 0⟩)))))))))))))) ∧ ((decide ((48 : Int) ≤ (List.getD (bytesOf a0) (0 + (Int.toNat x4)) (0 : Int)))) = false → ((decide ((48 : Int) ≤ (List.getD (bytesOf a0) (0 + (Int.toNat x4)) (0 : Int)))) = false ∧ ((decide ((48 : Int) ≤ (List.getD (bytesOf a0) (0 + (Int.toNat x4)) (0 : Int)))) = false ∧ (false = false ∧ (∃ t79 : Int, (Fun cfg 36 [.one (.sc (.int .u8 (List.getD (bytesOf a0) (0 + (Int.toNat x4)) (0 : Int))))] [] (internal_strconv_lower.R t79) [] ∧ True) ∧ (True) ∧ (((decide ((97 : Int) ≤ t79)) = true → ((decide ((97 : Int) ≤ t79)) = true ∧ (∃ t81 : Int, (Fun cfg 36 [.one (.sc (.int .u8 (List.getD (bytesOf a0) (0 + (Int.toNat x4)) (0 : Int))))] [] (internal_strconv_lower.R t81) [] ∧ True) ∧ ((decide ((97 : Int) ≤ t79)) = true ∧ (True) ∧ ((decide ((97 : Int) ≤ t79)) = true ∧ (((decide (t81 ≤ (122 : Int))) = true → (∃ t83 : Int, (Fun cfg 36 [.one (.sc (.int .u8 (List.getD (bytesOf a0) (0 + (Int.toNat x4)) (0 : Int))))] [] (internal_strconv_lower.R t83) [] ∧ True) ∧ (True) ∧ (True) ∧ (True) ∧ (True) ∧ (((decide ((IntKind.wrap .u8 ((IntKind.wrap .u8 (t83 - (97 : Int))) + (10 : Int))) ≥ (16 : Int))) = true → (True ∧ (((True) ∧ (True) ∧ True) ∧ internal_strconv_ParseUint.l0_Q a0 r .ret ⟨[.any, .any, .any, .any, .any, .any, .v (.one (.sc (.int .u64 (0 : Int)))), .v (.one (.sc (.iface 72 (.int .i64 (2 : Int))))), .any, .any, .any, .any, .any, .any, .any, .any, .any, .any, .any, .any, .any, .any, .any, .any, .any, .any, .any, .any, .any, .any, .any, .any, .any, .any, .any, .any, .any, .any, .any, .any, .any, .any, .any, .any, .any, .any, .any, .any, .any, .any, .any, .any, .any, .any, .any, .any, .any, .any, .any, .any, .any, .any, .any, .any, .any, .any, .any, .any, .any, .any, .any, .any, .any, .any, .any, .any, .any, .any, .any, .any, .any, .any, .any, .any, .any, .any, .any, .any, .any, .any, .any, .any, .any, .any, .any, .any, .any, .any, .any, .any, .any, .any, .any, .any, .any, .any, .any, .any, .any, .any, .any, .any, .any, .any, .any, .any, .any, .any, .any, .any, .any, .any, .any, .any, .any, .any, .any, .any, .any, .any, .any, .any, .any, .any, .any, .any, .any, .any, .any, .any, .any, .any, .any, .any, .any, .any, .any, .any, .any, .any, .any, .any, .any, .any, .any, .any, .any, .any, .any, .any, .any, .any, .any, .any, .any, .any, .any, .any, .any, .any, .any, .any], [.gro false (.int .u8) (bytesOf a0) 5], 0⟩))) ∧ ((decide ((IntKind.wrap .u8 ((IntKind.wrap .u8 (t83 - (97 : Int))) + (10 : Int))) ≥ (16 : Int))) = false → (True) ∧ (((decide (x3 ≥ (1152921504606846976 : Int))) = true → (True ∧ (((True) ∧ (True) ∧ True) ∧ internal_strconv_ParseUint.l0_Q a0 r .ret ⟨[.any, .any, .any, .any, .any, .any, .v (.one (.sc (.int .u64 (IntKind.wrap .u64 ((shl .u64 (1 : Int) (32 : Int)) - (1 : Int)))))), .v (.one (.sc (.iface 72 (.int .i64 (1 : Int))))), .any, .any, .any, .any, .any, .any, .any, .any, .any, .any, .any, .any, .any, .any, .any, .any, .any, .any, .any, .any, .any, .any, .any, .any, .any, .any, .any, .any, .any, .any, .any, .any, .any, .any, .any, .any, .any, .any, .any, .any, .any, .any, .any, .any, .any, .any, .any, .any, .any, .any, .any, .any, .any, .any, .any, .any, .any, .any, .any, .any, .any, .any, .any, .any, .any, .any, .any, .any, .any, .any, .any, .any, .any, .any, .any, .any, .any, .any, .any, .any, .any, .any, .any, .any, .any, .any, .any, .any, .any, .any, .any, .any, .any, .any, .any, .any, .any, .any, .any, .any, .any, .any, .any, .any, .any, .any, .any, .any, .any, .any, .any, .any, .any, .any, .any, .any, .any, .any, .any, .any, .any, .any, .any, .any, .any, .any, .any, .any, .any, .any, .any, .any, .any, .any, .any, .any, .any, .any, .any, .any, .any, .any, .any, .any, .any, .any, .any, .any, .any, .any, .any, .any, .any, .any, .any, .any, .any, .any, .any, .any, .any, .any, .any, .any], [.gro false (.int .u8) (bytesOf a0) 5], 0⟩))) ∧ ((decide (x3 ≥ (1152921504606846976 : Int))) = false → (True) ∧ (True) ∧ (True) ∧ (True) ∧ (True) ∧ (((internal_strconv_ParseUint.c8 x3 t83) = false → ((internal_strconv_ParseUint.c8 x3 t83) = false ∧ ((internal_strconv_ParseUint.c8 x3 t83) = false ∧ (True) ∧ ((internal_strconv_ParseUint.c8 x3 t83) = false ∧ (((internal_strconv_ParseUint.c3 x3 t83) = true → (True ∧ (((True) ∧ (True) ∧ True) ∧ internal_strconv_ParseUint.l0_Q a0 r .ret ⟨[.any, .any, .any, .any, .any, .any, .v (.one (.sc (.int .u64 (IntKind.wrap .u64 ((shl .u64 (1 : Int) (32 : Int)) - (1 : Int)))))), .v (.one (.sc (.iface 72 (.int .i64 (1 : Int))))), .any, .any, .any, .any, .any, .any, .any, .any, .any, .any, .any, .any, .any, .any, .any, .any, .any, .any, .any, .any, .any, .any, .any, .any, .any, .any, .any, .any, .any, .any, .any, .any, .any, .any, .any, .any, .any, .any, .any, .any, .any, .any, .any, .any, .any, .any, .any, .any, .any, .any, .any, .any, .any, .any, .any, .any, .any, .any, .any, .any, .any, .any, .any, .any, .any, .any, .any, .any, .any, .any, .any, .any, .any, .any, .any, .any, .any, .any, .any, .any, .any, .any, .any, .any, .any, .any, .any, .any, .any, .any, .any, .any, .any, .any, .any, .any, .any, .any, .any, .any, .any, .any, .any, .any, .any, .any, .any, .any, .any, .any, .any, .any, .any, .any, .any, .any, .any, .any, .any, .any, .any, .any, .any, .any, .any, .any, .any, .any, .any, .any, .any, .any, .any, .any, .any, .any, .any, .any, .any, .any, .any, .any, .any, .any, .any, .any, .any, .any, .any, .any, .any, .any, .any, .any, .any, .any, .any, .any, .any, .any, .any, .any, .any, .any], [.gro false (.int .u8) (bytesOf a0) 5], 0⟩))) ∧ ((internal_strconv_ParseUint.c3 x3 t83) = false → (True ∧ (True ∧ (True ∧ (True) ∧ (((True) ∧ (True) ∧ True) ∧ TripN cfg (cpath (Tryd.f30.body.getD .skip) [1, 1, 1, 1, 1, 1, 1, 1, 1, 1, 1, 0, 1, 0, 0]) n (internal_strconv_ParseUint.l0_S a0 x2 (IntKind.wrap .u64 ((IntKind.wrap .u64 (x3 * (16 : Int))) + (IntKind.wrap .u64 ((IntKind.wrap .u8 ((IntKind.wrap .u8 (t83 - (97 : Int))) + (10 : Int))))))) (IntKind.wrap .i64 (x4 + (1 : Int)))) (internal_strconv_ParseUint.l0_Q a0 r))))))))))) ∧ ((internal_strconv_ParseUint.c8 x3 t83) = true → ((internal_strconv_ParseUint.c8 x3 t83) = true ∧ ((internal_strconv_ParseUint.c8 x3 t83) = true ∧ ((internal_strconv_ParseUint.c8 x3 t83) = true ∧ (true = true ∧ (True ∧ (((True) ∧ (True) ∧ True) ∧ internal_strconv_ParseUint.l0_Q a0 r .ret ⟨[.any, .any, .any, .any, .any, .any, .v (.one (.sc (.int .u64 (IntKind.wrap .u64 ((shl .u64 (1 : Int) (32 : Int)) - (1 : Int)))))), .v (.one (.sc (.iface 72 (.int .i64 (1 : Int))))), .any, .any, .any, .any, .any, .any, .any, .any, .any, .any, .any, .any, .any, .any, .any, .any, .any, .any, .any, .any, .any, .any, .any, .any, .any, .any, .any, .any, .any, .any, .any, .any, .any, .any, .any, .any, .any, .any, .any, .any, .any, .any, .any, .any, .any, .any, .any, .any, .any, .any, .any, .any, .any, .any, .any, .any, .any, .any, .any, .any, .any, .any, .any, .any, .any, .any, .any, .any, .any, .any, .any, .any, .any, .any, .any, .any, .any, .any, .any, .any, .any, .any, .any, .any, .any, .any, .any, .any, .any, .any, .any, .any, .any, .any, .any, .any, .any, .any, .any, .any, .any, .any, .any, .any, .any, .any, .any, .any, .any, .any, .any, .any, .any, .any, .any, .any, .any, .any, .any, .any, .any, .any, .any, .any, .any, .any, .any, .any, .any, .any, .any, .any, .any, .any, .any, .any, .any, .any, .any, .any, .any, .any, .any, .any, .any, .any, .any, .any, .any, .any, .any, .any, .any, .any, .any, .any, .any, .any, .any, .any, .any, .any, .any, .any], [.gro false (.int .u8) (bytesOf a0) 5], 0⟩)))))))))))))) ∧ ((decide (t81 ≤ (122 : Int))) = false → (True ∧ (((True) ∧ (True) ∧ True) ∧ internal_strconv_ParseUint.l0_Q a0 r .ret ⟨[.any, .any, .any, .any, .any, .any, .v (.one (.sc (.int .u64 (0 : Int)))), .v (.one (.sc (.iface 72 (.int .i64 (2 : Int))))), .any, .any, .any, .any, .any, .any, .any, .any, .any, .any, .any, .any, .any, .any, .any, .any, .any, .any, .any, .any, .any, .any, .any, .any, .any, .any, .any, .any, .any, .any, .any, .any, .any, .any, .any, .any, .any, .any, .any, .any, .any, .any, .any, .any, .any, .any, .any, .any, .any, .any, .any, .any, .any, .any, .any, .any, .any, .any, .any, .any, .any, .any, .any, .any, .any, .any, .any, .any, .any, .any, .any, .any, .any, .any, .any, .any, .any, .any, .any, .any, .any, .any, .any, .any, .any, .any, .any, .any, .any, .any, .any, .any, .any, .any, .any, .any, .any, .any, .any, .any, .any, .any, .any, .any, .any, .any, .any, .any, .any, .any, .any, .any, .any, .any, .any, .any, .any, .any, .any, .any, .any, .any, .any, .any, .any, .any, .any, .any, .any, .any, .any, .any, .any, .any, .any, .any, .any, .any, .any, .any, .any, .any, .any, .any, .any, .any, .any, .any, .any, .any, .any, .any, .any, .any, .any, .any, .any, .any, .any, .any, .any, .any, .any, .any], [.gro false (.int .u8) (bytesOf a0) 5], 0⟩))))))))) ∧ ((decide ((97 : Int) ≤ t79)) = false → ((decide ((97 : Int) ≤ t79)) = false ∧ ((decide ((97 : Int) ≤ t79)) = false ∧ ((decide ((97 : Int) ≤ t79)) = false ∧ (false = false ∧ (True ∧ (((True) ∧ (True) ∧ True) ∧ internal_strconv_ParseUint.l0_Q a0 r .ret ⟨[.any, .any, .any, .any, .any, .any, .v (.one (.sc (.int .u64 (0 : Int)))), .v (.one (.sc (.iface 72 (.int .i64 (2 : Int))))), .any, .any, .any, .any, .any, .any, .any, .any, .any, .any, .any, .any, .any, .any, .any, .any, .any, .any, .any, .any, .any, .any, .any, .any, .any, .any, .any, .any, .any, .any, .any, .any, .any, .any, .any, .any, .any, .any, .any, .any, .any, .any, .any, .any, .any, .any, .any, .any, .any, .any, .any, .any, .any, .any, .any, .any, .any, .any, .any, .any, .any, .any, .any, .any, .any, .any, .any, .any, .any, .any, .any, .any, .any, .any, .any, .any, .any, .any, .any, .any, .any, .any, .any, .any, .any, .any, .any, .any, .any, .any, .any, .any, .any, .any, .any, .any, .any, .any, .any, .any, .any, .any, .any, .any, .any, .any, .any, .any, .any, .any, .any, .any, .any, .any, .any, .any, .any, .any, .any, .any, .any, .any, .any, .any, .any, .any, .any, .any, .any, .any, .any, .any, .any, .any, .any, .any, .any, .any, .any, .any, .any, .any, .any, .any, .any, .any, .any, .any, .any, .any, .any, .any, .any, .any, .any, .any, .any, .any, .any, .any, .any, .any, .any, .any], [.gro false (.int .u8) (bytesOf a0) 5], 0⟩))))))))))))))))) ∧ (((List.getD (bytesOf a0) (0 + (Int.toNat x4)) (0 : Int)) == (95 : Int)) = false → (((List.getD (bytesOf a0) (0 + (Int.toNat x4)) (0 : Int)) == (95 : Int)) = false ∧ (false = false ∧ (True) ∧ (((decide ((48 : Int) ≤ (List.getD (bytesOf a0) (0 + (Int.toNat x4)) (0 : Int)))) = true → ((decide ((48 : Int) ≤ (List.getD (bytesOf a0) (0 + (Int.toNat x4)) (0 : Int)))) = true ∧ (True) ∧ ((decide ((48 : Int) ≤ (List.getD (bytesOf a0) (0 + (Int.toNat x4)) (0 : Int)))) = true ∧ (((decide ((List.getD (bytesOf a0) (0 + (Int.toNat x4)) (0 : Int)) ≤ (57 : Int))) = true → (True) ∧ (True) ∧ (True) ∧ (((decide ((IntKind.wrap .u8 ((List.getD (bytesOf a0) (0 + (Int.toNat x4)) (0 : Int)) - (48 : Int))) ≥ (16 : Int))) = true → (True ∧ (((True) ∧ (True) ∧ True) ∧ internal_strconv_ParseUint.l0_Q a0 r .ret ⟨[.any, .any, .any, .any, .any, .any, .v (.one (.sc (.int .u64 (0 : Int)))), .v (.one (.sc (.iface 72 (.int .i64 (2 : Int))))), .any, .any, .any, .any, .any, .any, .any, .any, .any, .any, .any, .any, .any, .any, .any, .any, .any, .any, .any, .any, .any, .any, .any, .any, .any, .any, .any, .any, .any, .any, .any, .any, .any, .any, .any, .any, .any, .any, .any, .any, .any, .any, .any, .any, .any, .any, .any, .any, .any, .any, .any, .any, .any, .any, .any, .any, .any, .any, .any, .any, .any, .any, .any, .any, .any, .any, .any, .any, .any, .any, .any, .any, .any, .any, .any, .any, .any, .any, .any, .any, .any, .any, .any, .any, .any, .any, .any, .any, .any, .any, .any, .any, .any, .any, .any, .any, .any, .any, .any, .any, .any, .any, .any, .any, .any, .any, .any, .any, .any, .any, .any, .any, .any, .any, .any, .any, .any, .any, .any, .any, .any, .any, .any, .any, .any, .any, .any, .any, .any, .any, .any, .any, .any, .any, .any, .any, .any, .any, .any, .any, .any, .any, .any, .any, .any, .any, .any, .any, .any, .any, .any, .any, .any, .any, .any, .any, .any, .any, .any, .any, .any, .any, .any, .any], [.gro false (.int .u8) (bytesOf a0) 5], 0⟩))) ∧ ((decide ((IntKind.wrap .u8 ((List.getD (bytesOf a0) (0 + (Int.toNat x4)) (0 : Int)) - (48 : Int))) ≥ (16 : Int))) = false → (True) ∧ (((decide (x3 ≥ (1152921504606846976 : Int))) = true → (True ∧ (((True) ∧ (True) ∧ True) ∧ internal_strconv_ParseUint.l0_Q a0 r .ret ⟨[.any, .any, .any, .any, .any, .any, .v (.one (.sc (.int .u64 (IntKind.wrap .u64 ((shl .u64 (1 : Int) (32 : Int)) - (1 : Int)))))), .v (.one (.sc (.iface 72 (.int .i64 (1 : Int))))), .any, .any, .any, .any, .any, .any, .any, .any, .any, .any, .any, .any, .any, .any, .any, .any, .any, .any, .any, .any, .any, .any, .any, .any, .any, .any, .any, .any, .any, .any, .any, .any, .any, .any, .any, .any, .any, .any, .any, .any, .any, .any, .any, .any, .any, .any, .any, .any, .any, .any, .any, .any, .any, .any, .any, .any, .any, .any, .any, .any, .any, .any, .any, .any, .any, .any, .any, .any, .any, .any, .any, .any, .any, .any, .any, .any, .any, .any, .any, .any, .any, .any, .any, .any, .any, .any, .any, .any, .any, .any, .any, .any, .any, .any, .any, .any, .any, .any, .any, .any, .any, .any, .any, .any, .any, .any, .any, .any, .any, .any, .any, .any, .any, .any, .any, .any, .any, .any, .any, .any, .any, .any, .any, .any, .any, .any, .any, .any, .any, .any, .any, .any, .any, .any, .any, .any, .any, .any, .any, .any, .any, .any, .any, .any, .any, .any, .any, .any, .any, .any, .any, .any, .any, .any, .any, .any, .any, .any, .any, .any, .any, .any, .any, .any], [.gro false (.int .u8) (bytesOf a0) 5], 0⟩))) ∧ ((decide (x3 ≥ (1152921504606846976 : Int))) = false → (True) ∧ (True) ∧ (True) ∧ (True) ∧ (True) ∧ (((internal_strconv_ParseUint.c5 x3 a0 x4) = false → ((internal_strconv_ParseUint.c5 x3 a0 x4) = false ∧ ((internal_strconv_ParseUint.c5 x3 a0 x4) = false ∧ (True) ∧ ((internal_strconv_ParseUint.c5 x3 a0 x4) = false ∧ (((internal_strconv_ParseUint.c0 x3 a0 x4) = true → (True ∧ (((True) ∧ (True) ∧ True) ∧ internal_strconv_ParseUint.l0_Q a0 r .ret ⟨[.any, .any, .any, .any, .any, .any, .v (.one (.sc (.int .u64 (IntKind.wrap .u64 ((shl .u64 (1 : Int) (32 : Int)) - (1 : Int)))))), .v (.one (.sc (.iface 72 (.int .i64 (1 : Int))))), .any, .any, .any, .any, .any, .any, .any, .any, .any, .any, .any, .any, .any, .any, .any, .any, .any, .any, .any, .any, .any, .any, .any, .any, .any, .any, .any, .any, .any, .any, .any, .any, .any, .any, .any, .any, .any, .any, .any, .any, .any, .any, .any, .any, .any, .any, .any, .any, .any, .any, .any, .any, .any, .any, .any, .any, .any, .any, .any, .any, .any, .any, .any, .any, .any, .any, .any, .any, .any, .any, .any, .any, .any, .any, .any, .any, .any, .any, .any, .any, .any, .any, .any, .any, .any, .any, .any, .any, .any, .any, .any, .any, .any, .any, .any, .any, .any, .any, .any, .any, .any, .any, .any, .any, .any, .any, .any, .any, .any, .any, .any, .any, .any, .any, .any, .any, .any, .any, .any, .any, .any, .any, .any, .any, .any, .any, .any, .any, .any, .any, .any, .any, .any, .any, .any, .any, .any, .any, .any, .any, .any, .any, .any, .any, .any, .any, .any, .any, .any, .any, .any, .any, .any, .any, .any, .any, .any, .any, .any, .any, .any, .any, .any, .any], [.gro false (.int .u8) (bytesOf a0) 5], 0⟩))) ∧ ((internal_strconv_ParseUint.c0 x3 a0 x4) = false → (True ∧ (True ∧ (True ∧ (True) ∧ (((True) ∧ (True) ∧ True) ∧ TripN cfg (cpath (Tryd.f30.body.getD .skip) [1, 1, 1, 1, 1, 1, 1, 1, 1, 1, 1, 0, 1, 0, 0]) n (internal_strconv_ParseUint.l0_S a0 x2 (IntKind.wrap .u64 ((IntKind.wrap .u64 (x3 * (16 : Int))) + (IntKind.wrap .u64 ((IntKind.wrap .u8 ((List.getD (bytesOf a0) (0 + (Int.toNat x4)) (0 : Int)) - (48 : Int))))))) (IntKind.wrap .i64 (x4 + (1 : Int)))) (internal_strconv_ParseUint.l0_Q a0 r))))))))))) ∧ ((internal_strconv_ParseUint.c5 x3 a0 x4) = true → ((internal_strconv_ParseUint.c5 x3 a0 x4) = true ∧ ((internal_strconv_ParseUint.c5 x3 a0 x4) = true ∧ ((internal_strconv_ParseUint.c5 x3 a0 x4) = true ∧ (true = true ∧ (True ∧ (((True) ∧ (True) ∧ True) ∧ internal_strconv_ParseUint.l0_Q a0 r .ret ⟨[.any, .any, .any, .any, .any, .any, .v (.one (.sc (.int .u64 (IntKind.wrap .u64 ((shl .u64 (1 : Int) (32 : Int)) - (1 : Int)))))), .v (.one (.sc (.iface 72 (.int .i64 (1 : Int))))), .any, .any, .any, .any, .any, .any, .any, .any, .any, .any, .any, .any, .any, .any, .any, .any, .any, .any, .any, .any, .any, .any, .any, .any, .any, .any, .any, .any, .any, .any, .any, .any, .any, .any, .any, .any, .any, .any, .any, .any, .any, .any, .any, .any, .any, .any, .any, .any, .any, .any, .any, .any, .any, .any, .any, .any, .any, .any, .any, .any, .any, .any, .any, .any, .any, .any, .any, .any, .any, .any, .any, .any, .any, .any, .any, .any, .any, .any, .any, .any, .any, .any, .any, .any, .any, .any, .any, .any, .any, .any, .any, .any, .any, .any, .any, .any, .any, .any, .any, .any, .any, .any, .any, .any, .any, .any, .any, .any, .any, .any, .any, .any, .any, .any, .any, .any, .any, .any, .any, .any, .any, .any, .any, .any, .any, .any, .any, .any, .any, .any, .any, .any, .any, .any, .any, .any, .any, .any, .any, .any, .any, .any, .any, .any, .any, .any, .any, .any, .any, .any, .any, .any, .any, .any, .any, .any, .any, .any, .any, .any, .any, .any, .any, .any], [.gro false (.int .u8) (bytesOf a0) 5], 0⟩))))))))))))) ∧ ((decide ((List.getD (bytesOf a0) (0 + (Int.toNat x4)) (0 : Int)) ≤ (57 : Int))) = false → (∃ t94 : Int, (Fun cfg 36 [.one (.sc (.int .u8 (List.getD (bytesOf a0) (0 + (Int.toNat x4)) (0 : Int))))] [] (internal_strconv_lower.R t94) [] ∧ True) ∧ (True) ∧ (((decide ((97 : Int) ≤ t94)) = true → ((decide ((97 : Int) ≤ t94)) = true ∧ (∃ t96 : Int, (Fun cfg 36 [.one (.sc (.int .u8 (List.getD (bytesOf a0) (0 + (Int.toNat x4)) (0 : Int))))] [] (internal_strconv_lower.R t96) [] ∧ True) ∧ ((decide ((97 : Int) ≤ t94)) = true ∧ (True) ∧ ((decide ((97 : Int) ≤ t94)) = true ∧ (((decide (t96 ≤ (122 : Int))) = true → (∃ t98 : Int, (Fun cfg 36 [.one (.sc (.int .u8 (List.getD (bytesOf a0) (0 + (Int.toNat x4)) (0 : Int))))] [] (internal_strconv_lower.R t98) [] ∧ True) ∧ (True) ∧ (True) ∧ (True) ∧ (True) ∧ (((decide ((IntKind.wrap .u8 ((IntKind.wrap .u8 (t98 - (97 : Int))) + (10 : Int))) ≥ (16 : Int))) = true → (True ∧ (((True) ∧ (True) ∧ True) ∧ internal_strconv_ParseUint.l0_Q a0 r .ret ⟨[.any, .any, .any, .any, .any, .any, .v (.one (.sc (.int .u64 (0 : Int)))), .v (.one (.sc (.iface 72 (.int .i64 (2 : Int))))), .any, .any, .any, .any, .any, .any, .any, .any, .any, .any, .any, .any, .any, .any, .any, .any, .any, .any, .any, .any, .any, .any, .any, .any, .any, .any, .any, .any, .any, .any, .any, .any, .any, .any, .any, .any, .any, .any, .any, .any, .any, .any, .any, .any, .any, .any, .any, .any, .any, .any, .any, .any, .any, .any, .any, .any, .any, .any, .any, .any, .any, .any, .any, .any, .any, .any, .any, .any, .any, .any, .any, .any, .any, .any, .any, .any, .any, .any, .any, .any, .any, .any, .any, .any, .any, .any, .any, .any, .any, .any, .any, .any, .any, .any, .any, .any, .any, .any, .any, .any, .any, .any, .any, .any, .any, .any, .any, .any, .any, .any, .any, .any, .any, .any, .any, .any, .any, .any, .any, .any, .any, .any, .any, .any, .any, .any, .any, .any, .any, .any, .any, .any, .any, .any, .any, .any, .any, .any, .any, .any, .any, .any, .any, .any, .any, .any, .any, .any, .any, .any, .any, .any, .any, .any, .any, .any, .any, .any, .any, .any, .any, .any, .any, .any], [.gro false (.int .u8) (bytesOf a0) 5], 0⟩))) ∧ ((decide ((IntKind.wrap .u8 ((IntKind.wrap .u8 (t98 - (97 : Int))) + (10 : Int))) ≥ (16 : Int))) = false → (True) ∧ (((decide (x3 ≥ (1152921504606846976 : Int))) = true → (True ∧ (((True) ∧ (True) ∧ True) ∧ internal_strconv_ParseUint.l0_Q a0 r .ret ⟨[.any, .any, .any, .any, .any, .any, .v (.one (.sc (.int .u64 (IntKind.wrap .u64 ((shl .u64 (1 : Int) (32 : Int)) - (1 : Int)))))), .v (.one (.sc (.iface 72 (.int .i64 (1 : Int))))), .any, .any, .any, .any, .any, .any, .any, .any, .any, .any, .any, .any, .any, .any, .any, .any, .any, .any, .any, .any, .any, .any, .any, .any, .any, .any, .any, .any, .any, .any, .any, .any, .any, .any, .any, .any, .any, .any, .any, .any, .any, .any, .any, .any, .any, .any, .any, .any, .any, .any, .any, .any, .any, .any, .any, .any, .any, .any, .any, .any, .any, .any, .any, .any, .any, .any, .any, .any, .any, .any, .any, .any, .any, .any, .any, .any, .any, .any, .any, .any, .any, .any, .any, .any, .any, .any, .any, .any, .any, .any, .any, .any, .any, .any, .any, .any, .any, .any, .any, .any, .any, .any, .any, .any, .any, .any, .any, .any, .any, .any, .any, .any, .any, .any, .any, .any, .any, .any, .any, .any, .any, .any, .any, .any, .any, .any, .any, .any, .any, .any, .any, .any, .any, .any, .any, .any, .any, .any, .any, .any, .any, .any, .any, .any, .any, .any, .any, .any, .any, .any, .any, .any, .any, .any, .any, .any, .any, .any, .any, .any, .any, .any, .any, .any], [.gro false (.int .u8) (bytesOf a0) 5], 0⟩))) ∧ ((decide (x3 ≥ (1152921504606846976 : Int))) = false → (True) ∧ (True) ∧ (True) ∧ (True) ∧ (True) ∧ (((internal_strconv_ParseUint.c9 x3 t98) = false → ((internal_strconv_ParseUint.c9 x3 t98) = false ∧ ((internal_strconv_ParseUint.c9 x3 t98) = false ∧ (True) ∧ ((internal_strconv_ParseUint.c9 x3 t98) = false ∧ (((internal_strconv_ParseUint.c4 x3 t98) = true → (True ∧ (((True) ∧ (True) ∧ True) ∧ internal_strconv_ParseUint.l0_Q a0 r .ret ⟨[.any, .any, .any, .any, .any, .any, .v (.one (.sc (.int .u64 (IntKind.wrap .u64 ((shl .u64 (1 : Int) (32 : Int)) - (1 : Int)))))), .v (.one (.sc (.iface 72 (.int .i64 (1 : Int))))), .any, .any, .any, .any, .any, .any, .any, .any, .any, .any, .any, .any, .any, .any, .any, .any, .any, .any, .any, .any, .any, .any, .any, .any, .any, .any, .any, .any, .any, .any, .any, .any, .any, .any, .any, .any, .any, .any, .any, .any, .any, .any, .any, .any, .any, .any, .any, .any, .any, .any, .any, .any, .any, .any, .any, .any, .any, .any, .any, .any, .any, .any, .any, .any, .any, .any, .any, .any, .any, .any, .any, .any, .any, .any, .any, .any, .any, .any, .any, .any, .any, .any, .any, .any, .any, .any, .any, .any, .any, .any, .any, .any, .any, .any, .any, .any, .any, .any, .any, .any, .any, .any, .any, .any, .any, .any, .any, .any, .any, .any, .any, .any, .any, .any, .any, .any, .any, .any, .any, .any, .any, .any, .any, .any, .any, .any, .any, .any, .any, .any, .any, .any, .any, .any, .any, .any, .any, .any, .any, .any, .any, .any, .any, .any, .any, .any, .any, .any, .any, .any, .any, .any, .any, .any, .any, .any, .any, .any, .any, .any, .any, .any, .any, .any], [.gro false (.int .u8) (bytesOf a0) 5], 0⟩))) ∧ ((internal_strconv_ParseUint.c4 x3 t98) = false → (True ∧ (True ∧ (True ∧ (True) ∧ (((True) ∧ (True) ∧ True) ∧ TripN cfg (cpath (Tryd.f30.body.getD .skip) [1, 1, 1, 1, 1, 1, 1, 1, 1, 1, 1, 0, 1, 0, 0]) n (internal_strconv_ParseUint.l0_S a0 x2 (IntKind.wrap .u64 ((IntKind.wrap .u64 (x3 * (16 : Int))) + (IntKind.wrap .u64 ((IntKind.wrap .u8 ((IntKind.wrap .u8 (t98 - (97 : Int))) + (10 : Int))))))) (IntKind.wrap .i64 (x4 + (1 : Int)))) (internal_strconv_ParseUint.l0_Q a0 r))))))))))) ∧ ((internal_strconv_ParseUint.c9 x3 t98) = true → ((internal_strconv_ParseUint.c9 x3 t98) = true ∧ ((internal_strconv_ParseUint.c9 x3 t98) = true ∧ ((internal_strconv_ParseUint.c9 x3 t98) = true ∧ (true = true ∧ (True ∧ (((True) ∧ (True) ∧ True) ∧ internal_strconv_ParseUint.l0_Q a0 r .ret ⟨[.any, .any, .any, .any, .any, .any, .v (.one (.sc (.int .u64 (IntKind.wrap .u64 ((shl .u64 (1 : Int) (32 : Int)) - (1 : Int)))))), .v (.one (.sc (.iface 72 (.int .i64 (1 : Int))))), .any, .any, .any, .any, .any, .any, .any, .any, .any, .any, .any, .any, .any, .any, .any, .any, .any, .any, .any, .any, .any, .any, .any, .any, .any, .any, .any, .any, .any, .any, .any, .any, .any, .any, .any, .any, .any, .any, .any, .any, .any, .any, .any, .any, .any, .any, .any, .any, .any, .any, .any, .any, .any, .any, .any, .any, .any, .any, .any, .any, .any, .any, .any, .any, .any, .any, .any, .any, .any, .any, .any, .any, .any, .any, .any, .any, .any, .any, .any, .any, .any, .any, .any, .any, .any, .any, .any, .any, .any, .any, .any, .any, .any, .any, .any, .any, .any, .any, .any, .any, .any, .any, .any, .any, .any, .any, .any, .any, .any, .any, .any, .any, .any, .any, .any, .any, .any, .any, .any, .any, .any, .any, .any, .any, .any, .any, .any, .any, .any, .any, .any, .any, .any, .any, .any, .any, .any, .any, .any, .any, .any, .any, .any, .any, .any, .any, .any, .any, .any, .any, .any, .any, .any, .any, .any, .any, .any, .any, .any, .any, .any, .any, .any, .any], [.gro false (.int .u8) (bytesOf a0) 5], 0⟩)))))))))))))) ∧ ((decide (t96 ≤ (122 : Int))) = false → (True ∧ (((True) ∧ (True) ∧ True) ∧ internal_strconv_ParseUint.l0_Q a0 r .ret ⟨[.any, .any, .any, .any, .any, .any, .v (.one (.sc (.int .u64 (0 : Int)))), .v (.one (.sc (.iface 72 (.int .i64 (2 : Int))))), .any, .any, .any, .any, .any, .any, .any, .any, .any, .any, .any, .any, .any, .any, .any, .any, .any, .any, .any, .any, .any, .any, .any, .any, .any, .any, .any, .any, .any, .any, .any, .any, .any, .any, .any, .any, .any, .any, .any, .any, .any, .any, .any, .any, .any, .any, .any, .any, .any, .any, .any, .any, .any, .any, .any, .any, .any, .any, .any, .any, .any, .any, .any, .any, .any, .any, .any, .any, .any, .any, .any, .any, .any, .any, .any, .any, .any, .any, .any, .any, .any, .any, .any, .any, .any, .any, .any, .any, .any, .any, .any, .any, .any, .any, .any, .any, .any, .any, .any, .any, .any, .any, .any, .any, .any, .any, .any, .any, .any, .any, .any, .any, .any, .any, .any, .any, .any, .any, .any, .any, .any, .any, .any, .any, .any, .any, .any, .any, .any, .any, .any, .any, .any, .any, .any, .any, .any, .any, .any, .any, .any, .any, .any, .any, .any, .any, .any, .any, .any, .any, .any, .any, .any, .any, .any, .any, .any, .any, .any, .any, .any, .any, .any, .any], [.gro false (.int .u8) (bytesOf a0) 5], 0⟩))))))))) ∧ ((decide ((97 : Int) ≤ t94)) = false → ((decide ((97 : Int) ≤ t94)) = false ∧ ((decide ((97 : Int) ≤ t94)) = false ∧ ((decide ((97 : Int) ≤ t94)) = false ∧ (false = false ∧ (True ∧ (((True) ∧ (True) ∧ True) ∧ internal_strconv_ParseUint.l0_Q a0 r .ret ⟨[.any, .any, .any, .any, .any, .any, .v (.one (.sc (.int .u64 (0 : Int)))), .v (.one (.sc (.iface 72 (.int .i64 (2 : Int))))), .any, .any, .any, .any, .any, .any, .any, .any, .any, .any, .any, .any, .any, .any, .any, .any, .any, .any, .any, .any, .any, .any, .any, .any, .any, .any, .any, .any, .any, .any, .any, .any, .any, .any, .any, .any, .any, .any, .any, .any, .any, .any, .any, .any, .any, .any, .any, .any, .any, .any, .any, .any, .any, .any, .any, .any, .any, .any, .any, .any, .any, .any, .any, .any, .any, .any, .any, .any, .any, .any, .any, .any, .any, .any, .any, .any, .any, .any, .any, .any, .any, .any, .any, .any, .any, .any, .any, .any, .any, .any, .any, .any, .any, .any, .any, .any, .any, .any, .any, .any, .any, .any, .any, .any, .any, .any, .any, .any, .any, .any, .any, .any, .any, .any, .any, .any, .any, .any, .any, .any, .any, .any, .any, .any, .any, .any, .any, .any, .any, .any, .any, .any, .any, .any, .any, .any, .any, .any, .any, .any, .any, .any, .any, .any, .any, .any, .any, .any, .any, .any, .any, .any, .any, .any, .any, .any, .any, .any, .any, .any, .any, .any, .any, .any], [.gro false (.int .u8) (bytesOf a0) 5], 0⟩)))))))))))))) ∧ ((decide ((48 : Int) ≤ (List.getD (bytesOf a0) (0 + (Int.toNat x4)) (0 : Int)))) = false → ((decide ((48 : Int) ≤ (List.getD (bytesOf a0) (0 + (Int.toNat x4)) (0 : Int)))) = false ∧ ((decide ((48 : Int) ≤ (List.getD (bytesOf a0) (0 + (Int.toNat x4)) (0 : Int)))) = false ∧ (false = false ∧ (∃ t103 : Int, (Fun cfg 36 [.one (.sc (.int .u8 (List.getD (bytesOf a0) (0 + (Int.toNat x4)) (0 : Int))))] [] (internal_strconv_lower.R t103) [] ∧ True) ∧ (True) ∧ (((decide ((97 : Int) ≤ t103)) = true → ((decide ((97 : Int) ≤ t103)) = true ∧ (∃ t105 : Int, (Fun cfg 36 [.one (.sc (.int .u8 (List.getD (bytesOf a0) (0 + (Int.toNat x4)) (0 : Int))))] [] (internal_strconv_lower.R t105) [] ∧ True) ∧ ((decide ((97 : Int) ≤ t103)) = true ∧ (True) ∧ ((decide ((97 : Int) ≤ t103)) = true ∧ (((decide (t105 ≤ (122 : Int))) = true → (∃ t107 : Int, (Fun cfg 36 [.one (.sc (.int .u8 (List.getD (bytesOf a0) (0 + (Int.toNat x4)) (0 : Int))))] [] (internal_strconv_lower.R t107) [] ∧ True) ∧ (True) ∧ (True) ∧ (True) ∧ (True) ∧ (((decide ((IntKind.wrap .u8 ((IntKind.wrap .u8 (t107 - (97 : Int))) + (10 : Int))) ≥ (16 : Int))) = true → (True ∧ (((True) ∧ (True) ∧ True) ∧ internal_strconv_ParseUint.l0_Q a0 r .ret ⟨[.any, .any, .any, .any, .any, .any, .v (.one (.sc (.int .u64 (0 : Int)))), .v (.one (.sc (.iface 72 (.int .i64 (2 : Int))))), .any, .any, .any, .any, .any, .any, .any, .any, .any, .any, .any, .any, .any, .any, .any, .any, .any, .any, .any, .any, .any, .any, .any, .any, .any, .any, .any, .any, .any, .any, .any, .any, .any, .any, .any, .any, .any, .any, .any, .any, .any, .any, .any, .any, .any, .any, .any, .any, .any, .any, .any, .any, .any, .any, .any, .any, .any, .any, .any, .any, .any, .any, .any, .any, .any, .any, .any, .any, .any, .any, .any, .any, .any, .any, .any, .any, .any, .any, .any, .any, .any, .any, .any, .any, .any, .any, .any, .any, .any, .any, .any, .any, .any, .any, .any, .any, .any, .any, .any, .any, .any, .any, .any, .any, .any, .any, .any, .any, .any, .any, .any, .any, .any, .any, .any, .any, .any, .any, .any, .any, .any, .any, .any, .any, .any, .any, .any, .any, .any, .any, .any, .any, .any, .any, .any, .any, .any, .any, .any, .any, .any, .any, .any, .any, .any, .any, .any, .any, .any, .any, .any, .any, .any, .any, .any, .any, .any, .any, .any, .any, .any, .any, .any, .any], [.gro false (.int .u8) (bytesOf a0) 5], 0⟩))) ∧ ((decide ((IntKind.wrap .u8 ((IntKind.wrap .u8 (t107 - (97 : Int))) + (10 : Int))) ≥ (16 : Int))) = false → (True) ∧ (((decide (x3 ≥ (1152921504606846976 : Int))) = true → (True ∧ (((True) ∧ (True) ∧ True) ∧ internal_strconv_ParseUint.l0_Q a0 r .ret ⟨[.any, .any, .any, .any, .any, .any, .v (.one (.sc (.int .u64 (IntKind.wrap .u64 ((shl .u64 (1 : Int) (32 : Int)) - (1 : Int)))))), .v (.one (.sc (.iface 72 (.int .i64 (1 : Int))))), .any, .any, .any, .any, .any, .any, .any, .any, .any, .any, .any, .any, .any, .any, .any, .any, .any, .any, .any, .any, .any, .any, .any, .any, .any, .any, .any, .any, .any, .any, .any, .any, .any, .any, .any, .any, .any, .any, .any, .any, .any, .any, .any, .any, .any, .any, .any, .any, .any, .any, .any, .any, .any, .any, .any, .any, .any, .any, .any, .any, .any, .any, .any, .any, .any, .any, .any, .any, .any, .any, .any, .any, .any, .any, .any, .any, .any, .any, .any, .any, .any, .any, .any, .any, .any, .any, .any, .any, .any, .any, .any, .any, .any, .any, .any, .any, .any, .any, .any, .any, .any, .any, .any, .any, .any, .any, .any, .any, .any, .any, .any, .any, .any, .any, .any, .any, .any, .any, .any, .any, .any, .any, .any, .any, .any, .any, .any, .any, .any, .any, .any, .any, .any, .any, .any, .any, .any, .any, .any, .any, .any, .any, .any, .any, .any, .any, .any, .any, .any, .any, .any, .any, .any, .any, .any, .any, .any, .any, .any, .any, .any, .any, .any, .any], [.gro false (.int .u8) (bytesOf a0) 5], 0⟩))) ∧ ((decide (x3 ≥ (1152921504606846976 : Int))) = false → (True) ∧ (True) ∧ (True) ∧ (True) ∧ (True) ∧ (((internal_strconv_ParseUint.c6 x3 t107) = false → ((internal_strconv_ParseUint.c6 x3 t107) = false ∧ ((internal_strconv_ParseUint.c6 x3 t107) = false ∧ (True) ∧ ((internal_strconv_ParseUint.c6 x3 t107) = false ∧ (((internal_strconv_ParseUint.c1 x3 t107) = true → (True ∧ (((True) ∧ (True) ∧ True) ∧ internal_strconv_ParseUint.l0_Q a0 r .ret ⟨[.any, .any, .any, .any, .any, .any, .v (.one (.sc (.int .u64 (IntKind.wrap .u64 ((shl .u64 (1 : Int) (32 : Int)) - (1 : Int)))))), .v (.one (.sc (.iface 72 (.int .i64 (1 : Int))))), .any, .any, .any, .any, .any, .any, .any, .any, .any, .any, .any, .any, .any, .any, .any, .any, .any, .any, .any, .any, .any, .any, .any, .any, .any, .any, .any, .any, .any, .any, .any, .any, .any, .any, .any, .any, .any, .any, .any, .any, .any, .any, .any, .any, .any, .any, .any, .any, .any, .any, .any, .any, .any, .any, .any, .any, .any, .any, .any, .any, .any, .any, .any, .any, .any, .any, .any, .any, .any, .any, .any, .any, .any, .any, .any, .any, .any, .any, .any, .any, .any, .any, .any, .any, .any, .any, .any, .any, .any, .any, .any, .any, .any, .any, .any, .any, .any, .any, .any, .any, .any, .any, .any, .any, .any, .any, .any, .any, .any, .any, .any, .any, .any, .any, .any, .any, .any, .any, .any, .any, .any, .any, .any, .any, .any, .any, .any, .any, .any, .any, .any, .any, .any, .any, .any, .any, .any, .any, .any, .any, .any, .any, .any, .any, .any, .any, .any, .any, .any, .any, .any, .any, .any, .any, .any, .any, .any, .any, .any, .any, .any, .any, .any, .any], [.gro false (.int .u8) (bytesOf a0) 5], 0⟩))) ∧ ((internal_strconv_ParseUint.c1 x3 t107) = false → (True ∧ (True ∧ (True ∧ (True) ∧ (((True) ∧ (True) ∧ True) ∧ TripN cfg (cpath (Tryd.f30.body.getD .skip) [1, 1, 1, 1, 1, 1, 1, 1, 1, 1, 1, 0, 1, 0, 0]) n (internal_strconv_ParseUint.l0_S a0 x2 (IntKind.wrap .u64 ((IntKind.wrap .u64 (x3 * (16 : Int))) + (IntKind.wrap .u64 ((IntKind.wrap .u8 ((IntKind.wrap .u8 (t107 - (97 : Int))) + (10 : Int))))))) (IntKind.wrap .i64 (x4 + (1 : Int)))) (internal_strconv_ParseUint.l0_Q a0 r))))))))))) ∧ ((internal_strconv_ParseUint.c6 x3 t107) = true → ((internal_strconv_ParseUint.c6 x3 t107) = true ∧ ((internal_strconv_ParseUint.c6 x3 t107) = true ∧ ((internal_strconv_ParseUint.c6 x3 t107) = true ∧ (true = true ∧ (True ∧ (((True) ∧ (True) ∧ True) ∧ internal_strconv_ParseUint.l0_Q a0 r .ret ⟨[.any, .any, .any, .any, .any, .any, .v (.one (.sc (.int .u64 (IntKind.wrap .u64 ((shl .u64 (1 : Int) (32 : Int)) - (1 : Int)))))), .v (.one (.sc (.iface 72 (.int .i64 (1 : Int))))), .any, .any, .any, .any, .any, .any, .any, .any, .any, .any, .any, .any, .any, .any, .any, .any, .any, .any, .any, .any, .any, .any, .any, .any, .any, .any, .any, .any, .any, .any, .any, .any, .any, .any, .any, .any, .any, .any, .any, .any, .any, .any, .any, .any, .any, .any, .any, .any, .any, .any, .any, .any, .any, .any, .any, .any, .any, .any, .any, .any, .any, .any, .any, .any, .any, .any, .any, .any, .any, .any, .any, .any, .any, .any, .any, .any, .any, .any, .any, .any, .any, .any, .any, .any, .any, .any, .any, .any, .any, .any, .any, .any, .any, .any, .any, .any, .any, .any, .any, .any, .any, .any, .any, .any, .any, .any, .any, .any, .any, .any, .any, .any, .any, .any, .any, .any, .any, .any, .any, .any, .any, .any, .any, .any, .any, .any, .any, .any, .any, .any, .any, .any, .any, .any, .any, .any, .any, .any, .any, .any, .any, .any, .any, .any, .any, .any, .any, .any, .any, .any, .any, .any, .any, .any, .any, .any, .any, .any, .any, .any, .any, .any, .any, .any], [.gro false (.int .u8) (bytesOf a0) 5], 0⟩)))))))))))))) ∧ ((decide (t105 ≤ (122 : Int))) = false → (True ∧ (((True) ∧ (True) ∧ True) ∧ internal_strconv_ParseUint.l0_Q a0 r .ret ⟨[.any, .any, .any, .any, .any, .any, .v (.one (.sc (.int .u64 (0 : Int)))), .v (.one (.sc (.iface 72 (.int .i64 (2 : Int))))), .any, .any, .any, .any, .any, .any, .any, .any, .any, .any, .any, .any, .any, .any, .any, .any, .any, .any, .any, .any, .any, .any, .any, .any, .any, .any, .any, .any, .any, .any, .any, .any, .any, .any, .any, .any, .any, .any, .any, .any, .any, .any, .any, .any, .any, .any, .any, .any, .any, .any, .any, .any, .any, .any, .any, .any, .any, .any, .any, .any, .any, .any, .any, .any, .any, .any, .any, .any, .any, .any, .any, .any, .any, .any, .any, .any, .any, .any, .any, .any, .any, .any, .any, .any, .any, .any, .any, .any, .any, .any, .any, .any, .any, .any, .any, .any, .any, .any, .any, .any, .any, .any, .any, .any, .any, .any, .any, .any, .any, .any, .any, .any, .any, .any, .any, .any, .any, .any, .any, .any, .any, .any, .any, .any, .any, .any, .any, .any, .any, .any, .any, .any, .any, .any, .any, .any, .any, .any, .any, .any, .any, .any, .any, .any, .any, .any, .any, .any, .any, .any, .any, .any, .any, .any, .any, .any, .any, .any, .any, .any, .any, .any, .any, .any], [.gro false (.int .u8) (bytesOf a0) 5], 0⟩))))))))) ∧ ((decide ((97 : Int) ≤ t103)) = false → ((decide ((97 : Int) ≤ t103)) = false ∧ ((decide ((97 : Int) ≤ t103)) = false ∧ ((decide ((97 : Int) ≤ t103)) = false ∧ (false = false ∧ (True ∧ (((True) ∧ (True) ∧ True) ∧ internal_strconv_ParseUint.l0_Q a0 r .ret ⟨[.any, .any, .any, .any, .any, .any, .v (.one (.sc (.int .u64 (0 : Int)))), .v (.one (.sc (.iface 72 (.int .i64 (2 : Int))))), .any, .any, .any, .any, .any, .any, .any, .any, .any, .any, .any, .any, .any, .any, .any, .any, .any, .any, .any, .any, .any, .any, .any, .any, .any, .any, .any, .any, .any, .any, .any, .any, .any, .any, .any, .any, .any, .any, .any, .any, .any, .any, .any, .any, .any, .any, .any, .any, .any, .any, .any, .any, .any, .any, .any, .any, .any, .any, .any, .any, .any, .any, .any, .any, .any, .any, .any, .any, .any, .any, .any, .any, .any, .any, .any, .any, .any, .any, .any, .any, .any, .any, .any, .any, .any, .any, .any, .any, .any, .any, .any, .any, .any, .any, .any, .any, .any, .any, .any, .any, .any, .any, .any, .any, .any, .any, .any, .any, .any, .any, .any, .any, .any, .any, .any, .any, .any, .any, .any, .any, .any, .any, .any, .any, .any, .any, .any, .any, .any, .any, .any, .any, .any, .any, .any, .any, .any, .any, .any, .any, .any, .any, .any, .any, .any, .any, .any, .any, .any, .any, .any, .any, .any, .any, .any, .any, .any, .any, .any, .any, .any, .any, .any, .any], [.gro false (.int .u8) (bytesOf a0) 5], 0⟩))))))))))))))))))) ∧ ((decide (x4 < (((List.length (bytesOf a0)) : Nat) : Int))) = false → (((True) ∧ (True) ∧ True) ∧ internal_strconv_ParseUint.l0_Q a0 r (.exit 3) ⟨[.any, .any, .any, .any, .any, .any, .any, .any, .any, .v (.one (.sc (.string a0))), .any, .any, .v (.one (.sc (.bool x2))), .v (.one (.sc (.int .u64 x3))), .any, .any, .any, .any, .any, .any, .any, .any, .any, .any, .any, .any, .any, .any, .any, .any, .any, .any, .any, .any, .any, .any, .any, .any, .any, .any, .any, .any, .any, .any, .any, .any, .any, .any, .any, .any, .any, .any, .any, .any, .any, .any, .any, .any, .any, .any, .any, .any, .any, .any, .any, .any, .any, .any, .any, .any, .any, .any, .any, .any, .any, .any, .any, .any, .any, .any, .any, .any, .any, .any, .any, .any, .any, .any, .any, .any, .any, .any, .any, .any, .any, .any, .any, .any, .any, .any, .any, .any, .any, .any, .any, .any, .any, .any, .any, .any, .any, .any, .any, .any, .any, .any, .any, .any, .any, .any, .any, .any, .any, .any, .any, .any, .any, .any, .any, .any, .any, .any, .any, .any, .any, .any, .any, .any, .any, .any, .any, .any, .any, .any, .any, .any, .any, .any, .any, .any, .any, .any, .any, .any, .any, .any, .any, .any, .any, .any, .any, .any, .any, .any, .any, .any, .any, .any, .any, .any, .any, .any], [.gro false (.int .u8) (bytesOf a0) 5], 0⟩)))) (by kernel_rfl) ?_)
    refine ⟨trivial, ?_⟩
    refine ⟨fun b62 => ?_, fun b62 => ?_⟩
    · rw [if_pos (of_decide_eq_true b62)] at h
      obtain ⟨g113, h⟩ := of_guard h
      refine ⟨g113, ?_⟩
      obtain ⟨g112, h⟩ := of_guard h
      refine ⟨g112, ?_⟩
      refine ⟨trivial, ?_⟩
      refine ⟨fun b63 => ?_, fun b63 => ?_⟩
      · rw [if_pos (beq_t b63)] at h
        refine ⟨b63, ?_⟩
        refine ⟨rfl, trivial, ?_⟩
        refine ⟨fun b64 => ?_, fun b64 => ?_⟩
        · rw [if_pos (of_decide_eq_true b64)] at h
          refine ⟨b64, ?_⟩
          refine ⟨trivial, ?_⟩
          refine ⟨b64, ?_⟩
          refine ⟨fun b65 => ?_, fun b65 => ?_⟩
          · rw [if_pos (of_decide_eq_true b65)] at h
            refine ⟨trivial, trivial, trivial, ?_⟩
            refine ⟨fun b66 => ?_, fun b66 => ?_⟩
            · rw [if_pos (of_decide_eq_true b66)] at h
              refine ⟨trivial, ?_⟩
              obtain rfl := Option.some.inj h
              exact ⟨⟨trivial, trivial, trivial⟩, rfl, rfl⟩
            · rw [if_neg (of_decide_eq_false b66)] at h
              refine ⟨trivial, ?_⟩
              refine ⟨fun b67 => ?_, fun b67 => ?_⟩
              · rw [if_pos (of_decide_eq_true b67)] at h
                refine ⟨trivial, ?_⟩
                obtain rfl := Option.some.inj h
                exact ⟨⟨trivial, trivial, trivial⟩, rfl, rfl⟩
              · rw [if_neg (of_decide_eq_false b67)] at h
                refine ⟨trivial, trivial, trivial, trivial, trivial, ?_⟩
                refine ⟨fun b68 => ?_, fun b68 => ?_⟩
                · rw [if_neg (of_decide_eq_false b68)] at h
                  refine ⟨b68, ?_⟩
                  refine ⟨b68, ?_⟩
                  refine ⟨trivial, ?_⟩
                  refine ⟨b68, ?_⟩
                  refine ⟨fun b69 => ?_, fun b69 => ?_⟩
                  · rw [if_pos (of_decide_eq_true b69)] at h
                    refine ⟨trivial, ?_⟩
                    obtain rfl := Option.some.inj h
                    exact ⟨⟨trivial, trivial, trivial⟩, rfl, rfl⟩
                  · rw [if_neg (of_decide_eq_false b69)] at h
                    refine ⟨trivial, trivial, trivial, trivial, ?_⟩
                    exact ⟨⟨trivial, trivial, trivial⟩, ih x2 (IntKind.wrap .u64 ((IntKind.wrap .u64 (x3 * (16 : Int))) + (IntKind.wrap .u64 ((IntKind.wrap .u8 ((List.getD (bytesOf a0) (0 + (Int.toNat x4)) (0 : Int)) - (48 : Int))))))) (IntKind.wrap .i64 (x4 + (1 : Int))) r h⟩
                · rw [if_pos (of_decide_eq_true b68)] at h
                  refine ⟨b68, ?_⟩
                  refine ⟨b68, ?_⟩
                  refine ⟨b68, ?_⟩
                  refine ⟨rfl, trivial, ?_⟩
                  obtain rfl := Option.some.inj h
                  exact ⟨⟨trivial, trivial, trivial⟩, rfl, rfl⟩
          · rw [if_neg (of_decide_eq_false b65)] at h
            obtain ⟨t70, ht70, h⟩ := of_bind h
            refine ⟨t70, ⟨internal_strconv_lower.fun_ ht70, trivial⟩, ?_⟩
            refine ⟨trivial, ?_⟩
            refine ⟨fun b71 => ?_, fun b71 => ?_⟩
            · rw [if_pos (of_decide_eq_true b71)] at h
              refine ⟨b71, ?_⟩
              obtain ⟨t72, ht72, h⟩ := of_bind h
              refine ⟨t72, ⟨internal_strconv_lower.fun_ ht72, trivial⟩, ?_⟩
              refine ⟨b71, ?_⟩
              refine ⟨trivial, ?_⟩
              refine ⟨b71, ?_⟩
              refine ⟨fun b73 => ?_, fun b73 => ?_⟩
              · rw [if_pos (of_decide_eq_true b73)] at h
                obtain ⟨t74, ht74, h⟩ := of_bind h
                refine ⟨t74, ⟨internal_strconv_lower.fun_ ht74, trivial⟩, ?_⟩
                refine ⟨trivial, trivial, trivial, trivial, ?_⟩
                refine ⟨fun b75 => ?_, fun b75 => ?_⟩
                · rw [if_pos (of_decide_eq_true b75)] at h
                  refine ⟨trivial, ?_⟩
                  obtain rfl := Option.some.inj h
                  exact ⟨⟨trivial, trivial, trivial⟩, rfl, rfl⟩
                · rw [if_neg (of_decide_eq_false b75)] at h
                  refine ⟨trivial, ?_⟩
                  refine ⟨fun b76 => ?_, fun b76 => ?_⟩
                  · rw [if_pos (of_decide_eq_true b76)] at h
                    refine ⟨trivial, ?_⟩
                    obtain rfl := Option.some.inj h
                    exact ⟨⟨trivial, trivial, trivial⟩, rfl, rfl⟩
                  · rw [if_neg (of_decide_eq_false b76)] at h
                    refine ⟨trivial, trivial, trivial, trivial, trivial, ?_⟩
                    refine ⟨fun b77 => ?_, fun b77 => ?_⟩
                    · rw [if_neg (of_decide_eq_false b77)] at h
                      refine ⟨b77, ?_⟩
                      refine ⟨b77, ?_⟩
                      refine ⟨trivial, ?_⟩
                      refine ⟨b77, ?_⟩
                      refine ⟨fun b78 => ?_, fun b78 => ?_⟩
                      · rw [if_pos (of_decide_eq_true b78)] at h
                        refine ⟨trivial, ?_⟩
                        obtain rfl := Option.some.inj h
                        exact ⟨⟨trivial, trivial, trivial⟩, rfl, rfl⟩
                      · rw [if_neg (of_decide_eq_false b78)] at h
                        refine ⟨trivial, trivial, trivial, trivial, ?_⟩
                        exact ⟨⟨trivial, trivial, trivial⟩, ih x2 (IntKind.wrap .u64 ((IntKind.wrap .u64 (x3 * (16 : Int))) + (IntKind.wrap .u64 ((IntKind.wrap .u8 ((IntKind.wrap .u8 (t74 - (97 : Int))) + (10 : Int))))))) (IntKind.wrap .i64 (x4 + (1 : Int))) r h⟩
                    · rw [if_pos (of_decide_eq_true b77)] at h
                      refine ⟨b77, ?_⟩
                      refine ⟨b77, ?_⟩
                      refine ⟨b77, ?_⟩
                      refine ⟨rfl, trivial, ?_⟩
                      obtain rfl := Option.some.inj h
                      exact ⟨⟨trivial, trivial, trivial⟩, rfl, rfl⟩
              · rw [if_neg (of_decide_eq_false b73)] at h
                refine ⟨trivial, ?_⟩
                obtain rfl := Option.some.inj h
                exact ⟨⟨trivial, trivial, trivial⟩, rfl, rfl⟩
            · rw [if_neg (of_decide_eq_false b71)] at h
              refine ⟨b71, ?_⟩
              refine ⟨b71, ?_⟩
              refine ⟨b71, ?_⟩
              refine ⟨rfl, trivial, ?_⟩
              obtain rfl := Option.some.inj h
              exact ⟨⟨trivial, trivial, trivial⟩, rfl, rfl⟩
        · rw [if_neg (of_decide_eq_false b64)] at h
          refine ⟨b64, ?_⟩
          refine ⟨b64, ?_⟩
          refine ⟨rfl, ?_⟩
          obtain ⟨t79, ht79, h⟩ := of_bind h
          refine ⟨t79, ⟨internal_strconv_lower.fun_ ht79, trivial⟩, ?_⟩
          refine ⟨trivial, ?_⟩
          refine ⟨fun b80 => ?_, fun b80 => ?_⟩
          · rw [if_pos (of_decide_eq_true b80)] at h
            refine ⟨b80, ?_⟩
            obtain ⟨t81, ht81, h⟩ := of_bind h
            refine ⟨t81, ⟨internal_strconv_lower.fun_ ht81, trivial⟩, ?_⟩
            refine ⟨b80, ?_⟩
            refine ⟨trivial, ?_⟩
            refine ⟨b80, ?_⟩
            refine ⟨fun b82 => ?_, fun b82 => ?_⟩
            · rw [if_pos (of_decide_eq_true b82)] at h
              obtain ⟨t83, ht83, h⟩ := of_bind h
              refine ⟨t83, ⟨internal_strconv_lower.fun_ ht83, trivial⟩, ?_⟩
              refine ⟨trivial, trivial, trivial, trivial, ?_⟩
              refine ⟨fun b84 => ?_, fun b84 => ?_⟩
              · rw [if_pos (of_decide_eq_true b84)] at h
                refine ⟨trivial, ?_⟩
                obtain rfl := Option.some.inj h
                exact ⟨⟨trivial, trivial, trivial⟩, rfl, rfl⟩
              · rw [if_neg (of_decide_eq_false b84)] at h
                refine ⟨trivial, ?_⟩
                refine ⟨fun b85 => ?_, fun b85 => ?_⟩
                · rw [if_pos (of_decide_eq_true b85)] at h
                  refine ⟨trivial, ?_⟩
                  obtain rfl := Option.some.inj h
                  exact ⟨⟨trivial, trivial, trivial⟩, rfl, rfl⟩
                · rw [if_neg (of_decide_eq_false b85)] at h
                  refine ⟨trivial, trivial, trivial, trivial, trivial, ?_⟩
                  refine ⟨fun b86 => ?_, fun b86 => ?_⟩
                  · rw [if_neg (of_decide_eq_false b86)] at h
                    refine ⟨b86, ?_⟩
                    refine ⟨b86, ?_⟩
                    refine ⟨trivial, ?_⟩
                    refine ⟨b86, ?_⟩
                    refine ⟨fun b87 => ?_, fun b87 => ?_⟩
                    · rw [if_pos (of_decide_eq_true b87)] at h
                      refine ⟨trivial, ?_⟩
                      obtain rfl := Option.some.inj h
                      exact ⟨⟨trivial, trivial, trivial⟩, rfl, rfl⟩
                    · rw [if_neg (of_decide_eq_false b87)] at h
                      refine ⟨trivial, trivial, trivial, trivial, ?_⟩
                      exact ⟨⟨trivial, trivial, trivial⟩, ih x2 (IntKind.wrap .u64 ((IntKind.wrap .u64 (x3 * (16 : Int))) + (IntKind.wrap .u64 ((IntKind.wrap .u8 ((IntKind.wrap .u8 (t83 - (97 : Int))) + (10 : Int))))))) (IntKind.wrap .i64 (x4 + (1 : Int))) r h⟩
                  · rw [if_pos (of_decide_eq_true b86)] at h
                    refine ⟨b86, ?_⟩
                    refine ⟨b86, ?_⟩
                    refine ⟨b86, ?_⟩
                    refine ⟨rfl, trivial, ?_⟩
                    obtain rfl := Option.some.inj h
                    exact ⟨⟨trivial, trivial, trivial⟩, rfl, rfl⟩
            · rw [if_neg (of_decide_eq_false b82)] at h
              refine ⟨trivial, ?_⟩
              obtain rfl := Option.some.inj h
              exact ⟨⟨trivial, trivial, trivial⟩, rfl, rfl⟩
          · rw [if_neg (of_decide_eq_false b80)] at h
            refine ⟨b80, ?_⟩
            refine ⟨b80, ?_⟩
            refine ⟨b80, ?_⟩
            refine ⟨rfl, trivial, ?_⟩
            obtain rfl := Option.some.inj h
            exact ⟨⟨trivial, trivial, trivial⟩, rfl, rfl⟩
      · rw [if_neg (beq_f b63)] at h
        refine ⟨b63, ?_⟩
        refine ⟨rfl, trivial, ?_⟩
        refine ⟨fun b88 => ?_, fun b88 => ?_⟩
        · rw [if_pos (of_decide_eq_true b88)] at h
          refine ⟨b88, ?_⟩
          refine ⟨trivial, ?_⟩
          refine ⟨b88, ?_⟩
          refine ⟨fun b89 => ?_, fun b89 => ?_⟩
          · rw [if_pos (of_decide_eq_true b89)] at h
            refine ⟨trivial, trivial, trivial, ?_⟩
            refine ⟨fun b90 => ?_, fun b90 => ?_⟩
            · rw [if_pos (of_decide_eq_true b90)] at h
              refine ⟨trivial, ?_⟩
              obtain rfl := Option.some.inj h
              exact ⟨⟨trivial, trivial, trivial⟩, rfl, rfl⟩
            · rw [if_neg (of_decide_eq_false b90)] at h
              refine ⟨trivial, ?_⟩
              refine ⟨fun b91 => ?_, fun b91 => ?_⟩
              · rw [if_pos (of_decide_eq_true b91)] at h
                refine ⟨trivial, ?_⟩
                obtain rfl := Option.some.inj h
                exact ⟨⟨trivial, trivial, trivial⟩, rfl, rfl⟩
              · rw [if_neg (of_decide_eq_false b91)] at h
                refine ⟨trivial, trivial, trivial, trivial, trivial, ?_⟩
                refine ⟨fun b92 => ?_, fun b92 => ?_⟩
                · rw [if_neg (of_decide_eq_false b92)] at h
                  refine ⟨b92, ?_⟩
                  refine ⟨b92, ?_⟩
                  refine ⟨trivial, ?_⟩
                  refine ⟨b92, ?_⟩
                  refine ⟨fun b93 => ?_, fun b93 => ?_⟩
                  · rw [if_pos (of_decide_eq_true b93)] at h
                    refine ⟨trivial, ?_⟩
                    obtain rfl := Option.some.inj h
                    exact ⟨⟨trivial, trivial, trivial⟩, rfl, rfl⟩
                  · rw [if_neg (of_decide_eq_false b93)] at h
                    refine ⟨trivial, trivial, trivial, trivial, ?_⟩
                    exact ⟨⟨trivial, trivial, trivial⟩, ih x2 (IntKind.wrap .u64 ((IntKind.wrap .u64 (x3 * (16 : Int))) + (IntKind.wrap .u64 ((IntKind.wrap .u8 ((List.getD (bytesOf a0) (0 + (Int.toNat x4)) (0 : Int)) - (48 : Int))))))) (IntKind.wrap .i64 (x4 + (1 : Int))) r h⟩
                · rw [if_pos (of_decide_eq_true b92)] at h
                  refine ⟨b92, ?_⟩
                  refine ⟨b92, ?_⟩
                  refine ⟨b92, ?_⟩
                  refine ⟨rfl, trivial, ?_⟩
                  obtain rfl := Option.some.inj h
                  exact ⟨⟨trivial, trivial, trivial⟩, rfl, rfl⟩
          · rw [if_neg (of_decide_eq_false b89)] at h
            obtain ⟨t94, ht94, h⟩ := of_bind h
            refine ⟨t94, ⟨internal_strconv_lower.fun_ ht94, trivial⟩, ?_⟩
            refine ⟨trivial, ?_⟩
            refine ⟨fun b95 => ?_, fun b95 => ?_⟩
            · rw [if_pos (of_decide_eq_true b95)] at h
              refine ⟨b95, ?_⟩
              obtain ⟨t96, ht96, h⟩ := of_bind h
              refine ⟨t96, ⟨internal_strconv_lower.fun_ ht96, trivial⟩, ?_⟩
              refine ⟨b95, ?_⟩
              refine ⟨trivial, ?_⟩
              refine ⟨b95, ?_⟩
              refine ⟨fun b97 => ?_, fun b97 => ?_⟩
              · rw [if_pos (of_decide_eq_true b97)] at h
                obtain ⟨t98, ht98, h⟩ := of_bind h
                refine ⟨t98, ⟨internal_strconv_lower.fun_ ht98, trivial⟩, ?_⟩
                refine ⟨trivial, trivial, trivial, trivial, ?_⟩
                refine ⟨fun b99 => ?_, fun b99 => ?_⟩
                · rw [if_pos (of_decide_eq_true b99)] at h
                  refine ⟨trivial, ?_⟩
                  obtain rfl := Option.some.inj h
                  exact ⟨⟨trivial, trivial, trivial⟩, rfl, rfl⟩
                · rw [if_neg (of_decide_eq_false b99)] at h
                  refine ⟨trivial, ?_⟩
                  refine ⟨fun b100 => ?_, fun b100 => ?_⟩
                  · rw [if_pos (of_decide_eq_true b100)] at h
                    refine ⟨trivial, ?_⟩
                    obtain rfl := Option.some.inj h
                    exact ⟨⟨trivial, trivial, trivial⟩, rfl, rfl⟩
                  · rw [if_neg (of_decide_eq_false b100)] at h
                    refine ⟨trivial, trivial, trivial, trivial, trivial, ?_⟩
                    refine ⟨fun b101 => ?_, fun b101 => ?_⟩
                    · rw [if_neg (of_decide_eq_false b101)] at h
                      refine ⟨b101, ?_⟩
                      refine ⟨b101, ?_⟩
                      refine ⟨trivial, ?_⟩
                      refine ⟨b101, ?_⟩
                      refine ⟨fun b102 => ?_, fun b102 => ?_⟩
                      · rw [if_pos (of_decide_eq_true b102)] at h
                        refine ⟨trivial, ?_⟩
                        obtain rfl := Option.some.inj h
                        exact ⟨⟨trivial, trivial, trivial⟩, rfl, rfl⟩
                      · rw [if_neg (of_decide_eq_false b102)] at h
                        refine ⟨trivial, trivial, trivial, trivial, ?_⟩
                        exact ⟨⟨trivial, trivial, trivial⟩, ih x2 (IntKind.wrap .u64 ((IntKind.wrap .u64 (x3 * (16 : Int))) + (IntKind.wrap .u64 ((IntKind.wrap .u8 ((IntKind.wrap .u8 (t98 - (97 : Int))) + (10 : Int))))))) (IntKind.wrap .i64 (x4 + (1 : Int))) r h⟩
                    · rw [if_pos (of_decide_eq_true b101)] at h
                      refine ⟨b101, ?_⟩
                      refine ⟨b101, ?_⟩
                      refine ⟨b101, ?_⟩
                      refine ⟨rfl, trivial, ?_⟩
                      obtain rfl := Option.some.inj h
                      exact ⟨⟨trivial, trivial, trivial⟩, rfl, rfl⟩
              · rw [if_neg (of_decide_eq_false b97)] at h
                refine ⟨trivial, ?_⟩
                obtain rfl := Option.some.inj h
                exact ⟨⟨trivial, trivial, trivial⟩, rfl, rfl⟩
            · rw [if_neg (of_decide_eq_false b95)] at h
              refine ⟨b95, ?_⟩
              refine ⟨b95, ?_⟩
              refine ⟨b95, ?_⟩
              refine ⟨rfl, trivial, ?_⟩
              obtain rfl := Option.some.inj h
              exact ⟨⟨trivial, trivial, trivial⟩, rfl, rfl⟩
        · rw [if_neg (of_decide_eq_false b88)] at h
          refine ⟨b88, ?_⟩
          refine ⟨b88, ?_⟩
          refine ⟨rfl, ?_⟩
          obtain ⟨t103, ht103, h⟩ := of_bind h
          refine ⟨t103, ⟨internal_strconv_lower.fun_ ht103, trivial⟩, ?_⟩
          refine ⟨trivial, ?_⟩
          refine ⟨fun b104 => ?_, fun b104 => ?_⟩
          · rw [if_pos (of_decide_eq_true b104)] at h
            refine ⟨b104, ?_⟩
            obtain ⟨t105, ht105, h⟩ := of_bind h
            refine ⟨t105, ⟨internal_strconv_lower.fun_ ht105, trivial⟩, ?_⟩
            refine ⟨b104, ?_⟩
            refine ⟨trivial, ?_⟩
            refine ⟨b104, ?_⟩
            refine ⟨fun b106 => ?_, fun b106 => ?_⟩
            · rw [if_pos (of_decide_eq_true b106)] at h
              obtain ⟨t107, ht107, h⟩ := of_bind h
              refine ⟨t107, ⟨internal_strconv_lower.fun_ ht107, trivial⟩, ?_⟩
              refine ⟨trivial, trivial, trivial, trivial, ?_⟩
              refine ⟨fun b108 => ?_, fun b108 => ?_⟩
              · rw [if_pos (of_decide_eq_true b108)] at h
                refine ⟨trivial, ?_⟩
                obtain rfl := Option.some.inj h
                exact ⟨⟨trivial, trivial, trivial⟩, rfl, rfl⟩
              · rw [if_neg (of_decide_eq_false b108)] at h
                refine ⟨trivial, ?_⟩
                refine ⟨fun b109 => ?_, fun b109 => ?_⟩
                · rw [if_pos (of_decide_eq_true b109)] at h
                  refine ⟨trivial, ?_⟩
                  obtain rfl := Option.some.inj h
                  exact ⟨⟨trivial, trivial, trivial⟩, rfl, rfl⟩
                · rw [if_neg (of_decide_eq_false b109)] at h
                  refine ⟨trivial, trivial, trivial, trivial, trivial, ?_⟩
                  refine ⟨fun b110 => ?_, fun b110 => ?_⟩
                  · rw [if_neg (of_decide_eq_false b110)] at h
                    refine ⟨b110, ?_⟩
                    refine ⟨b110, ?_⟩
                    refine ⟨trivial, ?_⟩
                    refine ⟨b110, ?_⟩
                    refine ⟨fun b111 => ?_, fun b111 => ?_⟩
                    · rw [if_pos (of_decide_eq_true b111)] at h
                      refine ⟨trivial, ?_⟩
                      obtain rfl := Option.some.inj h
                      exact ⟨⟨trivial, trivial, trivial⟩, rfl, rfl⟩
                    · rw [if_neg (of_decide_eq_false b111)] at h
                      refine ⟨trivial, trivial, trivial, trivial, ?_⟩
                      exact ⟨⟨trivial, trivial, trivial⟩, ih x2 (IntKind.wrap .u64 ((IntKind.wrap .u64 (x3 * (16 : Int))) + (IntKind.wrap .u64 ((IntKind.wrap .u8 ((IntKind.wrap .u8 (t107 - (97 : Int))) + (10 : Int))))))) (IntKind.wrap .i64 (x4 + (1 : Int))) r h⟩
                  · rw [if_pos (of_decide_eq_true b110)] at h
                    refine ⟨b110, ?_⟩
                    refine ⟨b110, ?_⟩
                    refine ⟨b110, ?_⟩
                    refine ⟨rfl, trivial, ?_⟩
                    obtain rfl := Option.some.inj h
                    exact ⟨⟨trivial, trivial, trivial⟩, rfl, rfl⟩
            · rw [if_neg (of_decide_eq_false b106)] at h
              refine ⟨trivial, ?_⟩
              obtain rfl := Option.some.inj h
              exact ⟨⟨trivial, trivial, trivial⟩, rfl, rfl⟩
          · rw [if_neg (of_decide_eq_false b104)] at h
            refine ⟨b104, ?_⟩
            refine ⟨b104, ?_⟩
            refine ⟨b104, ?_⟩
            refine ⟨rfl, trivial, ?_⟩
            obtain rfl := Option.some.inj h
            exact ⟨⟨trivial, trivial, trivial⟩, rfl, rfl⟩
    · rw [if_neg (of_decide_eq_false b62)] at h
      obtain rfl := Option.some.inj h
      exact ⟨⟨trivial, trivial, trivial⟩, rfl, rfl⟩
def internal_strconv_ParseUint.f (a0 : ByteArray) : Option ((Int × Int) ⊕ (Int)) :=
  if a0 = ByteArray.empty then
    some (.inl ((0 : Int), (2 : Int)))
  else
    (internal_strconv_ParseUint.l0 a0 FUEL false (0 : Int) (0 : Int)).bind fun t61 =>
    match t61 with
    | .inl t118 =>
      if t118.1 = true then
        none
      else
        some (.inr t118.2)
    | .inr t122 =>
      some (.inl (t122.1, t122.2))
def internal_strconv_ParseUint.R : (Int × Int) ⊕ (Int) → Tm
  | .inl r => .tup [.one (.sc (.int .u64 r.1)), .one (.sc (.iface 72 (.int .i64 r.2)))]
  | .inr r => .tup [.one (.sc (.int .u64 r)), .one (.err none)]
def internal_strconv_ParseUint.B (a0 : ByteArray) : (Int × Int) ⊕ (Int) → List Box
  | .inl r => []
  | .inr r => []
theorem internal_strconv_ParseUint.fun_ {a0 : ByteArray} {r : (Int × Int) ⊕ (Int)} (h : internal_strconv_ParseUint.f a0 = some r) : Fun cfg 30 [.one (.sc (.string a0)), .one (.sc (.int .i64 (16 : Int))), .one (.sc (.int .i64 (32 : Int)))] [] (internal_strconv_ParseUint.R r) (internal_strconv_ParseUint.B a0 r) := by
  unfold internal_strconv_ParseUint.f at h
  refine fun_of_run cfg_ok (f := 30) (fn := Tryd.f30) Tryd.func30 rfl (by kernel_rfl) (rs := [.tmp 6, .tmp 7]) rfl (nt := 172) rfl (l := fin) (k := (.br (aE 3 .nil) (oT 4 (oF 6 (.one true (aE 6 (.adj [.keep [1, 8, 9, 10, 11, 12, 13, 99, 100, 101]] (.alt (.sub (Bool × Int) (fun _ => (.exit 3)) (fun t118 => ⟨[.any, .any, .any, .any, .any, .any, .any, .any, .any, .v (.one (.sc (.string a0))), .any, .any, .v (.one (.sc (.bool t118.1))), .v (.one (.sc (.int .u64 t118.2))), .any, .any, .any, .any, .any, .any, .any, .any, .any, .any, .any, .any, .any, .any, .any, .any, .any, .any, .any, .any, .any, .any, .any, .any, .any, .any, .any, .any, .any, .any, .any, .any, .any, .any, .any, .any, .any, .any, .any, .any, .any, .any, .any, .any, .any, .any, .any, .any, .any, .any, .any, .any, .any, .any, .any, .any, .any, .any, .any, .any, .any, .any, .any, .any, .any, .any, .any, .any, .any, .any, .any, .any, .any, .any, .any, .any, .any, .any, .any, .any, .any, .any, .any, .any, .any, .any, .any, .any, .any, .any, .any, .any, .any, .any, .any, .any, .any, .any, .any, .any, .any, .any, .any, .any, .any, .any, .any, .any, .any, .any, .any, .any, .any, .any, .any, .any, .any, .any, .any, .any, .any, .any, .any, .any, .any, .any, .any, .any, .any, .any, .any, .any, .any, .any, .any, .any, .any, .any, .any, .any, .any, .any, .any, .any, .any, .any, .any, .any, .any, .any, .any, .any, .any, .any, .any, .any, .any, .any], [.gro false (.int .u8) (bytesOf a0) 5], 0⟩) (fun t118 => (.br (.one true .nil) (oF 4 (aE 3 (.adj [.drop 0] .nil)))))) (.sub (Int × Int) (fun _ => .ret) (fun t122 => ⟨[.any, .any, .any, .any, .any, .any, .v (.one (.sc (.int .u64 t122.1))), .v (.one (.sc (.iface 72 (.int .i64 t122.2)))), .any, .any, .any, .any, .any, .any, .any, .any, .any, .any, .any, .any, .any, .any, .any, .any, .any, .any, .any, .any, .any, .any, .any, .any, .any, .any, .any, .any, .any, .any, .any, .any, .any, .any, .any, .any, .any, .any, .any, .any, .any, .any, .any, .any, .any, .any, .any, .any, .any, .any, .any, .any, .any, .any, .any, .any, .any, .any, .any, .any, .any, .any, .any, .any, .any, .any, .any, .any, .any, .any, .any, .any, .any, .any, .any, .any, .any, .any, .any, .any, .any, .any, .any, .any, .any, .any, .any, .any, .any, .any, .any, .any, .any, .any, .any, .any, .any, .any, .any, .any, .any, .any, .any, .any, .any, .any, .any, .any, .any, .any, .any, .any, .any, .any, .any, .any, .any, .any, .any, .any, .any, .any, .any, .any, .any, .any, .any, .any, .any, .any, .any, .any, .any, .any, .any, .any, .any, .any, .any, .any, .any, .any, .any, .any, .any, .any, .any, .any, .any, .any, .any, .any, .any, .any, .any, .any, .any, .any, .any, .any, .any, .any, .any, .any], [.gro false (.int .u8) (bytesOf a0) 5], 0⟩) (fun t122 => (.adj [.drop 0] .nil))))))))))) (to_goal (q := (True) ∧ (((a0.toList == ByteArray.empty.toList) = true → (True ∧ (True ∧ ((True) ∧ (True) ∧ (.tup [.one (.sc (.int .u64 (0 : Int))), .one (.sc (.iface 72 (.int .i64 (2 : Int))))] : Tm) = internal_strconv_ParseUint.R r ∧ ([] : List Box) = internal_strconv_ParseUint.B a0 r)))) ∧ ((a0.toList == ByteArray.empty.toList) = false → (True) ∧ (True) ∧ (true = true ∧ (true = true ∧ (True) ∧ (true = true ∧ (true = true ∧ (True) ∧ (false = false ∧ (True) ∧ (false = false ∧ (false = false ∧ (True) ∧ (false = false ∧ (false = false ∧ (True) ∧ (false = false ∧ (True) ∧ (true = true ∧ (True ∧ (True ∧ (True) ∧ (0 ≤ (32 : Int)) ∧ (True) ∧ (True ∧ (True ∧ (True ∧ (True) ∧ (True) ∧ (True ∧ (((True) ∧ True) ∧ ((∃ t118 : Bool × Int, Trip cfg (.loop (cpath (Tryd.f30.body.getD .skip) [1, 1, 1, 1, 1, 1, 1, 1, 1, 1, 1, 0, 1, 0, 0])) ⟨[.any, .v (.one (.sc (.int .i64 (16 : Int)))), .any, .any, .any, .any, .any, .any, .v (.one (.sc (.bool false))), .v (.one (.sc (.string a0))), .v (.one (.sc (.int .u64 (1152921504606846976 : Int)))), .v (.one (.sc (.int .u64 (IntKind.wrap .u64 ((shl .u64 (1 : Int) (32 : Int)) - (1 : Int)))))), .v (.one (.sc (.bool false))), .v (.one (.sc (.int .u64 (0 : Int)))), .any, .any, .any, .any, .any, .any, .any, .any, .any, .any, .any, .any, .any, .any, .any, .any, .any, .any, .any, .any, .any, .any, .any, .any, .any, .any, .any, .any, .any, .any, .any, .any, .any, .any, .any, .any, .any, .any, .any, .any, .any, .any, .any, .any, .any, .any, .any, .any, .any, .any, .any, .any, .any, .any, .any, .any, .any, .any, .any, .any, .any, .any, .any, .any, .any, .any, .any, .any, .any, .any, .any, .any, .any, .any, .any, .any, .any, .any, .any, .any, .any, .any, .any, .any, .any, .v (.one (.os 0 0 0 1 (List.length (bytesOf a0)) none)), .v (.one (.sc (.int .i64 (((List.length (bytesOf a0)) : Nat) : Int)))), .v (.one (.sc (.int .i64 (0 : Int)))), .any, .any, .any, .any, .any, .any, .any, .any, .any, .any, .any, .any, .any, .any, .any, .any, .any, .any, .any, .any, .any, .any, .any, .any, .any, .any, .any, .any, .any, .any, .any, .any, .any, .any, .any, .any, .any, .any, .any, .any, .any, .any, .any, .any, .any, .any, .any, .any, .any, .any, .any, .any, .any, .any, .any, .any, .any, .any, .any, .any, .any, .any, .any, .any, .any, .any, .any, .any, .any, .any], [.gro false (.int .u8) (bytesOf a0) 5], 0⟩ (fun e s => e = (.exit 3) ∧ s = ⟨[.any, .any, .any, .any, .any, .any, .any, .any, .any, .v (.one (.sc (.string a0))), .any, .any, .v (.one (.sc (.bool t118.1))), .v (.one (.sc (.int .u64 t118.2))), .any, .any, .any, .any, .any, .any, .any, .any, .any, .any, .any, .any, .any, .any, .any, .any, .any, .any, .any, .any, .any, .any, .any, .any, .any, .any, .any, .any, .any, .any, .any, .any, .any, .any, .any, .any, .any, .any, .any, .any, .any, .any, .any, .any, .any, .any, .any, .any, .any, .any, .any, .any, .any, .any, .any, .any, .any, .any, .any, .any, .any, .any, .any, .any, .any, .any, .any, .any, .any, .any, .any, .any, .any, .any, .any, .any, .any, .any, .any, .any, .any, .any, .any, .any, .any, .any, .any, .any, .any, .any, .any, .any, .any, .any, .any, .any, .any, .any, .any, .any, .any, .any, .any, .any, .any, .any, .any, .any, .any, .any, .any, .any, .any, .any, .any, .any, .any, .any, .any, .any, .any, .any, .any, .any, .any, .any, .any, .any, .any, .any, .any, .any, .any, .any, .any, .any, .any, .any, .any, .any, .any, .any, .any, .any, .any, .any, .any, .any, .any, .any, .any, .any, .any, .any, .any, .any, .any, .any], [.gro false (.int .u8) (bytesOf a0) 5], 0⟩) ∧ ((t118.1 = true → (t118.1 = true ∧ False)) ∧ (t118.1 = false → (t118.1 = false ∧ (t118.1 = false ∧ (t118.1 = false ∧ (false = false ∧ (True ∧ (True ∧ (True ∧ ((True) ∧ ((True) ∧ True) ∧ (.tup [.one (.sc (.int .u64 t118.2)), .one (.err none)] : Tm) = internal_strconv_ParseUint.R r ∧ ([] : List Box) = internal_strconv_ParseUint.B a0 r))))))))))) ∨ (∃ t122 : Int × Int, Trip cfg (.loop (cpath (Tryd.f30.body.getD .skip) [1, 1, 1, 1, 1, 1, 1, 1, 1, 1, 1, 0, 1, 0, 0])) ⟨[.any, .v (.one (.sc (.int .i64 (16 : Int)))), .any, .any, .any, .any, .any, .any, .v (.one (.sc (.bool false))), .v (.one (.sc (.string a0))), .v (.one (.sc (.int .u64 (1152921504606846976 : Int)))), .v (.one (.sc (.int .u64 (IntKind.wrap .u64 ((shl .u64 (1 : Int) (32 : Int)) - (1 : Int)))))), .v (.one (.sc (.bool false))), .v (.one (.sc (.int .u64 (0 : Int)))), .any, .any, .any, .any, .any, .any, .any, .any, .any, .any, .any, .any, .any, .any, .any, .any, .any, .any, .any, .any, .any, .any, .any, .any, .any, .any, .any, .any, .any, .any, .any, .any, .any, .any, .any, .any, .any, .any, .any, .any, .any, .any, .any, .any, .any, .any, .any, .any, .any, .any, .any, .any, .any, .any, .any, .any, .any, .any, .any, .any, .any, .any, .any, .any, .any, .any, .any, .any, .any, .any, .any, .any, .any, .any, .any, .any, .any, .any, .any, .any, .any, .any, .any, .any, .any, .v (.one (.os 0 0 0 1 (List.length (bytesOf a0)) none)), .v (.one (.sc (.int .i64 (((List.length (bytesOf a0)) : Nat) : Int)))), .v (.one (.sc (.int .i64 (0 : Int)))), .any, .any, .any, .any, .any, .any, .any, .any, .any, .any, .any, .any, .any, .any, .any, .any, .any, .any, .any, .any, .any, .any, .any, .any, .any, .any, .any, .any, .any, .any, .any, .any, .any, .any, .any, .any, .any, .any, .any, .any, .any, .any, .any, .any, .any, .any, .any, .any, .any, .any, .any, .any, .any, .any, .any, .any, .any, .any, .any, .any, .any, .any, .any, .any, .any, .any, .any, .any, .any, .any], [.gro false (.int .u8) (bytesOf a0) 5], 0⟩ (fun e s => e = .ret ∧ s = ⟨[.any, .any, .any, .any, .any, .any, .v (.one (.sc (.int .u64 t122.1))), .v (.one (.sc (.iface 72 (.int .i64 t122.2)))), .any, .any, .any, .any, .any, .any, .any, .any, .any, .any, .any, .any, .any, .any, .any, .any, .any, .any, .any, .any, .any, .any, .any, .any, .any, .any, .any, .any, .any, .any, .any, .any, .any, .any, .any, .any, .any, .any, .any, .any, .any, .any, .any, .any, .any, .any, .any, .any, .any, .any, .any, .any, .any, .any, .any, .any, .any, .any, .any, .any, .any, .any, .any, .any, .any, .any, .any, .any, .any, .any, .any, .any, .any, .any, .any, .any, .any, .any, .any, .any, .any, .any, .any, .any, .any, .any, .any, .any, .any, .any, .any, .any, .any, .any, .any, .any, .any, .any, .any, .any, .any, .any, .any, .any, .any, .any, .any, .any, .any, .any, .any, .any, .any, .any, .any, .any, .any, .any, .any, .any, .any, .any, .any, .any, .any, .any, .any, .any, .any, .any, .any, .any, .any, .any, .any, .any, .any, .any, .any, .any, .any, .any, .any, .any, .any, .any, .any, .any, .any, .any, .any, .any, .any, .any, .any, .any, .any, .any, .any, .any, .any, .any, .any, .any], [.gro false (.int .u8) (bytesOf a0) 5], 0⟩) ∧ ((True) ∧ ((True) ∧ True) ∧ (.tup [.one (.sc (.int .u64 t122.1)), .one (.sc (.iface 72 (.int .i64 t122.2)))] : Tm) = internal_strconv_ParseUint.R r ∧ ([] : List Box) = internal_strconv_ParseUint.B a0 r)))))))))))))))))))))))) (by kernel_rfl) ?_)
  refine ⟨trivial, ?_⟩
  refine ⟨fun b1 => ?_, fun b1 => ?_⟩
  · rw [if_pos (str_t b1)] at h
    refine ⟨trivial, trivial, ?_⟩
    obtain rfl := Option.some.inj h
    exact ⟨trivial, trivial, rfl, rfl⟩
  · rw [if_neg (str_f b1)] at h
    refine ⟨trivial, trivial, rfl, rfl, trivial, rfl, rfl, trivial, rfl, trivial, rfl, rfl, trivial, rfl, rfl, trivial, rfl, trivial, rfl, trivial, trivial, trivial, ?_⟩
    refine ⟨(by decide), ?_⟩
    refine ⟨trivial, trivial, trivial, trivial, trivial, trivial, trivial, ?_⟩
    obtain ⟨t61, ht61, h⟩ := of_bind h
    refine ⟨⟨trivial, trivial⟩, ?_⟩
    rcases t61 with t118 | t122
    · dsimp only at h
      left
      refine ⟨t118, Trip.loop FUEL (internal_strconv_ParseUint.l0_ok a0 FUEL false (0 : Int) (0 : Int) (.inl t118) ht61), ?_⟩
      refine ⟨fun b121 => ?_, fun b121 => ?_⟩
      · rw [if_pos b121] at h
        refine ⟨b121, ?_⟩
        cases h
      · rw [if_neg (ff b121)] at h
        refine ⟨b121, ?_⟩
        refine ⟨b121, ?_⟩
        refine ⟨b121, ?_⟩
        refine ⟨rfl, trivial, trivial, trivial, ?_⟩
        obtain rfl := Option.some.inj h
        exact ⟨trivial, ⟨trivial, trivial⟩, rfl, rfl⟩
    · dsimp only at h
      right
      refine ⟨t122, Trip.loop FUEL (internal_strconv_ParseUint.l0_ok a0 FUEL false (0 : Int) (0 : Int) (.inr t122) ht61), ?_⟩
      obtain rfl := Option.some.inj h
      exact ⟨trivial, ⟨trivial, trivial⟩, rfl, rfl⟩
/-! strconv.ParseUint -/
def strconv_ParseUint.f (a0 : ByteArray) : Option ((Int) ⊕ (Int)) :=
  (internal_strconv_ParseUint.f a0).bind fun t1 =>
  match t1 with
  | .inl t2 =>
    (strconv_toErrorS.f (⟨#[80, 97, 114, 115, 101, 85, 105, 110, 116]⟩ : ByteArray) a0 (16 : Int) (32 : Int) t2.2).bind fun t3 =>
    some (.inl t2.1)
  | .inr t4 =>
    some (.inr t4)
def strconv_ParseUint.R : (Int) ⊕ (Int) → Tm
  | .inl r => .tup [.one (.sc (.int .u64 r)), .one (.oerr 75)]
  | .inr r => .tup [.one (.sc (.int .u64 r)), .one (.err none)]
def strconv_ParseUint.B (a0 : ByteArray) : (Int) ⊕ (Int) → List Box
  | .inl r => []
  | .inr r => []
theorem strconv_ParseUint.fun_ {a0 : ByteArray} {r : (Int) ⊕ (Int)} (h : strconv_ParseUint.f a0 = some r) : Fun cfg 28 [.one (.sc (.string a0)), .one (.sc (.int .i64 (16 : Int))), .one (.sc (.int .i64 (32 : Int)))] [] (strconv_ParseUint.R r) (strconv_ParseUint.B a0 r) := by
  unfold strconv_ParseUint.f at h
  refine fun_of_run cfg_ok (f := 28) (fn := Tryd.f28) Tryd.func28 rfl (by kernel_rfl) (rs := [.tmp 6, .tmp 7]) rfl (nt := 26) rfl (l := fin) (k := (.alt (.callR true [] [] (Int × Int) (fun t2 => (internal_strconv_ParseUint.R (.inl t2))) (fun t2 => (internal_strconv_ParseUint.B a0 (.inl t2))) (fun t2 => (.one true (.callR true [] [] (Unit) (fun t3 => (strconv_toErrorS.R t3)) (fun t3 => (strconv_toErrorS.B (⟨#[80, 97, 114, 115, 101, 85, 105, 110, 116]⟩ : ByteArray) a0 (16 : Int) (32 : Int) t2.2 t3)) (fun t3 => (aE 2 .nil)))))) (.callR true [] [] (Int) (fun t4 => (internal_strconv_ParseUint.R (.inr t4))) (fun t4 => (internal_strconv_ParseUint.B a0 (.inr t4))) (fun t4 => (.one false (aE 4 .nil)))))) (to_goal (q := ((∃ t2 : Int × Int, (Fun cfg 30 [.one (.sc (.string a0)), .one (.sc (.int .i64 (16 : Int))), .one (.sc (.int .i64 (32 : Int)))] [] (internal_strconv_ParseUint.R (.inl t2)) (internal_strconv_ParseUint.B a0 (.inl t2)) ∧ True) ∧ (True) ∧ (true = true ∧ (∃ t3 : Unit, (Fun cfg 31 [.one (.sc (.string (⟨#[80, 97, 114, 115, 101, 85, 105, 110, 116]⟩ : ByteArray))), .one (.sc (.string a0)), .one (.sc (.int .i64 (16 : Int))), .one (.sc (.int .i64 (32 : Int))), .one (.sc (.iface 72 (.int .i64 t2.2)))] [] (strconv_toErrorS.R t3) (strconv_toErrorS.B (⟨#[80, 97, 114, 115, 101, 85, 105, 110, 116]⟩ : ByteArray) a0 (16 : Int) (32 : Int) t2.2 t3) ∧ True) ∧ (True ∧ ((True) ∧ (True) ∧ (.tup [.one (.sc (.int .u64 t2.1)), .one (.oerr 75)] : Tm) = strconv_ParseUint.R r ∧ ([] : List Box) = strconv_ParseUint.B a0 r))))) ∨ (∃ t4 : Int, (Fun cfg 30 [.one (.sc (.string a0)), .one (.sc (.int .i64 (16 : Int))), .one (.sc (.int .i64 (32 : Int)))] [] (internal_strconv_ParseUint.R (.inr t4)) (internal_strconv_ParseUint.B a0 (.inr t4)) ∧ True) ∧ (True) ∧ (false = false ∧ (True ∧ (True ∧ (True ∧ ((True) ∧ (True) ∧ (.tup [.one (.sc (.int .u64 t4)), .one (.err none)] : Tm) = strconv_ParseUint.R r ∧ ([] : List Box) = strconv_ParseUint.B a0 r)))))))) (by kernel_rfl) ?_)
  obtain ⟨t1, ht1, h⟩ := of_bind h
  rcases t1 with t2 | t4
  · dsimp only at h
    left
    refine ⟨t2, ⟨internal_strconv_ParseUint.fun_ ht1, trivial⟩, ?_⟩
    refine ⟨trivial, rfl, ?_⟩
    obtain ⟨t3, ht3, h⟩ := of_bind h
    refine ⟨t3, ⟨strconv_toErrorS.fun_ ht3, trivial⟩, ?_⟩
    refine ⟨trivial, ?_⟩
    obtain rfl := Option.some.inj h
    exact ⟨trivial, trivial, rfl, rfl⟩
  · dsimp only at h
    right
    refine ⟨t4, ⟨internal_strconv_ParseUint.fun_ ht1, trivial⟩, ?_⟩
    refine ⟨trivial, rfl, trivial, trivial, trivial, ?_⟩
    obtain rfl := Option.some.inj h
    exact ⟨trivial, trivial, rfl, rfl⟩
/-! halter/sigset.Text -/
def sigset_Text.l0 (a0 : Int) : Nat → (List Int) → Int → Option (List Int)
  | 0, _, _ => none
  | n + 1, x7, x8 =>
    if x8 < (8 : Int) then
      if 0 ≤ (IntKind.wrap .i64 ((4 : Int) * (IntKind.wrap .i64 ((7 : Int) - x8)))) then
        if 0 ≤ (bits .and .u32 (shr .u32 (bits .and .u32 a0 (2147483647 : Int)) (IntKind.wrap .i64 ((4 : Int) * (IntKind.wrap .i64 ((7 : Int) - x8))))) (15 : Int)) ∧ (bits .and .u32 (shr .u32 (bits .and .u32 a0 (2147483647 : Int)) (IntKind.wrap .i64 ((4 : Int) * (IntKind.wrap .i64 ((7 : Int) - x8))))) (15 : Int)) < (((ByteArray.size (⟨#[48, 49, 50, 51, 52, 53, 54, 55, 56, 57, 97, 98, 99, 100, 101, 102]⟩ : ByteArray)) : Nat) : Int) then
          if 0 ≤ x8 ∧ x8 < ((8 : Nat) : Int) then
            if (0 + (Int.toNat x8)) < 8 then
              sigset_Text.l0 a0 n (List.set x7 (0 + (Int.toNat x8)) (bt (⟨#[48, 49, 50, 51, 52, 53, 54, 55, 56, 57, 97, 98, 99, 100, 101, 102]⟩ : ByteArray) (bits .and .u32 (shr .u32 (bits .and .u32 a0 (2147483647 : Int)) (IntKind.wrap .i64 ((4 : Int) * (IntKind.wrap .i64 ((7 : Int) - x8))))) (15 : Int)))) (IntKind.wrap .i64 (x8 + (1 : Int)))
            else none
          else none
        else none
      else none
    else
      some x7
def sigset_Text.l0_S (a0 : Int) (x7 : List Int) (x8 : Int) : St := ⟨[.v (.one (.sc (.int .u32 a0))), .any, .any, .v (.one (.os 0 0 0 1 8 none)), .any, .any, .any, .v (.one (.sc (.int .i64 (8 : Int)))), .v (.one (.sc (.int .i64 x8))), .any, .any, .any, .any, .any, .any, .any, .any, .any, .any, .any, .any, .any, .any, .any, .any], [.ex false [.row 8 (.int .u8) x7] 5], 0⟩
def sigset_Text.l0_Q (a0 : Int) (t : (List Int)) : Exit → St → Prop := fun e s => e = (.exit 0) ∧ s = ⟨[.any, .any, .any, .v (.one (.os 0 0 0 1 8 none)), .any, .any, .any, .any, .any, .any, .any, .any, .any, .any, .any, .any, .any, .any, .any, .any, .any, .any, .any, .any, .any], [.ex false [.row 8 (.int .u8) t] 5], 0⟩
theorem sigset_Text.l0_ok (a0 : Int) : ∀ (n : Nat) (x7 : List Int) (x8 : Int) (r : (List Int)), sigset_Text.l0 a0 n x7 x8 = some r → TripN cfg (cpath (Tryd.f22.body.getD .skip) [1, 1, 0, 1, 0, 0]) n (sigset_Text.l0_S a0 x7 x8) (sigset_Text.l0_Q a0 r) := by
  intro n
  induction n with
  | zero => intro x7 x8 r h; cases h
  | succ n ih =>
    intro x7 x8 r h
    rw [sigset_Text.l0] at h
    refine TripN.of_run cfg_ok (k := (.br (aE 5 (.adj [.keep [0, 3, 7, 8], .drop 1] .nil)) (.adj [.keep [3], .drop 1] .nil))) (to_goal (q := (True) ∧ (((decide (x8 < (8 : Int))) = true → (True ∧ (True ∧ (True ∧ (True ∧ (True) ∧ (True) ∧ (True) ∧ (0 ≤ (IntKind.wrap .i64 ((4 : Int) * (IntKind.wrap .i64 ((7 : Int) - x8))))) ∧ (True) ∧ (0 ≤ (bits .and .u32 (shr .u32 (bits .and .u32 a0 (2147483647 : Int)) (IntKind.wrap .i64 ((4 : Int) * (IntKind.wrap .i64 ((7 : Int) - x8))))) (15 : Int)) ∧ (bits .and .u32 (shr .u32 (bits .and .u32 a0 (2147483647 : Int)) (IntKind.wrap .i64 ((4 : Int) * (IntKind.wrap .i64 ((7 : Int) - x8))))) (15 : Int)) < (((ByteArray.size (⟨#[48, 49, 50, 51, 52, 53, 54, 55, 56, 57, 97, 98, 99, 100, 101, 102]⟩ : ByteArray)) : Nat) : Int)) ∧ (0 ≤ x8 ∧ x8 < ((8 : Nat) : Int)) ∧ ((0 + (Int.toNat x8)) < 8) ∧ (True ∧ (True) ∧ (((True) ∧ (True) ∧ True) ∧ TripN cfg (cpath (Tryd.f22.body.getD .skip) [1, 1, 0, 1, 0, 0]) n (sigset_Text.l0_S a0 (List.set x7 (0 + (Int.toNat x8)) (bt (⟨#[48, 49, 50, 51, 52, 53, 54, 55, 56, 57, 97, 98, 99, 100, 101, 102]⟩ : ByteArray) (bits .and .u32 (shr .u32 (bits .and .u32 a0 (2147483647 : Int)) (IntKind.wrap .i64 ((4 : Int) * (IntKind.wrap .i64 ((7 : Int) - x8))))) (15 : Int)))) (IntKind.wrap .i64 (x8 + (1 : Int)))) (sigset_Text.l0_Q a0 r)))))))) ∧ ((decide (x8 < (8 : Int))) = false → (((True) ∧ (True) ∧ True) ∧ sigset_Text.l0_Q a0 r (.exit 0) ⟨[.any, .any, .any, .v (.one (.os 0 0 0 1 8 none)), .any, .any, .any, .any, .any, .any, .any, .any, .any, .any, .any, .any, .any, .any, .any, .any, .any, .any, .any, .any, .any], [.ex false [.row 8 (.int .u8) x7] 5], 0⟩)))) (by kernel_rfl) ?_)
    refine ⟨trivial, ?_⟩
    refine ⟨fun b16 => ?_, fun b16 => ?_⟩
    · rw [if_pos (of_decide_eq_true b16)] at h
      refine ⟨trivial, trivial, trivial, trivial, trivial, trivial, trivial, ?_⟩
      obtain ⟨g20, h⟩ := of_guard h
      refine ⟨g20, ?_⟩
      refine ⟨trivial, ?_⟩
      obtain ⟨g19, h⟩ := of_guard h
      refine ⟨g19, ?_⟩
      obtain ⟨g18, h⟩ := of_guard h
      refine ⟨g18, ?_⟩
      obtain ⟨g17, h⟩ := of_guard h
      refine ⟨g17, ?_⟩
      refine ⟨trivial, trivial, ?_⟩
      exact ⟨⟨trivial, trivial, trivial⟩, ih (List.set x7 (0 + (Int.toNat x8)) (bt (⟨#[48, 49, 50, 51, 52, 53, 54, 55, 56, 57, 97, 98, 99, 100, 101, 102]⟩ : ByteArray) (bits .and .u32 (shr .u32 (bits .and .u32 a0 (2147483647 : Int)) (IntKind.wrap .i64 ((4 : Int) * (IntKind.wrap .i64 ((7 : Int) - x8))))) (15 : Int)))) (IntKind.wrap .i64 (x8 + (1 : Int))) r h⟩
    · rw [if_neg (of_decide_eq_false b16)] at h
      obtain rfl := Option.some.inj h
      exact ⟨⟨trivial, trivial, trivial⟩, rfl, rfl⟩
def sigset_Text.f (a0 : Int) : Option ByteArray :=
  (sigset_Text.l0 a0 FUEL (List.replicate 8 (0 : Int)) (0 : Int)).bind fun t15 =>
  some (strOfNums (List.take 8 t15))
def sigset_Text.R (r : ByteArray) : Tm := .v (.one (.sc (.string r)))
theorem sigset_Text.fun_ {a0 : Int} {r : ByteArray} (h : sigset_Text.f a0 = some r) : Fun cfg 22 [.one (.sc (.int .u32 a0))] [] (sigset_Text.R r) [] := by
  unfold sigset_Text.f at h
  refine fun_of_run cfg_ok (f := 22) (fn := Tryd.f22) Tryd.func22 rfl (by kernel_rfl) (rs := [.tmp 2]) rfl (nt := 25) rfl (l := fin) (k := (.d .no (aE 2 (.adj [.keep [0, 3, 7, 8], .nocap] (.sub ((List Int)) (fun _ => (.exit 0)) (fun t15 => ⟨[.any, .any, .any, .v (.one (.os 0 0 0 1 8 none)), .any, .any, .any, .any, .any, .any, .any, .any, .any, .any, .any, .any, .any, .any, .any, .any, .any, .any, .any, .any, .any], [.ex false [.row 8 (.int .u8) t15] 5], 0⟩) (fun t15 => (.d (.b false) (.adj [] (.adj [.drop 0] .nil))))))))) (to_goal (q := (0 ≤ (8 : Int) ∧ (8 : Int) = (8 : Int) ∧ (1 : Int) * (8 : Int) ≤ 281474976710656 ∧ (8 : Int) ≤ 9223372036854775807) ∧ (True ∧ (True) ∧ (True ∧ (((True) ∧ (True) ∧ True) ∧ (∃ t15 : (List Int), Trip cfg (.loop (cpath (Tryd.f22.body.getD .skip) [1, 1, 0, 1, 0, 0])) ⟨[.v (.one (.sc (.int .u32 a0))), .any, .any, .v (.one (.os 0 0 0 1 8 none)), .any, .any, .any, .v (.one (.sc (.int .i64 (8 : Int)))), .v (.one (.sc (.int .i64 (0 : Int)))), .any, .any, .any, .any, .any, .any, .any, .any, .any, .any, .any, .any, .any, .any, .any, .any], [.ex false [.row 8 (.int .u8) (List.replicate 8 (0 : Int))] 5], 0⟩ (fun e s => e = (.exit 0) ∧ s = ⟨[.any, .any, .any, .v (.one (.os 0 0 0 1 8 none)), .any, .any, .any, .any, .any, .any, .any, .any, .any, .any, .any, .any, .any, .any, .any, .any, .any, .any, .any, .any, .any], [.ex false [.row 8 (.int .u8) t15] 5], 0⟩) ∧ (0 + 8 ≤ 8) ∧ (True ∧ ((True) ∧ ((True) ∧ True) ∧ (.v (.one (.sc (.string (strOfNums (List.take 8 t15))))) : Tm) = sigset_Text.R r ∧ ([] : List Box) = []))))))) (by kernel_rfl) ?_)
  refine ⟨(by decide), ?_⟩
  refine ⟨trivial, trivial, trivial, ?_⟩
  obtain ⟨t15, ht15, h⟩ := of_bind h
  refine ⟨⟨trivial, trivial, trivial⟩, t15, Trip.loop FUEL (sigset_Text.l0_ok a0 FUEL (List.replicate 8 (0 : Int)) (0 : Int) t15 ht15), ?_⟩
  refine ⟨(by decide), ?_⟩
  refine ⟨trivial, ?_⟩
  obtain rfl := Option.some.inj h
  exact ⟨trivial, ⟨trivial, trivial⟩, rfl, rfl⟩
/-! halter/sigset.Parse -/
def sigset_Parse.f (a0 : ByteArray) : Option (Int × (Option Int)) :=
  if ¬ ((ByteArray.size a0 : Nat) : Int) = (8 : Int) then
    some ((0 : Int), (some (22 : Int)))
  else
    (strconv_ParseUint.f a0).bind fun t2 =>
    match t2 with
    | .inl t3 =>
      some ((0 : Int), (some (22 : Int)))
    | .inr t4 =>
      if t4 > (2147483647 : Int) then
        some ((0 : Int), (some (22 : Int)))
      else
        (sigset_Text.f (IntKind.wrap .u32 (t4))).bind fun t6 =>
        if ¬ (t6 = a0) then
          some ((0 : Int), (some (22 : Int)))
        else
          some ((IntKind.wrap .u32 (t4)), none)
def sigset_Parse.R (r : Int × (Option Int)) : Tm := .tup [.one (.sc (.int .u32 r.1)), .one (.err r.2)]
theorem sigset_Parse.fun_ {a0 : ByteArray} {r : Int × (Option Int)} (h : sigset_Parse.f a0 = some r) : Fun cfg 21 [.one (.sc (.string a0))] [] (sigset_Parse.R r) [] := by
  unfold sigset_Parse.f at h
  refine fun_of_run cfg_ok (f := 21) (fn := Tryd.f21) Tryd.func21 rfl (by kernel_rfl) (rs := [.tmp 2, .tmp 3]) rfl (nt := 32) rfl (l := fin) (k := (.br (aE 3 .nil) (.alt (.callR true [] [] (Int) (fun t3 => (strconv_ParseUint.R (.inl t3))) (fun t3 => (strconv_ParseUint.B a0 (.inl t3))) (fun t3 => (oT 9 (aE 3 .nil)))) (.callR true [] [] (Int) (fun t4 => (strconv_ParseUint.R (.inr t4))) (fun t4 => (strconv_ParseUint.B a0 (.inr t4))) (fun t4 => (oF 3 (.br (oT 5 (aE 3 .nil)) (.one false (.call true [] (ByteArray) sigset_Text.R (fun t6 => (oF 3 (.br (aE 3 .nil) (aE 4 .nil))))))))))))) (to_goal (q := (True) ∧ (True) ∧ (((((ByteArray.size a0 : Nat) : Int) != (8 : Int)) = true → (True ∧ (True ∧ ((True) ∧ (True) ∧ (.tup [.one (.sc (.int .u32 (0 : Int))), .one (.err (some (22 : Int)))] : Tm) = sigset_Parse.R r ∧ ([] : List Box) = [])))) ∧ ((((ByteArray.size a0 : Nat) : Int) != (8 : Int)) = false → ((∃ t3 : Int, (Fun cfg 28 [.one (.sc (.string a0)), .one (.sc (.int .i64 (16 : Int))), .one (.sc (.int .i64 (32 : Int)))] [] (strconv_ParseUint.R (.inl t3)) (strconv_ParseUint.B a0 (.inl t3)) ∧ True) ∧ (True) ∧ (True) ∧ (true = true ∧ (true = true ∧ (true = true ∧ (true = true ∧ (true = true ∧ (true = true ∧ (true = true ∧ (true = true ∧ (true = true ∧ (True ∧ (True ∧ ((True) ∧ (True) ∧ (.tup [.one (.sc (.int .u32 (0 : Int))), .one (.err (some (22 : Int)))] : Tm) = sigset_Parse.R r ∧ ([] : List Box) = []))))))))))))) ∨ (∃ t4 : Int, (Fun cfg 28 [.one (.sc (.string a0)), .one (.sc (.int .i64 (16 : Int))), .one (.sc (.int .i64 (32 : Int)))] [] (strconv_ParseUint.R (.inr t4)) (strconv_ParseUint.B a0 (.inr t4)) ∧ True) ∧ (True) ∧ (True) ∧ (false = false ∧ (false = false ∧ (True) ∧ (false = false ∧ (((decide (t4 > (2147483647 : Int))) = false → ((decide (t4 > (2147483647 : Int))) = false ∧ (∃ t6 : ByteArray, (Fun cfg 22 [.one (.sc (.int .u32 (IntKind.wrap .u32 (t4))))] [] (sigset_Text.R t6) [] ∧ True) ∧ ((decide (t4 > (2147483647 : Int))) = false ∧ ((decide (t4 > (2147483647 : Int))) = false ∧ (True) ∧ ((decide (t4 > (2147483647 : Int))) = false ∧ (((!(t6.toList == a0.toList)) = true → (True ∧ (True ∧ ((True) ∧ (True) ∧ (.tup [.one (.sc (.int .u32 (0 : Int))), .one (.err (some (22 : Int)))] : Tm) = sigset_Parse.R r ∧ ([] : List Box) = [])))) ∧ ((!(t6.toList == a0.toList)) = false → (True ∧ (True ∧ (True ∧ ((True) ∧ (True) ∧ (.tup [.one (.sc (.int .u32 (IntKind.wrap .u32 (t4)))), .one (.err none)] : Tm) = sigset_Parse.R r ∧ ([] : List Box) = [])))))))))))) ∧ ((decide (t4 > (2147483647 : Int))) = true → ((decide (t4 > (2147483647 : Int))) = true ∧ ((decide (t4 > (2147483647 : Int))) = true ∧ ((decide (t4 > (2147483647 : Int))) = true ∧ ((decide (t4 > (2147483647 : Int))) = true ∧ (true = true ∧ (True ∧ (True ∧ ((True) ∧ (True) ∧ (.tup [.one (.sc (.int .u32 (0 : Int))), .one (.err (some (22 : Int)))] : Tm) = sigset_Parse.R r ∧ ([] : List Box) = [])))))))))))))))))) (by kernel_rfl) ?_)
  refine ⟨trivial, trivial, ?_⟩
  refine ⟨fun b1 => ?_, fun b1 => ?_⟩
  · rw [if_pos (bne_t b1)] at h
    refine ⟨trivial, trivial, ?_⟩
    obtain rfl := Option.some.inj h
    exact ⟨trivial, trivial, rfl, rfl⟩
  · rw [if_neg (not_not_intro (bne_f b1))] at h
    obtain ⟨t2, ht2, h⟩ := of_bind h
    rcases t2 with t3 | t4
    · dsimp only at h
      left
      refine ⟨t3, ⟨strconv_ParseUint.fun_ ht2, trivial⟩, ?_⟩
      refine ⟨trivial, trivial, rfl, rfl, rfl, rfl, rfl, rfl, rfl, rfl, rfl, trivial, trivial, ?_⟩
      obtain rfl := Option.some.inj h
      exact ⟨trivial, trivial, rfl, rfl⟩
    · dsimp only at h
      right
      refine ⟨t4, ⟨strconv_ParseUint.fun_ ht2, trivial⟩, ?_⟩
      refine ⟨trivial, trivial, rfl, rfl, trivial, rfl, ?_⟩
      refine ⟨fun b5 => ?_, fun b5 => ?_⟩
      · rw [if_neg (of_decide_eq_false b5)] at h
        refine ⟨b5, ?_⟩
        obtain ⟨t6, ht6, h⟩ := of_bind h
        refine ⟨t6, ⟨sigset_Text.fun_ ht6, trivial⟩, ?_⟩
        refine ⟨b5, ?_⟩
        refine ⟨b5, ?_⟩
        refine ⟨trivial, ?_⟩
        refine ⟨b5, ?_⟩
        refine ⟨fun b7 => ?_, fun b7 => ?_⟩
        · rw [if_pos (str_f (not_t b7))] at h
          refine ⟨trivial, trivial, ?_⟩
          obtain rfl := Option.some.inj h
          exact ⟨trivial, trivial, rfl, rfl⟩
        · rw [if_neg (not_not_intro (str_t (not_f b7)))] at h
          refine ⟨trivial, trivial, trivial, ?_⟩
          obtain rfl := Option.some.inj h
          exact ⟨trivial, trivial, rfl, rfl⟩
      · rw [if_pos (of_decide_eq_true b5)] at h
        refine ⟨b5, ?_⟩
        refine ⟨b5, ?_⟩
        refine ⟨b5, ?_⟩
        refine ⟨b5, ?_⟩
        refine ⟨rfl, trivial, trivial, ?_⟩
        obtain rfl := Option.some.inj h
        exact ⟨trivial, trivial, rfl, rfl⟩
/-! halter/sigset.Del -/
def sigset_Del.f (a0 : Int) (a1 : Int) : Option Int :=
  (sigset_One.f a1).bind fun t1 =>
  some (bits .andNot .u32 (bits .and .u32 a0 (2147483647 : Int)) t1)
def sigset_Del.R (r : Int) : Tm := .v (.one (.sc (.int .u32 r)))
theorem sigset_Del.fun_ {a0 : Int} {a1 : Int} {r : Int} (h : sigset_Del.f a0 a1 = some r) : Fun cfg 10 [.one (.sc (.int .u32 a0)), .one (.sc (.int .i64 a1))] [] (sigset_Del.R r) [] := by
  unfold sigset_Del.f at h
  refine fun_of_run cfg_ok (f := 10) (fn := Tryd.f10) Tryd.func10 rfl (by kernel_rfl) (rs := [.tmp 4]) rfl (nt := 10) rfl (l := fin) (k := (.call true [] (Int) sigset_One.R (fun t1 => (aE 2 .nil)))) (to_goal (q := (True) ∧ (∃ t1 : Int, (Fun cfg 14 [.one (.sc (.int .i64 a1))] [] (sigset_One.R t1) [] ∧ True) ∧ (True) ∧ (True ∧ ((True) ∧ (True) ∧ (.v (.one (.sc (.int .u32 (bits .andNot .u32 (bits .and .u32 a0 (2147483647 : Int)) t1)))) : Tm) = sigset_Del.R r ∧ ([] : List Box) = [])))) (by kernel_rfl) ?_)
  refine ⟨trivial, ?_⟩
  obtain ⟨t1, ht1, h⟩ := of_bind h
  refine ⟨t1, ⟨sigset_One.fun_ ht1, trivial⟩, ?_⟩
  refine ⟨trivial, trivial, ?_⟩
  obtain rfl := Option.some.inj h
  exact ⟨trivial, trivial, rfl, rfl⟩
/-! math/bits.TrailingZeros32 -/
def math_bits_TrailingZeros32.f (a0 : Int) : Option Int :=
  if a0 = (0 : Int) then
    some (32 : Int)
  else
    if 0 ≤ (shr .u32 (IntKind.wrap .u32 ((bits .and .u32 a0 (IntKind.wrap .u32 (0 - a0))) * (125613361 : Int))) (27 : Int)) ∧ (shr .u32 (IntKind.wrap .u32 ((bits .and .u32 a0 (IntKind.wrap .u32 (0 - a0))) * (125613361 : Int))) (27 : Int)) < ((32 : Nat) : Int) then
      some (IntKind.wrap .i64 ((List.getD tab0 (Int.toNat (shr .u32 (IntKind.wrap .u32 ((bits .and .u32 a0 (IntKind.wrap .u32 (0 - a0))) * (125613361 : Int))) (27 : Int))) (0 : Int))))
    else none
def math_bits_TrailingZeros32.R (r : Int) : Tm := .v (.one (.sc (.int .i64 r)))
theorem math_bits_TrailingZeros32.fun_ {a0 : Int} {r : Int} (h : math_bits_TrailingZeros32.f a0 = some r) : Fun cfg 27 [.one (.sc (.int .u32 a0))] [] (math_bits_TrailingZeros32.R r) [] := by
  unfold math_bits_TrailingZeros32.f at h
  refine fun_of_run cfg_ok (f := 27) (fn := Tryd.f27) Tryd.func27 rfl (by kernel_rfl) (rs := [.tmp 2]) rfl (nt := 14) rfl (l := fin) (k := (.br (aE 3 .nil) (aE 4 .nil))) (to_goal (q := (True) ∧ (((a0 == (0 : Int)) = true → (True ∧ (True ∧ ((True) ∧ (True) ∧ (.v (.one (.sc (.int .i64 (32 : Int)))) : Tm) = math_bits_TrailingZeros32.R r ∧ ([] : List Box) = [])))) ∧ ((a0 == (0 : Int)) = false → (True ∧ (True ∧ (True) ∧ (True) ∧ (0 ≤ (27 : Int)) ∧ (0 ≤ (shr .u32 (IntKind.wrap .u32 ((bits .and .u32 a0 (IntKind.wrap .u32 (0 - a0))) * (125613361 : Int))) (27 : Int)) ∧ (shr .u32 (IntKind.wrap .u32 ((bits .and .u32 a0 (IntKind.wrap .u32 (0 - a0))) * (125613361 : Int))) (27 : Int)) < ((32 : Nat) : Int)) ∧ (True) ∧ (True) ∧ (True ∧ ((True) ∧ (True) ∧ (.v (.one (.sc (.int .i64 (IntKind.wrap .i64 ((List.getD tab0 (Int.toNat (shr .u32 (IntKind.wrap .u32 ((bits .and .u32 a0 (IntKind.wrap .u32 (0 - a0))) * (125613361 : Int))) (27 : Int))) (0 : Int))))))) : Tm) = math_bits_TrailingZeros32.R r ∧ ([] : List Box) = []))))))) (by kernel_rfl) ?_)
  refine ⟨trivial, ?_⟩
  refine ⟨fun b1 => ?_, fun b1 => ?_⟩
  · rw [if_pos (beq_t b1)] at h
    refine ⟨trivial, trivial, ?_⟩
    obtain rfl := Option.some.inj h
    exact ⟨trivial, trivial, rfl, rfl⟩
  · rw [if_neg (beq_f b1)] at h
    refine ⟨trivial, trivial, trivial, trivial, ?_⟩
    refine ⟨(by decide), ?_⟩
    obtain ⟨g2, h⟩ := of_guard h
    refine ⟨g2, ?_⟩
    refine ⟨trivial, trivial, trivial, ?_⟩
    obtain rfl := Option.some.inj h
    exact ⟨trivial, trivial, rfl, rfl⟩
/-! halter/sigset.First -/
def sigset_First.f (a0 : Int) : Option Int :=
  if (bits .and .u32 a0 (2147483647 : Int)) = (0 : Int) then
    some (0 : Int)
  else
    (math_bits_TrailingZeros32.f a0).bind fun t2 =>
    some (IntKind.wrap .i64 (t2 + (1 : Int)))
def sigset_First.R (r : Int) : Tm := .v (.one (.sc (.int .i64 r)))
theorem sigset_First.fun_ {a0 : Int} {r : Int} (h : sigset_First.f a0 = some r) : Fun cfg 19 [.one (.sc (.int .u32 a0))] [] (sigset_First.R r) [] := by
  unfold sigset_First.f at h
  refine fun_of_run cfg_ok (f := 19) (fn := Tryd.f19) Tryd.func19 rfl (by kernel_rfl) (rs := [.tmp 2]) rfl (nt := 9) rfl (l := fin) (k := (.br (aE 3 .nil) (.call true [] (Int) math_bits_TrailingZeros32.R (fun t2 => (aE 2 .nil))))) (to_goal (q := (True) ∧ (True) ∧ ((((bits .and .u32 a0 (2147483647 : Int)) == (0 : Int)) = true → (True ∧ (True ∧ ((True) ∧ (True) ∧ (.v (.one (.sc (.int .i64 (0 : Int)))) : Tm) = sigset_First.R r ∧ ([] : List Box) = [])))) ∧ (((bits .and .u32 a0 (2147483647 : Int)) == (0 : Int)) = false → (∃ t2 : Int, (Fun cfg 27 [.one (.sc (.int .u32 a0))] [] (math_bits_TrailingZeros32.R t2) [] ∧ True) ∧ (True) ∧ (True ∧ ((True) ∧ (True) ∧ (.v (.one (.sc (.int .i64 (IntKind.wrap .i64 (t2 + (1 : Int)))))) : Tm) = sigset_First.R r ∧ ([] : List Box) = [])))))) (by kernel_rfl) ?_)
  refine ⟨trivial, trivial, ?_⟩
  refine ⟨fun b1 => ?_, fun b1 => ?_⟩
  · rw [if_pos (beq_t b1)] at h
    refine ⟨trivial, trivial, ?_⟩
    obtain rfl := Option.some.inj h
    exact ⟨trivial, trivial, rfl, rfl⟩
  · rw [if_neg (beq_f b1)] at h
    obtain ⟨t2, ht2, h⟩ := of_bind h
    refine ⟨t2, ⟨math_bits_TrailingZeros32.fun_ ht2, trivial⟩, ?_⟩
    refine ⟨trivial, trivial, ?_⟩
    obtain rfl := Option.some.inj h
    exact ⟨trivial, trivial, rfl, rfl⟩
/-! math/bits.OnesCount32 -/
def math_bits_OnesCount32.f (a0 : Int) : Option Int :=
  if 0 ≤ (shr .u32 a0 (24 : Int)) ∧ (shr .u32 a0 (24 : Int)) < (((ByteArray.size (⟨#[0, 1, 1, 2, 1, 2, 2, 3, 1, 2, 2, 3, 2, 3, 3, 4, 1, 2, 2, 3, 2, 3, 3, 4, 2, 3, 3, 4, 3, 4, 4, 5, 1, 2, 2, 3, 2, 3, 3, 4, 2, 3, 3, 4, 3, 4, 4, 5, 2, 3, 3, 4, 3, 4, 4, 5, 3, 4, 4, 5, 4, 5, 5, 6, 1, 2, 2, 3, 2, 3, 3, 4, 2, 3, 3, 4, 3, 4, 4, 5, 2, 3, 3, 4, 3, 4, 4, 5, 3, 4, 4, 5, 4, 5, 5, 6, 2, 3, 3, 4, 3, 4, 4, 5, 3, 4, 4, 5, 4, 5, 5, 6, 3, 4, 4, 5, 4, 5, 5, 6, 4, 5, 5, 6, 5, 6, 6, 7, 1, 2, 2, 3, 2, 3, 3, 4, 2, 3, 3, 4, 3, 4, 4, 5, 2, 3, 3, 4, 3, 4, 4, 5, 3, 4, 4, 5, 4, 5, 5, 6, 2, 3, 3, 4, 3, 4, 4, 5, 3, 4, 4, 5, 4, 5, 5, 6, 3, 4, 4, 5, 4, 5, 5, 6, 4, 5, 5, 6, 5, 6, 6, 7, 2, 3, 3, 4, 3, 4, 4, 5, 3, 4, 4, 5, 4, 5, 5, 6, 3, 4, 4, 5, 4, 5, 5, 6, 4, 5, 5, 6, 5, 6, 6, 7, 3, 4, 4, 5, 4, 5, 5, 6, 4, 5, 5, 6, 5, 6, 6, 7, 4, 5, 5, 6, 5, 6, 6, 7, 5, 6, 6, 7, 6, 7, 7, 8]⟩ : ByteArray)) : Nat) : Int) then
    if 0 ≤ (bits .and .u32 (shr .u32 a0 (16 : Int)) (255 : Int)) ∧ (bits .and .u32 (shr .u32 a0 (16 : Int)) (255 : Int)) < (((ByteArray.size (⟨#[0, 1, 1, 2, 1, 2, 2, 3, 1, 2, 2, 3, 2, 3, 3, 4, 1, 2, 2, 3, 2, 3, 3, 4, 2, 3, 3, 4, 3, 4, 4, 5, 1, 2, 2, 3, 2, 3, 3, 4, 2, 3, 3, 4, 3, 4, 4, 5, 2, 3, 3, 4, 3, 4, 4, 5, 3, 4, 4, 5, 4, 5, 5, 6, 1, 2, 2, 3, 2, 3, 3, 4, 2, 3, 3, 4, 3, 4, 4, 5, 2, 3, 3, 4, 3, 4, 4, 5, 3, 4, 4, 5, 4, 5, 5, 6, 2, 3, 3, 4, 3, 4, 4, 5, 3, 4, 4, 5, 4, 5, 5, 6, 3, 4, 4, 5, 4, 5, 5, 6, 4, 5, 5, 6, 5, 6, 6, 7, 1, 2, 2, 3, 2, 3, 3, 4, 2, 3, 3, 4, 3, 4, 4, 5, 2, 3, 3, 4, 3, 4, 4, 5, 3, 4, 4, 5, 4, 5, 5, 6, 2, 3, 3, 4, 3, 4, 4, 5, 3, 4, 4, 5, 4, 5, 5, 6, 3, 4, 4, 5, 4, 5, 5, 6, 4, 5, 5, 6, 5, 6, 6, 7, 2, 3, 3, 4, 3, 4, 4, 5, 3, 4, 4, 5, 4, 5, 5, 6, 3, 4, 4, 5, 4, 5, 5, 6, 4, 5, 5, 6, 5, 6, 6, 7, 3, 4, 4, 5, 4, 5, 5, 6, 4, 5, 5, 6, 5, 6, 6, 7, 4, 5, 5, 6, 5, 6, 6, 7, 5, 6, 6, 7, 6, 7, 7, 8]⟩ : ByteArray)) : Nat) : Int) then
      if 0 ≤ (bits .and .u32 (shr .u32 a0 (8 : Int)) (255 : Int)) ∧ (bits .and .u32 (shr .u32 a0 (8 : Int)) (255 : Int)) < (((ByteArray.size (⟨#[0, 1, 1, 2, 1, 2, 2, 3, 1, 2, 2, 3, 2, 3, 3, 4, 1, 2, 2, 3, 2, 3, 3, 4, 2, 3, 3, 4, 3, 4, 4, 5, 1, 2, 2, 3, 2, 3, 3, 4, 2, 3, 3, 4, 3, 4, 4, 5, 2, 3, 3, 4, 3, 4, 4, 5, 3, 4, 4, 5, 4, 5, 5, 6, 1, 2, 2, 3, 2, 3, 3, 4, 2, 3, 3, 4, 3, 4, 4, 5, 2, 3, 3, 4, 3, 4, 4, 5, 3, 4, 4, 5, 4, 5, 5, 6, 2, 3, 3, 4, 3, 4, 4, 5, 3, 4, 4, 5, 4, 5, 5, 6, 3, 4, 4, 5, 4, 5, 5, 6, 4, 5, 5, 6, 5, 6, 6, 7, 1, 2, 2, 3, 2, 3, 3, 4, 2, 3, 3, 4, 3, 4, 4, 5, 2, 3, 3, 4, 3, 4, 4, 5, 3, 4, 4, 5, 4, 5, 5, 6, 2, 3, 3, 4, 3, 4, 4, 5, 3, 4, 4, 5, 4, 5, 5, 6, 3, 4, 4, 5, 4, 5, 5, 6, 4, 5, 5, 6, 5, 6, 6, 7, 2, 3, 3, 4, 3, 4, 4, 5, 3, 4, 4, 5, 4, 5, 5, 6, 3, 4, 4, 5, 4, 5, 5, 6, 4, 5, 5, 6, 5, 6, 6, 7, 3, 4, 4, 5, 4, 5, 5, 6, 4, 5, 5, 6, 5, 6, 6, 7, 4, 5, 5, 6, 5, 6, 6, 7, 5, 6, 6, 7, 6, 7, 7, 8]⟩ : ByteArray)) : Nat) : Int) then
        if 0 ≤ (bits .and .u32 a0 (255 : Int)) ∧ (bits .and .u32 a0 (255 : Int)) < (((ByteArray.size (⟨#[0, 1, 1, 2, 1, 2, 2, 3, 1, 2, 2, 3, 2, 3, 3, 4, 1, 2, 2, 3, 2, 3, 3, 4, 2, 3, 3, 4, 3, 4, 4, 5, 1, 2, 2, 3, 2, 3, 3, 4, 2, 3, 3, 4, 3, 4, 4, 5, 2, 3, 3, 4, 3, 4, 4, 5, 3, 4, 4, 5, 4, 5, 5, 6, 1, 2, 2, 3, 2, 3, 3, 4, 2, 3, 3, 4, 3, 4, 4, 5, 2, 3, 3, 4, 3, 4, 4, 5, 3, 4, 4, 5, 4, 5, 5, 6, 2, 3, 3, 4, 3, 4, 4, 5, 3, 4, 4, 5, 4, 5, 5, 6, 3, 4, 4, 5, 4, 5, 5, 6, 4, 5, 5, 6, 5, 6, 6, 7, 1, 2, 2, 3, 2, 3, 3, 4, 2, 3, 3, 4, 3, 4, 4, 5, 2, 3, 3, 4, 3, 4, 4, 5, 3, 4, 4, 5, 4, 5, 5, 6, 2, 3, 3, 4, 3, 4, 4, 5, 3, 4, 4, 5, 4, 5, 5, 6, 3, 4, 4, 5, 4, 5, 5, 6, 4, 5, 5, 6, 5, 6, 6, 7, 2, 3, 3, 4, 3, 4, 4, 5, 3, 4, 4, 5, 4, 5, 5, 6, 3, 4, 4, 5, 4, 5, 5, 6, 4, 5, 5, 6, 5, 6, 6, 7, 3, 4, 4, 5, 4, 5, 5, 6, 4, 5, 5, 6, 5, 6, 6, 7, 4, 5, 5, 6, 5, 6, 6, 7, 5, 6, 6, 7, 6, 7, 7, 8]⟩ : ByteArray)) : Nat) : Int) then
          some (IntKind.wrap .i64 ((IntKind.wrap .u8 ((IntKind.wrap .u8 ((IntKind.wrap .u8 ((bt (⟨#[0, 1, 1, 2, 1, 2, 2, 3, 1, 2, 2, 3, 2, 3, 3, 4, 1, 2, 2, 3, 2, 3, 3, 4, 2, 3, 3, 4, 3, 4, 4, 5, 1, 2, 2, 3, 2, 3, 3, 4, 2, 3, 3, 4, 3, 4, 4, 5, 2, 3, 3, 4, 3, 4, 4, 5, 3, 4, 4, 5, 4, 5, 5, 6, 1, 2, 2, 3, 2, 3, 3, 4, 2, 3, 3, 4, 3, 4, 4, 5, 2, 3, 3, 4, 3, 4, 4, 5, 3, 4, 4, 5, 4, 5, 5, 6, 2, 3, 3, 4, 3, 4, 4, 5, 3, 4, 4, 5, 4, 5, 5, 6, 3, 4, 4, 5, 4, 5, 5, 6, 4, 5, 5, 6, 5, 6, 6, 7, 1, 2, 2, 3, 2, 3, 3, 4, 2, 3, 3, 4, 3, 4, 4, 5, 2, 3, 3, 4, 3, 4, 4, 5, 3, 4, 4, 5, 4, 5, 5, 6, 2, 3, 3, 4, 3, 4, 4, 5, 3, 4, 4, 5, 4, 5, 5, 6, 3, 4, 4, 5, 4, 5, 5, 6, 4, 5, 5, 6, 5, 6, 6, 7, 2, 3, 3, 4, 3, 4, 4, 5, 3, 4, 4, 5, 4, 5, 5, 6, 3, 4, 4, 5, 4, 5, 5, 6, 4, 5, 5, 6, 5, 6, 6, 7, 3, 4, 4, 5, 4, 5, 5, 6, 4, 5, 5, 6, 5, 6, 6, 7, 4, 5, 5, 6, 5, 6, 6, 7, 5, 6, 6, 7, 6, 7, 7, 8]⟩ : ByteArray) (shr .u32 a0 (24 : Int))) + (bt (⟨#[0, 1, 1, 2, 1, 2, 2, 3, 1, 2, 2, 3, 2, 3, 3, 4, 1, 2, 2, 3, 2, 3, 3, 4, 2, 3, 3, 4, 3, 4, 4, 5, 1, 2, 2, 3, 2, 3, 3, 4, 2, 3, 3, 4, 3, 4, 4, 5, 2, 3, 3, 4, 3, 4, 4, 5, 3, 4, 4, 5, 4, 5, 5, 6, 1, 2, 2, 3, 2, 3, 3, 4, 2, 3, 3, 4, 3, 4, 4, 5, 2, 3, 3, 4, 3, 4, 4, 5, 3, 4, 4, 5, 4, 5, 5, 6, 2, 3, 3, 4, 3, 4, 4, 5, 3, 4, 4, 5, 4, 5, 5, 6, 3, 4, 4, 5, 4, 5, 5, 6, 4, 5, 5, 6, 5, 6, 6, 7, 1, 2, 2, 3, 2, 3, 3, 4, 2, 3, 3, 4, 3, 4, 4, 5, 2, 3, 3, 4, 3, 4, 4, 5, 3, 4, 4, 5, 4, 5, 5, 6, 2, 3, 3, 4, 3, 4, 4, 5, 3, 4, 4, 5, 4, 5, 5, 6, 3, 4, 4, 5, 4, 5, 5, 6, 4, 5, 5, 6, 5, 6, 6, 7, 2, 3, 3, 4, 3, 4, 4, 5, 3, 4, 4, 5, 4, 5, 5, 6, 3, 4, 4, 5, 4, 5, 5, 6, 4, 5, 5, 6, 5, 6, 6, 7, 3, 4, 4, 5, 4, 5, 5, 6, 4, 5, 5, 6, 5, 6, 6, 7, 4, 5, 5, 6, 5, 6, 6, 7, 5, 6, 6, 7, 6, 7, 7, 8]⟩ : ByteArray) (bits .and .u32 (shr .u32 a0 (16 : Int)) (255 : Int))))) + (bt (⟨#[0, 1, 1, 2, 1, 2, 2, 3, 1, 2, 2, 3, 2, 3, 3, 4, 1, 2, 2, 3, 2, 3, 3, 4, 2, 3, 3, 4, 3, 4, 4, 5, 1, 2, 2, 3, 2, 3, 3, 4, 2, 3, 3, 4, 3, 4, 4, 5, 2, 3, 3, 4, 3, 4, 4, 5, 3, 4, 4, 5, 4, 5, 5, 6, 1, 2, 2, 3, 2, 3, 3, 4, 2, 3, 3, 4, 3, 4, 4, 5, 2, 3, 3, 4, 3, 4, 4, 5, 3, 4, 4, 5, 4, 5, 5, 6, 2, 3, 3, 4, 3, 4, 4, 5, 3, 4, 4, 5, 4, 5, 5, 6, 3, 4, 4, 5, 4, 5, 5, 6, 4, 5, 5, 6, 5, 6, 6, 7, 1, 2, 2, 3, 2, 3, 3, 4, 2, 3, 3, 4, 3, 4, 4, 5, 2, 3, 3, 4, 3, 4, 4, 5, 3, 4, 4, 5, 4, 5, 5, 6, 2, 3, 3, 4, 3, 4, 4, 5, 3, 4, 4, 5, 4, 5, 5, 6, 3, 4, 4, 5, 4, 5, 5, 6, 4, 5, 5, 6, 5, 6, 6, 7, 2, 3, 3, 4, 3, 4, 4, 5, 3, 4, 4, 5, 4, 5, 5, 6, 3, 4, 4, 5, 4, 5, 5, 6, 4, 5, 5, 6, 5, 6, 6, 7, 3, 4, 4, 5, 4, 5, 5, 6, 4, 5, 5, 6, 5, 6, 6, 7, 4, 5, 5, 6, 5, 6, 6, 7, 5, 6, 6, 7, 6, 7, 7, 8]⟩ : ByteArray) (bits .and .u32 (shr .u32 a0 (8 : Int)) (255 : Int))))) + (bt (⟨#[0, 1, 1, 2, 1, 2, 2, 3, 1, 2, 2, 3, 2, 3, 3, 4, 1, 2, 2, 3, 2, 3, 3, 4, 2, 3, 3, 4, 3, 4, 4, 5, 1, 2, 2, 3, 2, 3, 3, 4, 2, 3, 3, 4, 3, 4, 4, 5, 2, 3, 3, 4, 3, 4, 4, 5, 3, 4, 4, 5, 4, 5, 5, 6, 1, 2, 2, 3, 2, 3, 3, 4, 2, 3, 3, 4, 3, 4, 4, 5, 2, 3, 3, 4, 3, 4, 4, 5, 3, 4, 4, 5, 4, 5, 5, 6, 2, 3, 3, 4, 3, 4, 4, 5, 3, 4, 4, 5, 4, 5, 5, 6, 3, 4, 4, 5, 4, 5, 5, 6, 4, 5, 5, 6, 5, 6, 6, 7, 1, 2, 2, 3, 2, 3, 3, 4, 2, 3, 3, 4, 3, 4, 4, 5, 2, 3, 3, 4, 3, 4, 4, 5, 3, 4, 4, 5, 4, 5, 5, 6, 2, 3, 3, 4, 3, 4, 4, 5, 3, 4, 4, 5, 4, 5, 5, 6, 3, 4, 4, 5, 4, 5, 5, 6, 4, 5, 5, 6, 5, 6, 6, 7, 2, 3, 3, 4, 3, 4, 4, 5, 3, 4, 4, 5, 4, 5, 5, 6, 3, 4, 4, 5, 4, 5, 5, 6, 4, 5, 5, 6, 5, 6, 6, 7, 3, 4, 4, 5, 4, 5, 5, 6, 4, 5, 5, 6, 5, 6, 6, 7, 4, 5, 5, 6, 5, 6, 6, 7, 5, 6, 6, 7, 6, 7, 7, 8]⟩ : ByteArray) (bits .and .u32 a0 (255 : Int)))))))
        else none
      else none
    else none
  else none
def math_bits_OnesCount32.R (r : Int) : Tm := .v (.one (.sc (.int .i64 r)))
theorem math_bits_OnesCount32.fun_ {a0 : Int} {r : Int} (h : math_bits_OnesCount32.f a0 = some r) : Fun cfg 26 [.one (.sc (.int .u32 a0))] [] (math_bits_OnesCount32.R r) [] := by
  unfold math_bits_OnesCount32.f at h
  refine fun_of_run cfg_ok (f := 26) (fn := Tryd.f26) Tryd.func26 rfl (by kernel_rfl) (rs := [.tmp 2]) rfl (nt := 21) rfl (l := fin) (k := (.dr [(0, dN), (1, dN), (2, dN), (3, dN), (4, dN), (5, dN), (6, dN), (7, dN), (8, dN), (9, dN), (10, dN), (11, dN), (12, dN), (13, dN), (14, dN), (15, dN), (16, dN), (17, dN), (18, dN)] (aE 2 .nil))) (to_goal (q := (0 ≤ (24 : Int)) ∧ (0 ≤ (shr .u32 a0 (24 : Int)) ∧ (shr .u32 a0 (24 : Int)) < (((ByteArray.size (⟨#[0, 1, 1, 2, 1, 2, 2, 3, 1, 2, 2, 3, 2, 3, 3, 4, 1, 2, 2, 3, 2, 3, 3, 4, 2, 3, 3, 4, 3, 4, 4, 5, 1, 2, 2, 3, 2, 3, 3, 4, 2, 3, 3, 4, 3, 4, 4, 5, 2, 3, 3, 4, 3, 4, 4, 5, 3, 4, 4, 5, 4, 5, 5, 6, 1, 2, 2, 3, 2, 3, 3, 4, 2, 3, 3, 4, 3, 4, 4, 5, 2, 3, 3, 4, 3, 4, 4, 5, 3, 4, 4, 5, 4, 5, 5, 6, 2, 3, 3, 4, 3, 4, 4, 5, 3, 4, 4, 5, 4, 5, 5, 6, 3, 4, 4, 5, 4, 5, 5, 6, 4, 5, 5, 6, 5, 6, 6, 7, 1, 2, 2, 3, 2, 3, 3, 4, 2, 3, 3, 4, 3, 4, 4, 5, 2, 3, 3, 4, 3, 4, 4, 5, 3, 4, 4, 5, 4, 5, 5, 6, 2, 3, 3, 4, 3, 4, 4, 5, 3, 4, 4, 5, 4, 5, 5, 6, 3, 4, 4, 5, 4, 5, 5, 6, 4, 5, 5, 6, 5, 6, 6, 7, 2, 3, 3, 4, 3, 4, 4, 5, 3, 4, 4, 5, 4, 5, 5, 6, 3, 4, 4, 5, 4, 5, 5, 6, 4, 5, 5, 6, 5, 6, 6, 7, 3, 4, 4, 5, 4, 5, 5, 6, 4, 5, 5, 6, 5, 6, 6, 7, 4, 5, 5, 6, 5, 6, 6, 7, 5, 6, 6, 7, 6, 7, 7, 8]⟩ : ByteArray)) : Nat) : Int)) ∧ (0 ≤ (16 : Int)) ∧ (True) ∧ (0 ≤ (bits .and .u32 (shr .u32 a0 (16 : Int)) (255 : Int)) ∧ (bits .and .u32 (shr .u32 a0 (16 : Int)) (255 : Int)) < (((ByteArray.size (⟨#[0, 1, 1, 2, 1, 2, 2, 3, 1, 2, 2, 3, 2, 3, 3, 4, 1, 2, 2, 3, 2, 3, 3, 4, 2, 3, 3, 4, 3, 4, 4, 5, 1, 2, 2, 3, 2, 3, 3, 4, 2, 3, 3, 4, 3, 4, 4, 5, 2, 3, 3, 4, 3, 4, 4, 5, 3, 4, 4, 5, 4, 5, 5, 6, 1, 2, 2, 3, 2, 3, 3, 4, 2, 3, 3, 4, 3, 4, 4, 5, 2, 3, 3, 4, 3, 4, 4, 5, 3, 4, 4, 5, 4, 5, 5, 6, 2, 3, 3, 4, 3, 4, 4, 5, 3, 4, 4, 5, 4, 5, 5, 6, 3, 4, 4, 5, 4, 5, 5, 6, 4, 5, 5, 6, 5, 6, 6, 7, 1, 2, 2, 3, 2, 3, 3, 4, 2, 3, 3, 4, 3, 4, 4, 5, 2, 3, 3, 4, 3, 4, 4, 5, 3, 4, 4, 5, 4, 5, 5, 6, 2, 3, 3, 4, 3, 4, 4, 5, 3, 4, 4, 5, 4, 5, 5, 6, 3, 4, 4, 5, 4, 5, 5, 6, 4, 5, 5, 6, 5, 6, 6, 7, 2, 3, 3, 4, 3, 4, 4, 5, 3, 4, 4, 5, 4, 5, 5, 6, 3, 4, 4, 5, 4, 5, 5, 6, 4, 5, 5, 6, 5, 6, 6, 7, 3, 4, 4, 5, 4, 5, 5, 6, 4, 5, 5, 6, 5, 6, 6, 7, 4, 5, 5, 6, 5, 6, 6, 7, 5, 6, 6, 7, 6, 7, 7, 8]⟩ : ByteArray)) : Nat) : Int)) ∧ (True) ∧ (0 ≤ (8 : Int)) ∧ (True) ∧ (0 ≤ (bits .and .u32 (shr .u32 a0 (8 : Int)) (255 : Int)) ∧ (bits .and .u32 (shr .u32 a0 (8 : Int)) (255 : Int)) < (((ByteArray.size (⟨#[0, 1, 1, 2, 1, 2, 2, 3, 1, 2, 2, 3, 2, 3, 3, 4, 1, 2, 2, 3, 2, 3, 3, 4, 2, 3, 3, 4, 3, 4, 4, 5, 1, 2, 2, 3, 2, 3, 3, 4, 2, 3, 3, 4, 3, 4, 4, 5, 2, 3, 3, 4, 3, 4, 4, 5, 3, 4, 4, 5, 4, 5, 5, 6, 1, 2, 2, 3, 2, 3, 3, 4, 2, 3, 3, 4, 3, 4, 4, 5, 2, 3, 3, 4, 3, 4, 4, 5, 3, 4, 4, 5, 4, 5, 5, 6, 2, 3, 3, 4, 3, 4, 4, 5, 3, 4, 4, 5, 4, 5, 5, 6, 3, 4, 4, 5, 4, 5, 5, 6, 4, 5, 5, 6, 5, 6, 6, 7, 1, 2, 2, 3, 2, 3, 3, 4, 2, 3, 3, 4, 3, 4, 4, 5, 2, 3, 3, 4, 3, 4, 4, 5, 3, 4, 4, 5, 4, 5, 5, 6, 2, 3, 3, 4, 3, 4, 4, 5, 3, 4, 4, 5, 4, 5, 5, 6, 3, 4, 4, 5, 4, 5, 5, 6, 4, 5, 5, 6, 5, 6, 6, 7, 2, 3, 3, 4, 3, 4, 4, 5, 3, 4, 4, 5, 4, 5, 5, 6, 3, 4, 4, 5, 4, 5, 5, 6, 4, 5, 5, 6, 5, 6, 6, 7, 3, 4, 4, 5, 4, 5, 5, 6, 4, 5, 5, 6, 5, 6, 6, 7, 4, 5, 5, 6, 5, 6, 6, 7, 5, 6, 6, 7, 6, 7, 7, 8]⟩ : ByteArray)) : Nat) : Int)) ∧ (True) ∧ (True) ∧ (0 ≤ (bits .and .u32 a0 (255 : Int)) ∧ (bits .and .u32 a0 (255 : Int)) < (((ByteArray.size (⟨#[0, 1, 1, 2, 1, 2, 2, 3, 1, 2, 2, 3, 2, 3, 3, 4, 1, 2, 2, 3, 2, 3, 3, 4, 2, 3, 3, 4, 3, 4, 4, 5, 1, 2, 2, 3, 2, 3, 3, 4, 2, 3, 3, 4, 3, 4, 4, 5, 2, 3, 3, 4, 3, 4, 4, 5, 3, 4, 4, 5, 4, 5, 5, 6, 1, 2, 2, 3, 2, 3, 3, 4, 2, 3, 3, 4, 3, 4, 4, 5, 2, 3, 3, 4, 3, 4, 4, 5, 3, 4, 4, 5, 4, 5, 5, 6, 2, 3, 3, 4, 3, 4, 4, 5, 3, 4, 4, 5, 4, 5, 5, 6, 3, 4, 4, 5, 4, 5, 5, 6, 4, 5, 5, 6, 5, 6, 6, 7, 1, 2, 2, 3, 2, 3, 3, 4, 2, 3, 3, 4, 3, 4, 4, 5, 2, 3, 3, 4, 3, 4, 4, 5, 3, 4, 4, 5, 4, 5, 5, 6, 2, 3, 3, 4, 3, 4, 4, 5, 3, 4, 4, 5, 4, 5, 5, 6, 3, 4, 4, 5, 4, 5, 5, 6, 4, 5, 5, 6, 5, 6, 6, 7, 2, 3, 3, 4, 3, 4, 4, 5, 3, 4, 4, 5, 4, 5, 5, 6, 3, 4, 4, 5, 4, 5, 5, 6, 4, 5, 5, 6, 5, 6, 6, 7, 3, 4, 4, 5, 4, 5, 5, 6, 4, 5, 5, 6, 5, 6, 6, 7, 4, 5, 5, 6, 5, 6, 6, 7, 5, 6, 6, 7, 6, 7, 7, 8]⟩ : ByteArray)) : Nat) : Int)) ∧ (True) ∧ (True) ∧ (True ∧ ((True) ∧ (True) ∧ (.v (.one (.sc (.int .i64 (IntKind.wrap .i64 ((IntKind.wrap .u8 ((IntKind.wrap .u8 ((IntKind.wrap .u8 ((bt (⟨#[0, 1, 1, 2, 1, 2, 2, 3, 1, 2, 2, 3, 2, 3, 3, 4, 1, 2, 2, 3, 2, 3, 3, 4, 2, 3, 3, 4, 3, 4, 4, 5, 1, 2, 2, 3, 2, 3, 3, 4, 2, 3, 3, 4, 3, 4, 4, 5, 2, 3, 3, 4, 3, 4, 4, 5, 3, 4, 4, 5, 4, 5, 5, 6, 1, 2, 2, 3, 2, 3, 3, 4, 2, 3, 3, 4, 3, 4, 4, 5, 2, 3, 3, 4, 3, 4, 4, 5, 3, 4, 4, 5, 4, 5, 5, 6, 2, 3, 3, 4, 3, 4, 4, 5, 3, 4, 4, 5, 4, 5, 5, 6, 3, 4, 4, 5, 4, 5, 5, 6, 4, 5, 5, 6, 5, 6, 6, 7, 1, 2, 2, 3, 2, 3, 3, 4, 2, 3, 3, 4, 3, 4, 4, 5, 2, 3, 3, 4, 3, 4, 4, 5, 3, 4, 4, 5, 4, 5, 5, 6, 2, 3, 3, 4, 3, 4, 4, 5, 3, 4, 4, 5, 4, 5, 5, 6, 3, 4, 4, 5, 4, 5, 5, 6, 4, 5, 5, 6, 5, 6, 6, 7, 2, 3, 3, 4, 3, 4, 4, 5, 3, 4, 4, 5, 4, 5, 5, 6, 3, 4, 4, 5, 4, 5, 5, 6, 4, 5, 5, 6, 5, 6, 6, 7, 3, 4, 4, 5, 4, 5, 5, 6, 4, 5, 5, 6, 5, 6, 6, 7, 4, 5, 5, 6, 5, 6, 6, 7, 5, 6, 6, 7, 6, 7, 7, 8]⟩ : ByteArray) (shr .u32 a0 (24 : Int))) + (bt (⟨#[0, 1, 1, 2, 1, 2, 2, 3, 1, 2, 2, 3, 2, 3, 3, 4, 1, 2, 2, 3, 2, 3, 3, 4, 2, 3, 3, 4, 3, 4, 4, 5, 1, 2, 2, 3, 2, 3, 3, 4, 2, 3, 3, 4, 3, 4, 4, 5, 2, 3, 3, 4, 3, 4, 4, 5, 3, 4, 4, 5, 4, 5, 5, 6, 1, 2, 2, 3, 2, 3, 3, 4, 2, 3, 3, 4, 3, 4, 4, 5, 2, 3, 3, 4, 3, 4, 4, 5, 3, 4, 4, 5, 4, 5, 5, 6, 2, 3, 3, 4, 3, 4, 4, 5, 3, 4, 4, 5, 4, 5, 5, 6, 3, 4, 4, 5, 4, 5, 5, 6, 4, 5, 5, 6, 5, 6, 6, 7, 1, 2, 2, 3, 2, 3, 3, 4, 2, 3, 3, 4, 3, 4, 4, 5, 2, 3, 3, 4, 3, 4, 4, 5, 3, 4, 4, 5, 4, 5, 5, 6, 2, 3, 3, 4, 3, 4, 4, 5, 3, 4, 4, 5, 4, 5, 5, 6, 3, 4, 4, 5, 4, 5, 5, 6, 4, 5, 5, 6, 5, 6, 6, 7, 2, 3, 3, 4, 3, 4, 4, 5, 3, 4, 4, 5, 4, 5, 5, 6, 3, 4, 4, 5, 4, 5, 5, 6, 4, 5, 5, 6, 5, 6, 6, 7, 3, 4, 4, 5, 4, 5, 5, 6, 4, 5, 5, 6, 5, 6, 6, 7, 4, 5, 5, 6, 5, 6, 6, 7, 5, 6, 6, 7, 6, 7, 7, 8]⟩ : ByteArray) (bits .and .u32 (shr .u32 a0 (16 : Int)) (255 : Int))))) + (bt (⟨#[0, 1, 1, 2, 1, 2, 2, 3, 1, 2, 2, 3, 2, 3, 3, 4, 1, 2, 2, 3, 2, 3, 3, 4, 2, 3, 3, 4, 3, 4, 4, 5, 1, 2, 2, 3, 2, 3, 3, 4, 2, 3, 3, 4, 3, 4, 4, 5, 2, 3, 3, 4, 3, 4, 4, 5, 3, 4, 4, 5, 4, 5, 5, 6, 1, 2, 2, 3, 2, 3, 3, 4, 2, 3, 3, 4, 3, 4, 4, 5, 2, 3, 3, 4, 3, 4, 4, 5, 3, 4, 4, 5, 4, 5, 5, 6, 2, 3, 3, 4, 3, 4, 4, 5, 3, 4, 4, 5, 4, 5, 5, 6, 3, 4, 4, 5, 4, 5, 5, 6, 4, 5, 5, 6, 5, 6, 6, 7, 1, 2, 2, 3, 2, 3, 3, 4, 2, 3, 3, 4, 3, 4, 4, 5, 2, 3, 3, 4, 3, 4, 4, 5, 3, 4, 4, 5, 4, 5, 5, 6, 2, 3, 3, 4, 3, 4, 4, 5, 3, 4, 4, 5, 4, 5, 5, 6, 3, 4, 4, 5, 4, 5, 5, 6, 4, 5, 5, 6, 5, 6, 6, 7, 2, 3, 3, 4, 3, 4, 4, 5, 3, 4, 4, 5, 4, 5, 5, 6, 3, 4, 4, 5, 4, 5, 5, 6, 4, 5, 5, 6, 5, 6, 6, 7, 3, 4, 4, 5, 4, 5, 5, 6, 4, 5, 5, 6, 5, 6, 6, 7, 4, 5, 5, 6, 5, 6, 6, 7, 5, 6, 6, 7, 6, 7, 7, 8]⟩ : ByteArray) (bits .and .u32 (shr .u32 a0 (8 : Int)) (255 : Int))))) + (bt (⟨#[0, 1, 1, 2, 1, 2, 2, 3, 1, 2, 2, 3, 2, 3, 3, 4, 1, 2, 2, 3, 2, 3, 3, 4, 2, 3, 3, 4, 3, 4, 4, 5, 1, 2, 2, 3, 2, 3, 3, 4, 2, 3, 3, 4, 3, 4, 4, 5, 2, 3, 3, 4, 3, 4, 4, 5, 3, 4, 4, 5, 4, 5, 5, 6, 1, 2, 2, 3, 2, 3, 3, 4, 2, 3, 3, 4, 3, 4, 4, 5, 2, 3, 3, 4, 3, 4, 4, 5, 3, 4, 4, 5, 4, 5, 5, 6, 2, 3, 3, 4, 3, 4, 4, 5, 3, 4, 4, 5, 4, 5, 5, 6, 3, 4, 4, 5, 4, 5, 5, 6, 4, 5, 5, 6, 5, 6, 6, 7, 1, 2, 2, 3, 2, 3, 3, 4, 2, 3, 3, 4, 3, 4, 4, 5, 2, 3, 3, 4, 3, 4, 4, 5, 3, 4, 4, 5, 4, 5, 5, 6, 2, 3, 3, 4, 3, 4, 4, 5, 3, 4, 4, 5, 4, 5, 5, 6, 3, 4, 4, 5, 4, 5, 5, 6, 4, 5, 5, 6, 5, 6, 6, 7, 2, 3, 3, 4, 3, 4, 4, 5, 3, 4, 4, 5, 4, 5, 5, 6, 3, 4, 4, 5, 4, 5, 5, 6, 4, 5, 5, 6, 5, 6, 6, 7, 3, 4, 4, 5, 4, 5, 5, 6, 4, 5, 5, 6, 5, 6, 6, 7, 4, 5, 5, 6, 5, 6, 6, 7, 5, 6, 6, 7, 6, 7, 7, 8]⟩ : ByteArray) (bits .and .u32 a0 (255 : Int)))))))))) : Tm) = math_bits_OnesCount32.R r ∧ ([] : List Box) = []))) (by kernel_rfl) ?_)
  obtain ⟨g1, h⟩ := of_guard h
  obtain ⟨g2, h⟩ := of_guard h
  obtain ⟨g3, h⟩ := of_guard h
  obtain ⟨g4, h⟩ := of_guard h
  refine ⟨(by decide), g1, (by decide), trivial, g2, trivial, (by decide), trivial, g3, trivial, trivial, g4, trivial, trivial, ?_⟩
  refine ⟨trivial, ?_⟩
  obtain rfl := Option.some.inj h
  exact ⟨trivial, trivial, rfl, rfl⟩
/-! halter/sigset.Count -/
def sigset_Count.f (a0 : Int) : Option Int :=
  (math_bits_OnesCount32.f (bits .and .u32 a0 (2147483647 : Int))).bind fun t1 =>
  some t1
def sigset_Count.R (r : Int) : Tm := .v (.one (.sc (.int .i64 r)))
theorem sigset_Count.fun_ {a0 : Int} {r : Int} (h : sigset_Count.f a0 = some r) : Fun cfg 18 [.one (.sc (.int .u32 a0))] [] (sigset_Count.R r) [] := by
  unfold sigset_Count.f at h
  refine fun_of_run cfg_ok (f := 18) (fn := Tryd.f18) Tryd.func18 rfl (by kernel_rfl) (rs := [.tmp 2]) rfl (nt := 6) rfl (l := fin) (k := (.call true [] (Int) math_bits_OnesCount32.R (fun t1 => (aE 2 .nil)))) (to_goal (q := (True) ∧ (∃ t1 : Int, (Fun cfg 26 [.one (.sc (.int .u32 (bits .and .u32 a0 (2147483647 : Int))))] [] (math_bits_OnesCount32.R t1) [] ∧ True) ∧ (True ∧ ((True) ∧ (True) ∧ (.v (.one (.sc (.int .i64 t1))) : Tm) = sigset_Count.R r ∧ ([] : List Box) = [])))) (by kernel_rfl) ?_)
  refine ⟨trivial, ?_⟩
  obtain ⟨t1, ht1, h⟩ := of_bind h
  refine ⟨t1, ⟨math_bits_OnesCount32.fun_ ht1, trivial⟩, ?_⟩
  refine ⟨trivial, ?_⟩
  obtain rfl := Option.some.inj h
  exact ⟨trivial, trivial, rfl, rfl⟩
/-! halter/sigset.Has -/
def sigset_Has.f (a0 : Int) (a1 : Int) : Option Bool :=
  (sigset_One.f a1).bind fun t1 =>
  some ((bits .and .u32 a0 t1) != (0 : Int))
def sigset_Has.R (r : Bool) : Tm := .v (.one (.sc (.bool r)))
theorem sigset_Has.fun_ {a0 : Int} {a1 : Int} {r : Bool} (h : sigset_Has.f a0 a1 = some r) : Fun cfg 12 [.one (.sc (.int .u32 a0)), .one (.sc (.int .i64 a1))] [] (sigset_Has.R r) [] := by
  unfold sigset_Has.f at h
  refine fun_of_run cfg_ok (f := 12) (fn := Tryd.f12) Tryd.func12 rfl (by kernel_rfl) (rs := [.tmp 4]) rfl (nt := 10) rfl (l := fin) (k := (.call true [] (Int) sigset_One.R (fun t1 => (aE 2 .nil)))) (to_goal (q := (∃ t1 : Int, (Fun cfg 14 [.one (.sc (.int .i64 a1))] [] (sigset_One.R t1) [] ∧ True) ∧ (True) ∧ (True) ∧ (True ∧ ((True) ∧ (True) ∧ (.v (.one (.sc (.bool ((bits .and .u32 a0 t1) != (0 : Int))))) : Tm) = sigset_Has.R r ∧ ([] : List Box) = [])))) (by kernel_rfl) ?_)
  obtain ⟨t1, ht1, h⟩ := of_bind h
  refine ⟨t1, ⟨sigset_One.fun_ ht1, trivial⟩, ?_⟩
  refine ⟨trivial, trivial, trivial, ?_⟩
  obtain rfl := Option.some.inj h
  exact ⟨trivial, trivial, rfl, rfl⟩
/-! halter/halterlaw03.sure -/
def halterlaw03_sure.f : Option Bool :=
  (sigset_One.f (1 : Int)).bind fun t1 =>
  (sigset_Add.f t1 (9 : Int)).bind fun t2 =>
  (sigset_Parse.f (⟨#[48, 48, 48, 48, 48, 49, 48, 49]⟩ : ByteArray)).bind fun t3 =>
  (sigset_Text.f t2).bind fun t4 =>
  if t4 = (⟨#[48, 48, 48, 48, 48, 49, 48, 49]⟩ : ByteArray) then
    if t3.2 = none then
      if t3.1 = t2 then
        (sigset_Del.f t2 (1 : Int)).bind fun t8 =>
        (sigset_First.f t8).bind fun t9 =>
        if t9 = (9 : Int) then
          (sigset_Count.f t2).bind fun t11 =>
          if t11 = (2 : Int) then
            (sigset_Has.f t2 (9 : Int)).bind fun t13 =>
            some t13
          else
            some false
        else
          some false
      else
        some false
    else
      some false
  else
    some false
def halterlaw03_sure.R (r : Bool) : Tm := .v (.one (.sc (.bool r)))
theorem halterlaw03_sure.fun_ {r : Bool} (h : halterlaw03_sure.f = some r) : Fun cfg 20 [] [] (halterlaw03_sure.R r) [] := by
  unfold halterlaw03_sure.f at h
  refine fun_of_run cfg_ok (f := 20) (fn := Tryd.f20) Tryd.func20 rfl (by kernel_rfl) (rs := [.tmp 0]) rfl (nt := 37) rfl (l := fin) (k := (.call true [] (Int) sigset_One.R (fun t1 => (.call true [] (Int) sigset_Add.R (fun t2 => (.call true [] (Int × (Option Int)) sigset_Parse.R (fun t3 => (.call true [] (ByteArray) sigset_Text.R (fun t4 => (.br (oT 2 (.br (oT 3 (.br (.one true (.call true [] (Int) sigset_Del.R (fun t8 => (.one true (.call true [] (Int) sigset_First.R (fun t9 => (oT 2 (.br (.one true (.call true [] (Int) sigset_Count.R (fun t11 => (oT 2 (.br (.one true (.call true [] (Bool) sigset_Has.R (fun t13 => (.one true (aE 2 .nil))))) (oF 2 (aE 2 .nil))))))) (oF 6 (aE 2 .nil)))))))))) (oF 11 (aE 2 .nil)))) (oF 15 (aE 2 .nil)))) (oF 18 (aE 2 .nil)))))))))))) (to_goal (q := (∃ t1 : Int, (Fun cfg 14 [.one (.sc (.int .i64 (1 : Int)))] [] (sigset_One.R t1) [] ∧ True) ∧ (∃ t2 : Int, (Fun cfg 8 [.one (.sc (.int .u32 t1)), .one (.sc (.int .i64 (9 : Int)))] [] (sigset_Add.R t2) [] ∧ True) ∧ (∃ t3 : Int × (Option Int), (Fun cfg 21 [.one (.sc (.string (⟨#[48, 48, 48, 48, 48, 49, 48, 49]⟩ : ByteArray)))] [] (sigset_Parse.R t3) [] ∧ True) ∧ (∃ t4 : ByteArray, (Fun cfg 22 [.one (.sc (.int .u32 t2))] [] (sigset_Text.R t4) [] ∧ True) ∧ (True) ∧ (((t4.toList == (⟨#[48, 48, 48, 48, 48, 49, 48, 49]⟩ : ByteArray).toList) = true → ((t4.toList == (⟨#[48, 48, 48, 48, 48, 49, 48, 49]⟩ : ByteArray).toList) = true ∧ (True) ∧ ((t4.toList == (⟨#[48, 48, 48, 48, 48, 49, 48, 49]⟩ : ByteArray).toList) = true ∧ (((Option.isNone t3.2) = true → ((Option.isNone t3.2) = true ∧ ((Option.isNone t3.2) = true ∧ (True) ∧ ((Option.isNone t3.2) = true ∧ (((t3.1 == t2) = true → ((t3.1 == t2) = true ∧ (∃ t8 : Int, (Fun cfg 10 [.one (.sc (.int .u32 t2)), .one (.sc (.int .i64 (1 : Int)))] [] (sigset_Del.R t8) [] ∧ True) ∧ ((t3.1 == t2) = true ∧ (∃ t9 : Int, (Fun cfg 19 [.one (.sc (.int .u32 t8))] [] (sigset_First.R t9) [] ∧ True) ∧ ((t3.1 == t2) = true ∧ (True) ∧ ((t3.1 == t2) = true ∧ (((t9 == (9 : Int)) = true → ((t9 == (9 : Int)) = true ∧ (∃ t11 : Int, (Fun cfg 18 [.one (.sc (.int .u32 t2))] [] (sigset_Count.R t11) [] ∧ True) ∧ ((t9 == (9 : Int)) = true ∧ (True) ∧ ((t9 == (9 : Int)) = true ∧ (((t11 == (2 : Int)) = true → ((t11 == (2 : Int)) = true ∧ (∃ t13 : Bool, (Fun cfg 12 [.one (.sc (.int .u32 t2)), .one (.sc (.int .i64 (9 : Int)))] [] (sigset_Has.R t13) [] ∧ True) ∧ ((t11 == (2 : Int)) = true ∧ (True ∧ ((True) ∧ (True) ∧ (.v (.one (.sc (.bool t13))) : Tm) = halterlaw03_sure.R r ∧ ([] : List Box) = [])))))) ∧ ((t11 == (2 : Int)) = false → ((t11 == (2 : Int)) = false ∧ ((t11 == (2 : Int)) = false ∧ (True ∧ ((True) ∧ (True) ∧ (.v (.one (.sc (.bool false))) : Tm) = halterlaw03_sure.R r ∧ ([] : List Box) = []))))))))))) ∧ ((t9 == (9 : Int)) = false → ((t9 == (9 : Int)) = false ∧ ((t9 == (9 : Int)) = false ∧ ((t9 == (9 : Int)) = false ∧ (false = false ∧ (false = false ∧ (false = false ∧ (True ∧ ((True) ∧ (True) ∧ (.v (.one (.sc (.bool false))) : Tm) = halterlaw03_sure.R r ∧ ([] : List Box) = []))))))))))))))))) ∧ ((t3.1 == t2) = false → ((t3.1 == t2) = false ∧ ((t3.1 == t2) = false ∧ ((t3.1 == t2) = false ∧ ((t3.1 == t2) = false ∧ (false = false ∧ (false = false ∧ (false = false ∧ (false = false ∧ (false = false ∧ (false = false ∧ (false = false ∧ (True ∧ ((True) ∧ (True) ∧ (.v (.one (.sc (.bool false))) : Tm) = halterlaw03_sure.R r ∧ ([] : List Box) = []))))))))))))))))))) ∧ ((Option.isNone t3.2) = false → ((Option.isNone t3.2) = false ∧ ((Option.isNone t3.2) = false ∧ ((Option.isNone t3.2) = false ∧ (false = false ∧ (false = false ∧ (false = false ∧ (false = false ∧ (false = false ∧ (false = false ∧ (false = false ∧ (false = false ∧ (false = false ∧ (false = false ∧ (false = false ∧ (false = false ∧ (True ∧ ((True) ∧ (True) ∧ (.v (.one (.sc (.bool false))) : Tm) = halterlaw03_sure.R r ∧ ([] : List Box) = [])))))))))))))))))))))) ∧ ((t4.toList == (⟨#[48, 48, 48, 48, 48, 49, 48, 49]⟩ : ByteArray).toList) = false → ((t4.toList == (⟨#[48, 48, 48, 48, 48, 49, 48, 49]⟩ : ByteArray).toList) = false ∧ ((t4.toList == (⟨#[48, 48, 48, 48, 48, 49, 48, 49]⟩ : ByteArray).toList) = false ∧ (false = false ∧ (false = false ∧ (false = false ∧ (false = false ∧ (false = false ∧ (false = false ∧ (false = false ∧ (false = false ∧ (false = false ∧ (false = false ∧ (false = false ∧ (false = false ∧ (false = false ∧ (false = false ∧ (false = false ∧ (false = false ∧ (True ∧ ((True) ∧ (True) ∧ (.v (.one (.sc (.bool false))) : Tm) = halterlaw03_sure.R r ∧ ([] : List Box) = []))))))))))))))))))))))))))) (by kernel_rfl) ?_)
  obtain ⟨t1, ht1, h⟩ := of_bind h
  refine ⟨t1, ⟨sigset_One.fun_ ht1, trivial⟩, ?_⟩
  obtain ⟨t2, ht2, h⟩ := of_bind h
  refine ⟨t2, ⟨sigset_Add.fun_ ht2, trivial⟩, ?_⟩
  obtain ⟨t3, ht3, h⟩ := of_bind h
  refine ⟨t3, ⟨sigset_Parse.fun_ ht3, trivial⟩, ?_⟩
  obtain ⟨t4, ht4, h⟩ := of_bind h
  refine ⟨t4, ⟨sigset_Text.fun_ ht4, trivial⟩, ?_⟩
  refine ⟨trivial, ?_⟩
  refine ⟨fun b5 => ?_, fun b5 => ?_⟩
  · rw [if_pos (str_t b5)] at h
    refine ⟨b5, ?_⟩
    refine ⟨trivial, ?_⟩
    refine ⟨b5, ?_⟩
    refine ⟨fun b6 => ?_, fun b6 => ?_⟩
    · rw [if_pos (none_t b6)] at h
      refine ⟨b6, ?_⟩
      refine ⟨b6, ?_⟩
      refine ⟨trivial, ?_⟩
      refine ⟨b6, ?_⟩
      refine ⟨fun b7 => ?_, fun b7 => ?_⟩
      · rw [if_pos (beq_t b7)] at h
        refine ⟨b7, ?_⟩
        obtain ⟨t8, ht8, h⟩ := of_bind h
        refine ⟨t8, ⟨sigset_Del.fun_ ht8, trivial⟩, ?_⟩
        refine ⟨b7, ?_⟩
        obtain ⟨t9, ht9, h⟩ := of_bind h
        refine ⟨t9, ⟨sigset_First.fun_ ht9, trivial⟩, ?_⟩
        refine ⟨b7, ?_⟩
        refine ⟨trivial, ?_⟩
        refine ⟨b7, ?_⟩
        refine ⟨fun b10 => ?_, fun b10 => ?_⟩
        · rw [if_pos (beq_t b10)] at h
          refine ⟨b10, ?_⟩
          obtain ⟨t11, ht11, h⟩ := of_bind h
          refine ⟨t11, ⟨sigset_Count.fun_ ht11, trivial⟩, ?_⟩
          refine ⟨b10, ?_⟩
          refine ⟨trivial, ?_⟩
          refine ⟨b10, ?_⟩
          refine ⟨fun b12 => ?_, fun b12 => ?_⟩
          · rw [if_pos (beq_t b12)] at h
            refine ⟨b12, ?_⟩
            obtain ⟨t13, ht13, h⟩ := of_bind h
            refine ⟨t13, ⟨sigset_Has.fun_ ht13, trivial⟩, ?_⟩
            refine ⟨b12, ?_⟩
            refine ⟨trivial, ?_⟩
            obtain rfl := Option.some.inj h
            exact ⟨trivial, trivial, rfl, rfl⟩
          · rw [if_neg (beq_f b12)] at h
            refine ⟨b12, ?_⟩
            refine ⟨b12, ?_⟩
            refine ⟨trivial, ?_⟩
            obtain rfl := Option.some.inj h
            exact ⟨trivial, trivial, rfl, rfl⟩
        · rw [if_neg (beq_f b10)] at h
          refine ⟨b10, ?_⟩
          refine ⟨b10, ?_⟩
          refine ⟨b10, ?_⟩
          refine ⟨rfl, rfl, rfl, trivial, ?_⟩
          obtain rfl := Option.some.inj h
          exact ⟨trivial, trivial, rfl, rfl⟩
      · rw [if_neg (beq_f b7)] at h
        refine ⟨b7, ?_⟩
        refine ⟨b7, ?_⟩
        refine ⟨b7, ?_⟩
        refine ⟨b7, ?_⟩
        refine ⟨rfl, rfl, rfl, rfl, rfl, rfl, rfl, trivial, ?_⟩
        obtain rfl := Option.some.inj h
        exact ⟨trivial, trivial, rfl, rfl⟩
    · rw [if_neg (none_f b6)] at h
      refine ⟨b6, ?_⟩
      refine ⟨b6, ?_⟩
      refine ⟨b6, ?_⟩
      refine ⟨rfl, rfl, rfl, rfl, rfl, rfl, rfl, rfl, rfl, rfl, rfl, rfl, trivial, ?_⟩
      obtain rfl := Option.some.inj h
      exact ⟨trivial, trivial, rfl, rfl⟩
  · rw [if_neg (str_f b5)] at h
    refine ⟨b5, ?_⟩
    refine ⟨b5, ?_⟩
    refine ⟨rfl, rfl, rfl, rfl, rfl, rfl, rfl, rfl, rfl, rfl, rfl, rfl, rfl, rfl, rfl, rfl, trivial, ?_⟩
    obtain rfl := Option.some.inj h
    exact ⟨trivial, trivial, rfl, rfl⟩
/-! halter/halterref03.Parse -/
def halterref03_Parse.l1 (x2 : Int) (x3 : Int) (a0 : ByteArray) : Nat → Int → Int → Option Int
  | 0, _, _ => none
  | n + 1, x19, x20 =>
    if x20 < (16 : Int) then
      if 0 ≤ x20 ∧ x20 < (((ByteArray.size (⟨#[48, 49, 50, 51, 52, 53, 54, 55, 56, 57, 97, 98, 99, 100, 101, 102]⟩ : ByteArray)) : Nat) : Int) then
        if 0 ≤ x3 ∧ x3 < (((ByteArray.size a0) : Nat) : Int) then
          if (bt (⟨#[48, 49, 50, 51, 52, 53, 54, 55, 56, 57, 97, 98, 99, 100, 101, 102]⟩ : ByteArray) x20) = (bt a0 x3) then
            halterref03_Parse.l1 x2 x3 a0 n x20 (IntKind.wrap .i64 (x20 + (1 : Int)))
          else
            halterref03_Parse.l1 x2 x3 a0 n x19 (IntKind.wrap .i64 (x20 + (1 : Int)))
        else none
      else none
    else
      some x19
def halterref03_Parse.l1_S (x2 : Int) (x3 : Int) (a0 : ByteArray) (x19 : Int) (x20 : Int) : St := ⟨[.v (.one (.sc (.string a0))), .any, .any, .any, .v (.one (.sc (.int .u64 x2))), .v (.one (.sc (.int .i64 x3))), .v (.one (.sc (.int .i64 x19))), .v (.one (.sc (.int .i64 x20))), .any, .any, .any, .any, .any, .any, .any, .any, .any, .any, .any, .any, .any, .any, .any, .any, .any, .any, .any, .any, .any, .any, .any, .any, .any, .any, .any, .any, .any], [], 0⟩
def halterref03_Parse.l1_Q (x2 : Int) (x3 : Int) (a0 : ByteArray) (t : Int) : Exit → St → Prop := fun e s => e = (.exit 2) ∧ s = ⟨[.v (.one (.sc (.string a0))), .any, .any, .any, .v (.one (.sc (.int .u64 x2))), .v (.one (.sc (.int .i64 x3))), .v (.one (.sc (.int .i64 t))), .any, .any, .any, .any, .any, .any, .any, .any, .any, .any, .any, .any, .any, .any, .any, .any, .any, .any, .any, .any, .any, .any, .any, .any, .any, .any, .any, .any, .any, .any], [], 0⟩
theorem halterref03_Parse.l1_ok (x2 : Int) (x3 : Int) (a0 : ByteArray) : ∀ (n : Nat) (x19 : Int) (x20 : Int) (r : Int), halterref03_Parse.l1 x2 x3 a0 n x19 x20 = some r → TripN cfg (cpath (Tryd.f23.body.getD .skip) [1, 1, 1, 0, 1, 0, 0, 1, 0, 0, 1, 0, 1, 0, 0]) n (halterref03_Parse.l1_S x2 x3 a0 x19 x20) (halterref03_Parse.l1_Q x2 x3 a0 r) := by
  intro n
  induction n with
  | zero => intro x19 x20 r h; cases h
  | succ n ih =>
    intro x19 x20 r h
    rw [halterref03_Parse.l1] at h
    refine TripN.of_run cfg_ok (k := (.br (.dr [(0, dN), (1, dN), (2, dN), (3, dN), (4, dN), (5, dN)] (.br (aE 2 (.adj [.keep [0, 4, 5, 6, 7], .drop 0] .nil)) (aE 2 (.adj [.keep [0, 4, 5, 6, 7], .drop 0] .nil)))) (.adj [.keep [0, 4, 5, 6], .drop 0] .nil))) (to_goal (q := (True) ∧ (((decide (x20 < (16 : Int))) = true → (0 ≤ x20 ∧ x20 < (((ByteArray.size (⟨#[48, 49, 50, 51, 52, 53, 54, 55, 56, 57, 97, 98, 99, 100, 101, 102]⟩ : ByteArray)) : Nat) : Int)) ∧ (0 ≤ x3 ∧ x3 < (((ByteArray.size a0) : Nat) : Int)) ∧ (True) ∧ ((((bt (⟨#[48, 49, 50, 51, 52, 53, 54, 55, 56, 57, 97, 98, 99, 100, 101, 102]⟩ : ByteArray) x20) == (bt a0 x3)) = true → (True ∧ (True ∧ (True) ∧ (((True) ∧ (True) ∧ True) ∧ TripN cfg (cpath (Tryd.f23.body.getD .skip) [1, 1, 1, 0, 1, 0, 0, 1, 0, 0, 1, 0, 1, 0, 0]) n (halterref03_Parse.l1_S x2 x3 a0 x20 (IntKind.wrap .i64 (x20 + (1 : Int)))) (halterref03_Parse.l1_Q x2 x3 a0 r))))) ∧ (((bt (⟨#[48, 49, 50, 51, 52, 53, 54, 55, 56, 57, 97, 98, 99, 100, 101, 102]⟩ : ByteArray) x20) == (bt a0 x3)) = false → (True ∧ (True ∧ (True) ∧ (((True) ∧ (True) ∧ True) ∧ TripN cfg (cpath (Tryd.f23.body.getD .skip) [1, 1, 1, 0, 1, 0, 0, 1, 0, 0, 1, 0, 1, 0, 0]) n (halterref03_Parse.l1_S x2 x3 a0 x19 (IntKind.wrap .i64 (x20 + (1 : Int)))) (halterref03_Parse.l1_Q x2 x3 a0 r))))))) ∧ ((decide (x20 < (16 : Int))) = false → (((True) ∧ (True) ∧ True) ∧ halterref03_Parse.l1_Q x2 x3 a0 r (.exit 2) ⟨[.v (.one (.sc (.string a0))), .any, .any, .any, .v (.one (.sc (.int .u64 x2))), .v (.one (.sc (.int .i64 x3))), .v (.one (.sc (.int .i64 x19))), .any, .any, .any, .any, .any, .any, .any, .any, .any, .any, .any, .any, .any, .any, .any, .any, .any, .any, .any, .any, .any, .any, .any, .any, .any, .any, .any, .any, .any, .any], [], 0⟩)))) (by kernel_rfl) ?_)
    refine ⟨trivial, ?_⟩
    refine ⟨fun b27 => ?_, fun b27 => ?_⟩
    · rw [if_pos (of_decide_eq_true b27)] at h
      obtain ⟨g28, h⟩ := of_guard h
      obtain ⟨g29, h⟩ := of_guard h
      refine ⟨g28, g29, trivial, ?_⟩
      refine ⟨fun b30 => ?_, fun b30 => ?_⟩
      · rw [if_pos (beq_t b30)] at h
        refine ⟨trivial, trivial, trivial, ?_⟩
        exact ⟨⟨trivial, trivial, trivial⟩, ih x20 (IntKind.wrap .i64 (x20 + (1 : Int))) r h⟩
      · rw [if_neg (beq_f b30)] at h
        refine ⟨trivial, trivial, trivial, ?_⟩
        exact ⟨⟨trivial, trivial, trivial⟩, ih x19 (IntKind.wrap .i64 (x20 + (1 : Int))) r h⟩
    · rw [if_neg (of_decide_eq_false b27)] at h
      obtain rfl := Option.some.inj h
      exact ⟨⟨trivial, trivial, trivial⟩, rfl, rfl⟩
def halterref03_Parse.l0 (a0 : ByteArray) : Nat → Int → Int → Option ((Int) ⊕ (Unit))
  | 0, _, _ => none
  | n + 1, x2, x3 =>
    if x3 < (8 : Int) then
      (halterref03_Parse.l1 x2 x3 a0 FUEL (-1 : Int) (0 : Int)).bind fun t26 =>
      if t26 < (0 : Int) then
        some (.inr ())
      else
        halterref03_Parse.l0 a0 n (IntKind.wrap .u64 ((IntKind.wrap .u64 ((16 : Int) * x2)) + (IntKind.wrap .u64 (t26)))) (IntKind.wrap .i64 (x3 + (1 : Int)))
    else
      some (.inl x2)
def halterref03_Parse.l0_S (a0 : ByteArray) (x2 : Int) (x3 : Int) : St := ⟨[.v (.one (.sc (.string a0))), .any, .any, .any, .v (.one (.sc (.int .u64 x2))), .v (.one (.sc (.int .i64 x3))), .any, .any, .any, .any, .any, .any, .any, .any, .any, .any, .any, .any, .any, .any, .any, .any, .any, .any, .any, .any, .any, .any, .any, .any, .any, .any, .any, .any, .any, .any, .any], [], 0⟩
def halterref03_Parse.l0_Q (a0 : ByteArray) : (Int) ⊕ (Unit) → Exit → St → Prop
  | .inl t => fun e s => e = (.exit 0) ∧ s = ⟨[.any, .any, .any, .any, .v (.one (.sc (.int .u64 t))), .any, .any, .any, .any, .any, .any, .any, .any, .any, .any, .any, .any, .any, .any, .any, .any, .any, .any, .any, .any, .any, .any, .any, .any, .any, .any, .any, .any, .any, .any, .any, .any], [], 0⟩
  | .inr t => fun e s => e = .ret ∧ s = ⟨[.any, .any, .v (.one (.sc (.int .u32 (0 : Int)))), .v (.one (.sc (.int .i64 (22 : Int)))), .any, .any, .any, .any, .any, .any, .any, .any, .any, .any, .any, .any, .any, .any, .any, .any, .any, .any, .any, .any, .any, .any, .any, .any, .any, .any, .any, .any, .any, .any, .any, .any, .any], [], 0⟩
theorem halterref03_Parse.l0_ok (a0 : ByteArray) : ∀ (n : Nat) (x2 : Int) (x3 : Int) (r : (Int) ⊕ (Unit)), halterref03_Parse.l0 a0 n x2 x3 = some r → TripN cfg (cpath (Tryd.f23.body.getD .skip) [1, 1, 1, 0, 1, 0, 0]) n (halterref03_Parse.l0_S a0 x2 x3) (halterref03_Parse.l0_Q a0 r) := by
  intro n
  induction n with
  | zero => intro x2 x3 r h; cases h
  | succ n ih =>
    intro x2 x3 r h
    rw [halterref03_Parse.l0] at h
    refine TripN.of_run cfg_ok (k := (.br (aE 5 (.adj [.keep [0, 4, 5, 6, 7]] (.sub (Int) (fun _ => (.exit 2)) (fun t26 => ⟨[.v (.one (.sc (.string a0))), .any, .any, .any, .v (.one (.sc (.int .u64 x2))), .v (.one (.sc (.int .i64 x3))), .v (.one (.sc (.int .i64 t26))), .any, .any, .any, .any, .any, .any, .any, .any, .any, .any, .any, .any, .any, .any, .any, .any, .any, .any, .any, .any, .any, .any, .any, .any, .any, .any, .any, .any, .any, .any], [], 0⟩) (fun t26 => (.br (.adj [] (.adj [.keep [2, 3], .drop 0] .nil)) (aE 3 (.adj [.keep [0, 4, 5], .drop 0] .nil))))))) (.adj [.keep [4], .drop 0] .nil))) (to_goal (q := (True) ∧ (((decide (x3 < (8 : Int))) = true → (True ∧ (True ∧ (True ∧ (True ∧ (True ∧ (((True) ∧ True) ∧ (∃ t26 : Int, Trip cfg (.loop (cpath (Tryd.f23.body.getD .skip) [1, 1, 1, 0, 1, 0, 0, 1, 0, 0, 1, 0, 1, 0, 0])) ⟨[.v (.one (.sc (.string a0))), .any, .any, .any, .v (.one (.sc (.int .u64 x2))), .v (.one (.sc (.int .i64 x3))), .v (.one (.sc (.int .i64 (-1 : Int)))), .v (.one (.sc (.int .i64 (0 : Int)))), .any, .any, .any, .any, .any, .any, .any, .any, .any, .any, .any, .any, .any, .any, .any, .any, .any, .any, .any, .any, .any, .any, .any, .any, .any, .any, .any, .any, .any], [], 0⟩ (fun e s => e = (.exit 2) ∧ s = ⟨[.v (.one (.sc (.string a0))), .any, .any, .any, .v (.one (.sc (.int .u64 x2))), .v (.one (.sc (.int .i64 x3))), .v (.one (.sc (.int .i64 t26))), .any, .any, .any, .any, .any, .any, .any, .any, .any, .any, .any, .any, .any, .any, .any, .any, .any, .any, .any, .any, .any, .any, .any, .any, .any, .any, .any, .any, .any, .any], [], 0⟩) ∧ (True) ∧ (((decide (t26 < (0 : Int))) = true → (True ∧ (((True) ∧ (True) ∧ True) ∧ halterref03_Parse.l0_Q a0 r .ret ⟨[.any, .any, .v (.one (.sc (.int .u32 (0 : Int)))), .v (.one (.sc (.int .i64 (22 : Int)))), .any, .any, .any, .any, .any, .any, .any, .any, .any, .any, .any, .any, .any, .any, .any, .any, .any, .any, .any, .any, .any, .any, .any, .any, .any, .any, .any, .any, .any, .any, .any, .any, .any], [], 0⟩))) ∧ ((decide (t26 < (0 : Int))) = false → (True ∧ (True ∧ (True) ∧ (True) ∧ (True) ∧ (True ∧ (True) ∧ (((True) ∧ (True) ∧ True) ∧ TripN cfg (cpath (Tryd.f23.body.getD .skip) [1, 1, 1, 0, 1, 0, 0]) n (halterref03_Parse.l0_S a0 (IntKind.wrap .u64 ((IntKind.wrap .u64 ((16 : Int) * x2)) + (IntKind.wrap .u64 (t26)))) (IntKind.wrap .i64 (x3 + (1 : Int)))) (halterref03_Parse.l0_Q a0 r))))))))))))))) ∧ ((decide (x3 < (8 : Int))) = false → (((True) ∧ (True) ∧ True) ∧ halterref03_Parse.l0_Q a0 r (.exit 0) ⟨[.any, .any, .any, .any, .v (.one (.sc (.int .u64 x2))), .any, .any, .any, .any, .any, .any, .any, .any, .any, .any, .any, .any, .any, .any, .any, .any, .any, .any, .any, .any, .any, .any, .any, .any, .any, .any, .any, .any, .any, .any, .any, .any], [], 0⟩)))) (by kernel_rfl) ?_)
    refine ⟨trivial, ?_⟩
    refine ⟨fun b18 => ?_, fun b18 => ?_⟩
    · rw [if_pos (of_decide_eq_true b18)] at h
      refine ⟨trivial, trivial, trivial, trivial, trivial, ?_⟩
      obtain ⟨t26, ht26, h⟩ := of_bind h
      refine ⟨⟨trivial, trivial⟩, t26, Trip.loop FUEL (halterref03_Parse.l1_ok x2 x3 a0 FUEL (-1 : Int) (0 : Int) t26 ht26), ?_⟩
      refine ⟨trivial, ?_⟩
      refine ⟨fun b33 => ?_, fun b33 => ?_⟩
      · rw [if_pos (of_decide_eq_true b33)] at h
        refine ⟨trivial, ?_⟩
        obtain rfl := Option.some.inj h
        exact ⟨⟨trivial, trivial, trivial⟩, rfl, rfl⟩
      · rw [if_neg (of_decide_eq_false b33)] at h
        refine ⟨trivial, trivial, trivial, trivial, trivial, trivial, trivial, ?_⟩
        exact ⟨⟨trivial, trivial, trivial⟩, ih (IntKind.wrap .u64 ((IntKind.wrap .u64 ((16 : Int) * x2)) + (IntKind.wrap .u64 (t26)))) (IntKind.wrap .i64 (x3 + (1 : Int))) r h⟩
    · rw [if_neg (of_decide_eq_false b18)] at h
      obtain rfl := Option.some.inj h
      exact ⟨⟨trivial, trivial, trivial⟩, rfl, rfl⟩
def halterref03_Parse.f (a0 : ByteArray) : Option (Int × Int) :=
  if ¬ ((ByteArray.size a0 : Nat) : Int) = (8 : Int) then
    some ((0 : Int), (22 : Int))
  else
    (halterref03_Parse.l0 a0 FUEL (0 : Int) (0 : Int)).bind fun t17 =>
    match t17 with
    | .inl t35 =>
      if t35 ≥ (2147483648 : Int) then
        some ((0 : Int), (22 : Int))
      else
        some ((IntKind.wrap .u32 (t35)), (0 : Int))
    | .inr t38 =>
      some ((0 : Int), (22 : Int))
def halterref03_Parse.R (r : Int × Int) : Tm := .tup [.one (.sc (.int .u32 r.1)), .one (.sc (.int .i64 r.2))]
theorem halterref03_Parse.fun_ {a0 : ByteArray} {r : Int × Int} (h : halterref03_Parse.f a0 = some r) : Fun cfg 23 [.one (.sc (.string a0))] [] (halterref03_Parse.R r) [] := by
  unfold halterref03_Parse.f at h
  refine fun_of_run cfg_ok (f := 23) (fn := Tryd.f23) Tryd.func23 rfl (by kernel_rfl) (rs := [.tmp 2, .tmp 3]) rfl (nt := 37) rfl (l := fin) (k := (.br (aE 3 .nil) (aE 4 (.adj [.keep [0, 4, 5]] (.alt (.sub (Int) (fun _ => (.exit 0)) (fun t35 => ⟨[.any, .any, .any, .any, .v (.one (.sc (.int .u64 t35))), .any, .any, .any, .any, .any, .any, .any, .any, .any, .any, .any, .any, .any, .any, .any, .any, .any, .any, .any, .any, .any, .any, .any, .any, .any, .any, .any, .any, .any, .any, .any, .any], [], 0⟩) (fun t35 => (.br (aE 3 .nil) (aE 4 .nil)))) (.sub (Unit) (fun _ => .ret) (fun t38 => ⟨[.any, .any, .v (.one (.sc (.int .u32 (0 : Int)))), .v (.one (.sc (.int .i64 (22 : Int)))), .any, .any, .any, .any, .any, .any, .any, .any, .any, .any, .any, .any, .any, .any, .any, .any, .any, .any, .any, .any, .any, .any, .any, .any, .any, .any, .any, .any, .any, .any, .any, .any, .any], [], 0⟩) (fun t38 => (.adj [] .nil)))))))) (to_goal (q := (True) ∧ (True) ∧ (((((ByteArray.size a0 : Nat) : Int) != (8 : Int)) = true → (True ∧ (True ∧ ((True) ∧ (True) ∧ (.tup [.one (.sc (.int .u32 (0 : Int))), .one (.sc (.int .i64 (22 : Int)))] : Tm) = halterref03_Parse.R r ∧ ([] : List Box) = [])))) ∧ ((((ByteArray.size a0 : Nat) : Int) != (8 : Int)) = false → (True ∧ (True ∧ (True ∧ (True ∧ (((True) ∧ True) ∧ ((∃ t35 : Int, Trip cfg (.loop (cpath (Tryd.f23.body.getD .skip) [1, 1, 1, 0, 1, 0, 0])) ⟨[.v (.one (.sc (.string a0))), .any, .any, .any, .v (.one (.sc (.int .u64 (0 : Int)))), .v (.one (.sc (.int .i64 (0 : Int)))), .any, .any, .any, .any, .any, .any, .any, .any, .any, .any, .any, .any, .any, .any, .any, .any, .any, .any, .any, .any, .any, .any, .any, .any, .any, .any, .any, .any, .any, .any, .any], [], 0⟩ (fun e s => e = (.exit 0) ∧ s = ⟨[.any, .any, .any, .any, .v (.one (.sc (.int .u64 t35))), .any, .any, .any, .any, .any, .any, .any, .any, .any, .any, .any, .any, .any, .any, .any, .any, .any, .any, .any, .any, .any, .any, .any, .any, .any, .any, .any, .any, .any, .any, .any, .any], [], 0⟩) ∧ (True) ∧ (((decide (t35 ≥ (2147483648 : Int))) = true → (True ∧ (True ∧ ((True) ∧ (True) ∧ (.tup [.one (.sc (.int .u32 (0 : Int))), .one (.sc (.int .i64 (22 : Int)))] : Tm) = halterref03_Parse.R r ∧ ([] : List Box) = [])))) ∧ ((decide (t35 ≥ (2147483648 : Int))) = false → (True ∧ (True ∧ (True) ∧ (True ∧ ((True) ∧ (True) ∧ (.tup [.one (.sc (.int .u32 (IntKind.wrap .u32 (t35)))), .one (.sc (.int .i64 (0 : Int)))] : Tm) = halterref03_Parse.R r ∧ ([] : List Box) = []))))))) ∨ (∃ t38 : Unit, Trip cfg (.loop (cpath (Tryd.f23.body.getD .skip) [1, 1, 1, 0, 1, 0, 0])) ⟨[.v (.one (.sc (.string a0))), .any, .any, .any, .v (.one (.sc (.int .u64 (0 : Int)))), .v (.one (.sc (.int .i64 (0 : Int)))), .any, .any, .any, .any, .any, .any, .any, .any, .any, .any, .any, .any, .any, .any, .any, .any, .any, .any, .any, .any, .any, .any, .any, .any, .any, .any, .any, .any, .any, .any, .any], [], 0⟩ (fun e s => e = .ret ∧ s = ⟨[.any, .any, .v (.one (.sc (.int .u32 (0 : Int)))), .v (.one (.sc (.int .i64 (22 : Int)))), .any, .any, .any, .any, .any, .any, .any, .any, .any, .any, .any, .any, .any, .any, .any, .any, .any, .any, .any, .any, .any, .any, .any, .any, .any, .any, .any, .any, .any, .any, .any, .any, .any], [], 0⟩) ∧ ((True) ∧ (True) ∧ (.tup [.one (.sc (.int .u32 (0 : Int))), .one (.sc (.int .i64 (22 : Int)))] : Tm) = halterref03_Parse.R r ∧ ([] : List Box) = []))))))))))) (by kernel_rfl) ?_)
  refine ⟨trivial, trivial, ?_⟩
  refine ⟨fun b1 => ?_, fun b1 => ?_⟩
  · rw [if_pos (bne_t b1)] at h
    refine ⟨trivial, trivial, ?_⟩
    obtain rfl := Option.some.inj h
    exact ⟨trivial, trivial, rfl, rfl⟩
  · rw [if_neg (not_not_intro (bne_f b1))] at h
    refine ⟨trivial, trivial, trivial, trivial, ?_⟩
    obtain ⟨t17, ht17, h⟩ := of_bind h
    refine ⟨⟨trivial, trivial⟩, ?_⟩
    rcases t17 with t35 | t38
    · dsimp only at h
      left
      refine ⟨t35, Trip.loop FUEL (halterref03_Parse.l0_ok a0 FUEL (0 : Int) (0 : Int) (.inl t35) ht17), ?_⟩
      refine ⟨trivial, ?_⟩
      refine ⟨fun b37 => ?_, fun b37 => ?_⟩
      · rw [if_pos (of_decide_eq_true b37)] at h
        refine ⟨trivial, trivial, ?_⟩
        obtain rfl := Option.some.inj h
        exact ⟨trivial, trivial, rfl, rfl⟩
      · rw [if_neg (of_decide_eq_false b37)] at h
        refine ⟨trivial, trivial, trivial, trivial, ?_⟩
        obtain rfl := Option.some.inj h
        exact ⟨trivial, trivial, rfl, rfl⟩
    · dsimp only at h
      right
      refine ⟨t38, Trip.loop FUEL (halterref03_Parse.l0_ok a0 FUEL (0 : Int) (0 : Int) (.inr t38) ht17), ?_⟩
      obtain rfl := Option.some.inj h
      exact ⟨trivial, trivial, rfl, rfl⟩
/-! halter/halterref03.List -/
def halterref03_List.l0 : Nat → (List Int) → Int → Int → Option (List Int)
  | 0, _, _, _ => none
  | n + 1, x10, x11, x12 =>
    if x12 ≤ (31 : Int) then
      if (Int.tmod x11 (2 : Int)) = (1 : Int) then
        if (0 = 0 ∧ 1 = 1) ∧ 0 = 0 ∧ (List.length x10) = (List.length x10) ∧ (((List.length x10) + 1) * 8 ≤ 140737488355328 ∧ (List.length x10) + 1 ≤ 9223372036854775807) then
          halterref03_List.l0 n (x10 ++ [x12]) (IntKind.wrap .u32 (Int.tdiv x11 (2 : Int))) (IntKind.wrap .i64 (x12 + (1 : Int)))
        else none
      else
        halterref03_List.l0 n x10 (IntKind.wrap .u32 (Int.tdiv x11 (2 : Int))) (IntKind.wrap .i64 (x12 + (1 : Int)))
    else
      some x10
def halterref03_List.l0_S (x10 : List Int) (x11 : Int) (x12 : Int) : St := ⟨[.v (.one (.sc (.int .u32 x11))), .any, .any, .v (.one (.os 0 0 0 1 (List.length x10) none)), .v (.one (.sc (.int .i64 x12))), .any, .any, .any, .any, .any, .any, .any, .any, .any, .any, .any, .any, .any, .any], [.gro false (.int .i64) x10 3], 0⟩
def halterref03_List.l0_Q (t : (List Int)) : Exit → St → Prop := fun e s => e = (.exit 0) ∧ s = ⟨[.any, .any, .any, .v (.one (.os 0 0 0 1 (List.length t) none)), .any, .any, .any, .any, .any, .any, .any, .any, .any, .any, .any, .any, .any, .any, .any], [.gro false (.int .i64) t 3], 0⟩
theorem halterref03_List.l0_ok : ∀ (n : Nat) (x10 : List Int) (x11 : Int) (x12 : Int) (r : (List Int)), halterref03_List.l0 n x10 x11 x12 = some r → TripN cfg (cpath (Tryd.f7.body.getD .skip) [1, 1, 0, 1, 0, 0]) n (halterref03_List.l0_S x10 x11 x12) (halterref03_List.l0_Q r) := by
  intro n
  induction n with
  | zero => intro x10 x11 x12 r h; cases h
  | succ n ih =>
    intro x10 x11 x12 r h
    rw [halterref03_List.l0] at h
    refine TripN.of_run cfg_ok (k := (.br (.br (.d .no (.d (.b true) (aE 2 (.adj [.keep [0, 3, 4], .drop 1] .nil)))) (aE 3 (.adj [.keep [0, 3, 4], .drop 1] .nil))) (.adj [.keep [3], .drop 1] .nil))) (to_goal (q := (True) ∧ (((decide (x12 ≤ (31 : Int))) = true → ((2 : Int) ≠ 0) ∧ (True) ∧ ((((Int.tmod x11 (2 : Int)) == (1 : Int)) = true → ((0 = 0 ∧ 1 = 1) ∧ 0 = 0 ∧ (List.length x10) = (List.length x10) ∧ (((List.length x10) + 1) * 8 ≤ 140737488355328 ∧ (List.length x10) + 1 ≤ 9223372036854775807)) ∧ (True ∧ ((2 : Int) ≠ 0) ∧ (True ∧ (True) ∧ (((True) ∧ (True) ∧ True) ∧ TripN cfg (cpath (Tryd.f7.body.getD .skip) [1, 1, 0, 1, 0, 0]) n (halterref03_List.l0_S (x10 ++ [x12]) (IntKind.wrap .u32 (Int.tdiv x11 (2 : Int))) (IntKind.wrap .i64 (x12 + (1 : Int)))) (halterref03_List.l0_Q r))))) ∧ (((Int.tmod x11 (2 : Int)) == (1 : Int)) = false → (True ∧ (True ∧ ((2 : Int) ≠ 0) ∧ (True ∧ (True) ∧ (((True) ∧ (True) ∧ True) ∧ TripN cfg (cpath (Tryd.f7.body.getD .skip) [1, 1, 0, 1, 0, 0]) n (halterref03_List.l0_S x10 (IntKind.wrap .u32 (Int.tdiv x11 (2 : Int))) (IntKind.wrap .i64 (x12 + (1 : Int)))) (halterref03_List.l0_Q r)))))))) ∧ ((decide (x12 ≤ (31 : Int))) = false → (((True) ∧ (True) ∧ True) ∧ halterref03_List.l0_Q r (.exit 0) ⟨[.any, .any, .any, .v (.one (.os 0 0 0 1 (List.length x10) none)), .any, .any, .any, .any, .any, .any, .any, .any, .any, .any, .any, .any, .any, .any, .any], [.gro false (.int .i64) x10 3], 0⟩)))) (by kernel_rfl) ?_)
    refine ⟨trivial, ?_⟩
    refine ⟨fun b18 => ?_, fun b18 => ?_⟩
    · rw [if_pos (of_decide_eq_true b18)] at h
      refine ⟨(by decide), ?_⟩
      refine ⟨trivial, ?_⟩
      refine ⟨fun b19 => ?_, fun b19 => ?_⟩
      · rw [if_pos (beq_t b19)] at h
        obtain ⟨g20, h⟩ := of_guard h
        refine ⟨g20, ?_⟩
        refine ⟨trivial, ?_⟩
        refine ⟨(by decide), ?_⟩
        refine ⟨trivial, trivial, ?_⟩
        exact ⟨⟨trivial, trivial, trivial⟩, ih (x10 ++ [x12]) (IntKind.wrap .u32 (Int.tdiv x11 (2 : Int))) (IntKind.wrap .i64 (x12 + (1 : Int))) r h⟩
      · rw [if_neg (beq_f b19)] at h
        refine ⟨trivial, trivial, ?_⟩
        refine ⟨(by decide), ?_⟩
        refine ⟨trivial, trivial, ?_⟩
        exact ⟨⟨trivial, trivial, trivial⟩, ih x10 (IntKind.wrap .u32 (Int.tdiv x11 (2 : Int))) (IntKind.wrap .i64 (x12 + (1 : Int))) r h⟩
    · rw [if_neg (of_decide_eq_false b18)] at h
      obtain rfl := Option.some.inj h
      exact ⟨⟨trivial, trivial, trivial⟩, rfl, rfl⟩
def halterref03_List.f (a0 : Int) : Option (List Int) :=
  (halterref03_List.l0 FUEL ([] : List Int) a0 (1 : Int)).bind fun t17 =>
  some t17
def halterref03_List.R (r : (List Int)) : Tm := .v (.one (.fs (.int .i64) r false))
theorem halterref03_List.fun_ {a0 : Int} {r : (List Int)} (h : halterref03_List.f a0 = some r) : Fun cfg 7 [.one (.sc (.int .u32 a0))] [] (halterref03_List.R r) [] := by
  unfold halterref03_List.f at h
  refine fun_of_run cfg_ok (f := 7) (fn := Tryd.f7) Tryd.func7 rfl (by kernel_rfl) (rs := [.tmp 2]) rfl (nt := 19) rfl (l := fin) (k := (aE 4 (.adj [.keep [0, 3, 4], .nilGro 3 (.int .i64) 3] (.sub ((List Int)) (fun _ => (.exit 0)) (fun t17 => ⟨[.any, .any, .any, .v (.one (.os 0 0 0 1 (List.length t17) none)), .any, .any, .any, .any, .any, .any, .any, .any, .any, .any, .any, .any, .any, .any, .any], [.gro false (.int .i64) t17 3], 0⟩) (fun t17 => (aE 2 (.adj [.co 0 true [], .drop 0] .nil))))))) (to_goal (q := (True ∧ (True ∧ (True ∧ (True ∧ (((True) ∧ (True) ∧ True) ∧ (∃ t17 : (List Int), Trip cfg (.loop (cpath (Tryd.f7.body.getD .skip) [1, 1, 0, 1, 0, 0])) ⟨[.v (.one (.sc (.int .u32 a0))), .any, .any, .v (.one (.os 0 0 0 1 0 none)), .v (.one (.sc (.int .i64 (1 : Int)))), .any, .any, .any, .any, .any, .any, .any, .any, .any, .any, .any, .any, .any, .any], [.gro false (.int .i64) ([] : List Int) 3], 0⟩ (fun e s => e = (.exit 0) ∧ s = ⟨[.any, .any, .any, .v (.one (.os 0 0 0 1 (List.length t17) none)), .any, .any, .any, .any, .any, .any, .any, .any, .any, .any, .any, .any, .any, .any, .any], [.gro false (.int .i64) t17 3], 0⟩) ∧ (True ∧ (True ∧ ((True) ∧ ((((0 = 0 ∧ (List.length t17) = (List.length t17))) ∧ True) ∧ (True) ∧ True) ∧ (.v (.one (.fs (.int .i64) t17 false)) : Tm) = halterref03_List.R r ∧ ([] : List Box) = [])))))))))) (by kernel_rfl) ?_)
  refine ⟨trivial, trivial, trivial, trivial, ?_⟩
  obtain ⟨t17, ht17, h⟩ := of_bind h
  refine ⟨⟨trivial, trivial, trivial⟩, t17, Trip.loop FUEL (halterref03_List.l0_ok FUEL ([] : List Int) a0 (1 : Int) t17 ht17), ?_⟩
  refine ⟨trivial, trivial, ?_⟩
  obtain rfl := Option.some.inj h
  exact ⟨trivial, ⟨⟨⟨rfl, rfl⟩, trivial⟩, trivial, trivial⟩, rfl, rfl⟩
/-! halter/halterref03.Of -/
def halterref03_Of.l1 (x2 : Int) (a0 : (List Int)) : Nat → Int → Int → Option Int
  | 0, _, _ => none
  | n + 1, x16, x17 =>
    if x17 < (((List.length a0) : Nat) : Int) then
      if 0 ≤ x17 ∧ x17 < (((List.length a0) : Nat) : Int) then
        if (List.getD a0 (Int.toNat x17) (0 : Int)) = x2 then
          some (IntKind.wrap .u32 (x16 + (1 : Int)))
        else
          halterref03_Of.l1 x2 a0 n x16 (IntKind.wrap .i64 (x17 + (1 : Int)))
      else none
    else
      some x16
def halterref03_Of.l1_S (x2 : Int) (a0 : (List Int)) (x16 : Int) (x17 : Int) : St := ⟨[.v (.one (.fs (.int .i64) a0 false)), .any, .any, .v (.one (.sc (.int .u32 x16))), .v (.one (.sc (.int .i64 x2))), .v (.one (.sc (.int .i64 x17))), .any, .any, .any, .any, .any, .any, .any, .any, .any, .any, .any, .any, .any, .any, .any, .any, .any, .any, .any, .any, .any], [], 0⟩
def halterref03_Of.l1_Q (x2 : Int) (a0 : (List Int)) (t : Int) : Exit → St → Prop := fun e s => e = (.exit 2) ∧ s = ⟨[.v (.one (.fs (.int .i64) a0 false)), .any, .any, .v (.one (.sc (.int .u32 t))), .v (.one (.sc (.int .i64 x2))), .any, .any, .any, .any, .any, .any, .any, .any, .any, .any, .any, .any, .any, .any, .any, .any, .any, .any, .any, .any, .any, .any], [], 0⟩
theorem halterref03_Of.l1_ok (x2 : Int) (a0 : (List Int)) : ∀ (n : Nat) (x16 : Int) (x17 : Int) (r : Int), halterref03_Of.l1 x2 a0 n x16 x17 = some r → TripN cfg (cpath (Tryd.f15.body.getD .skip) [1, 1, 0, 1, 0, 0, 1, 0, 0, 1, 1, 0, 0]) n (halterref03_Of.l1_S x2 a0 x16 x17) (halterref03_Of.l1_Q x2 a0 r) := by
  intro n
  induction n with
  | zero => intro x16 x17 r h; cases h
  | succ n ih =>
    intro x16 x17 r h
    rw [halterref03_Of.l1] at h
    refine TripN.of_run cfg_ok (k := (.br (.br (.adj [] (.adj [.keep [0, 3, 4], .drop 0] .nil)) (aE 2 (.adj [.keep [0, 3, 4, 5], .drop 0] .nil))) (.adj [.keep [0, 3, 4], .drop 0] .nil))) (to_goal (q := (True) ∧ (True) ∧ (((decide (x17 < (((List.length a0) : Nat) : Int))) = true → (0 ≤ x17 ∧ x17 < (((List.length a0) : Nat) : Int)) ∧ (True) ∧ (True) ∧ ((((List.getD a0 (Int.toNat x17) (0 : Int)) == x2) = true → (True ∧ (True) ∧ (((True) ∧ (True) ∧ True) ∧ halterref03_Of.l1_Q x2 a0 r (.exit 2) ⟨[.v (.one (.fs (.int .i64) a0 false)), .any, .any, .v (.one (.sc (.int .u32 (IntKind.wrap .u32 (x16 + (1 : Int)))))), .v (.one (.sc (.int .i64 x2))), .any, .any, .any, .any, .any, .any, .any, .any, .any, .any, .any, .any, .any, .any, .any, .any, .any, .any, .any, .any, .any, .any], [], 0⟩))) ∧ (((List.getD a0 (Int.toNat x17) (0 : Int)) == x2) = false → (True ∧ (True ∧ (True) ∧ (((True) ∧ (True) ∧ True) ∧ TripN cfg (cpath (Tryd.f15.body.getD .skip) [1, 1, 0, 1, 0, 0, 1, 0, 0, 1, 1, 0, 0]) n (halterref03_Of.l1_S x2 a0 x16 (IntKind.wrap .i64 (x17 + (1 : Int)))) (halterref03_Of.l1_Q x2 a0 r))))))) ∧ ((decide (x17 < (((List.length a0) : Nat) : Int))) = false → (((True) ∧ (True) ∧ True) ∧ halterref03_Of.l1_Q x2 a0 r (.exit 2) ⟨[.v (.one (.fs (.int .i64) a0 false)), .any, .any, .v (.one (.sc (.int .u32 x16))), .v (.one (.sc (.int .i64 x2))), .any, .any, .any, .any, .any, .any, .any, .any, .any, .any, .any, .any, .any, .any, .any, .any, .any, .any, .any, .any, .any, .any], [], 0⟩)))) (by kernel_rfl) ?_)
    refine ⟨trivial, trivial, ?_⟩
    refine ⟨fun b23 => ?_, fun b23 => ?_⟩
    · rw [if_pos (of_decide_eq_true b23)] at h
      obtain ⟨g25, h⟩ := of_guard h
      refine ⟨g25, ?_⟩
      refine ⟨trivial, trivial, ?_⟩
      refine ⟨fun b24 => ?_, fun b24 => ?_⟩
      · rw [if_pos (beq_t b24)] at h
        refine ⟨trivial, trivial, ?_⟩
        obtain rfl := Option.some.inj h
        exact ⟨⟨trivial, trivial, trivial⟩, rfl, rfl⟩
      · rw [if_neg (beq_f b24)] at h
        refine ⟨trivial, trivial, trivial, ?_⟩
        exact ⟨⟨trivial, trivial, trivial⟩, ih x16 (IntKind.wrap .i64 (x17 + (1 : Int))) r h⟩
    · rw [if_neg (of_decide_eq_false b23)] at h
      obtain rfl := Option.some.inj h
      exact ⟨⟨trivial, trivial, trivial⟩, rfl, rfl⟩
def halterref03_Of.l0 (a0 : (List Int)) : Nat → Int → Int → Option Int
  | 0, _, _ => none
  | n + 1, x1, x2 =>
    if x2 ≥ (1 : Int) then
      (halterref03_Of.l1 x2 a0 FUEL (IntKind.wrap .u32 ((2 : Int) * x1)) (0 : Int)).bind fun t22 =>
      halterref03_Of.l0 a0 n t22 (IntKind.wrap .i64 (x2 - (1 : Int)))
    else
      some x1
def halterref03_Of.l0_S (a0 : (List Int)) (x1 : Int) (x2 : Int) : St := ⟨[.v (.one (.fs (.int .i64) a0 false)), .any, .any, .v (.one (.sc (.int .u32 x1))), .v (.one (.sc (.int .i64 x2))), .any, .any, .any, .any, .any, .any, .any, .any, .any, .any, .any, .any, .any, .any, .any, .any, .any, .any, .any, .any, .any, .any], [], 0⟩
def halterref03_Of.l0_Q (a0 : (List Int)) (t : Int) : Exit → St → Prop := fun e s => e = (.exit 0) ∧ s = ⟨[.any, .any, .any, .v (.one (.sc (.int .u32 t))), .any, .any, .any, .any, .any, .any, .any, .any, .any, .any, .any, .any, .any, .any, .any, .any, .any, .any, .any, .any, .any, .any, .any], [], 0⟩
theorem halterref03_Of.l0_ok (a0 : (List Int)) : ∀ (n : Nat) (x1 : Int) (x2 : Int) (r : Int), halterref03_Of.l0 a0 n x1 x2 = some r → TripN cfg (cpath (Tryd.f15.body.getD .skip) [1, 1, 0, 1, 0, 0]) n (halterref03_Of.l0_S a0 x1 x2) (halterref03_Of.l0_Q a0 r) := by
  intro n
  induction n with
  | zero => intro x1 x2 r h; cases h
  | succ n ih =>
    intro x1 x2 r h
    rw [halterref03_Of.l0] at h
    refine TripN.of_run cfg_ok (k := (.br (aE 5 (.adj [.keep [0, 3, 4, 5]] (.sub (Int) (fun _ => (.exit 2)) (fun t22 => ⟨[.v (.one (.fs (.int .i64) a0 false)), .any, .any, .v (.one (.sc (.int .u32 t22))), .v (.one (.sc (.int .i64 x2))), .any, .any, .any, .any, .any, .any, .any, .any, .any, .any, .any, .any, .any, .any, .any, .any, .any, .any, .any, .any, .any, .any], [], 0⟩) (fun t22 => (.adj [] (.adj [.keep [0, 3, 4], .drop 0] .nil)))))) (.adj [.keep [3], .drop 0] .nil))) (to_goal (q := (True) ∧ (((decide (x2 ≥ (1 : Int))) = true → (True ∧ (True ∧ (True ∧ (True) ∧ (True ∧ (True ∧ (((True) ∧ True) ∧ (∃ t22 : Int, Trip cfg (.loop (cpath (Tryd.f15.body.getD .skip) [1, 1, 0, 1, 0, 0, 1, 0, 0, 1, 1, 0, 0])) ⟨[.v (.one (.fs (.int .i64) a0 false)), .any, .any, .v (.one (.sc (.int .u32 (IntKind.wrap .u32 ((2 : Int) * x1))))), .v (.one (.sc (.int .i64 x2))), .v (.one (.sc (.int .i64 (0 : Int)))), .any, .any, .any, .any, .any, .any, .any, .any, .any, .any, .any, .any, .any, .any, .any, .any, .any, .any, .any, .any, .any], [], 0⟩ (fun e s => e = (.exit 2) ∧ s = ⟨[.v (.one (.fs (.int .i64) a0 false)), .any, .any, .v (.one (.sc (.int .u32 t22))), .v (.one (.sc (.int .i64 x2))), .any, .any, .any, .any, .any, .any, .any, .any, .any, .any, .any, .any, .any, .any, .any, .any, .any, .any, .any, .any, .any, .any], [], 0⟩) ∧ (True ∧ (True) ∧ (((True) ∧ (True) ∧ True) ∧ TripN cfg (cpath (Tryd.f15.body.getD .skip) [1, 1, 0, 1, 0, 0]) n (halterref03_Of.l0_S a0 t22 (IntKind.wrap .i64 (x2 - (1 : Int)))) (halterref03_Of.l0_Q a0 r))))))))))) ∧ ((decide (x2 ≥ (1 : Int))) = false → (((True) ∧ (True) ∧ True) ∧ halterref03_Of.l0_Q a0 r (.exit 0) ⟨[.any, .any, .any, .v (.one (.sc (.int .u32 x1))), .any, .any, .any, .any, .any, .any, .any, .any, .any, .any, .any, .any, .any, .any, .any, .any, .any, .any, .any, .any, .any, .any, .any], [], 0⟩)))) (by kernel_rfl) ?_)
    refine ⟨trivial, ?_⟩
    refine ⟨fun b15 => ?_, fun b15 => ?_⟩
    · rw [if_pos (of_decide_eq_true b15)] at h
      refine ⟨trivial, trivial, trivial, trivial, trivial, trivial, ?_⟩
      obtain ⟨t22, ht22, h⟩ := of_bind h
      refine ⟨⟨trivial, trivial⟩, t22, Trip.loop FUEL (halterref03_Of.l1_ok x2 a0 FUEL (IntKind.wrap .u32 ((2 : Int) * x1)) (0 : Int) t22 ht22), ?_⟩
      refine ⟨trivial, trivial, ?_⟩
      exact ⟨⟨trivial, trivial, trivial⟩, ih t22 (IntKind.wrap .i64 (x2 - (1 : Int))) r h⟩
    · rw [if_neg (of_decide_eq_false b15)] at h
      obtain rfl := Option.some.inj h
      exact ⟨⟨trivial, trivial, trivial⟩, rfl, rfl⟩
def halterref03_Of.f (a0 : (List Int)) : Option Int :=
  (halterref03_Of.l0 a0 FUEL (0 : Int) (31 : Int)).bind fun t14 =>
  some t14
def halterref03_Of.R (r : Int) : Tm := .v (.one (.sc (.int .u32 r)))
theorem halterref03_Of.fun_ {a0 : (List Int)} {r : Int} (h : halterref03_Of.f a0 = some r) : Fun cfg 15 [.one (.fs (.int .i64) a0 false)] [] (halterref03_Of.R r) [] := by
  unfold halterref03_Of.f at h
  refine fun_of_run cfg_ok (f := 15) (fn := Tryd.f15) Tryd.func15 rfl (by kernel_rfl) (rs := [.tmp 2]) rfl (nt := 27) rfl (l := fin) (k := (aE 4 (.adj [.keep [0, 3, 4]] (.sub (Int) (fun _ => (.exit 0)) (fun t14 => ⟨[.any, .any, .any, .v (.one (.sc (.int .u32 t14))), .any, .any, .any, .any, .any, .any, .any, .any, .any, .any, .any, .any, .any, .any, .any, .any, .any, .any, .any, .any, .any, .any, .any], [], 0⟩) (fun t14 => (aE 3 .nil)))))) (to_goal (q := (True ∧ (True ∧ (True ∧ (True ∧ (((True) ∧ True) ∧ (∃ t14 : Int, Trip cfg (.loop (cpath (Tryd.f15.body.getD .skip) [1, 1, 0, 1, 0, 0])) ⟨[.v (.one (.fs (.int .i64) a0 false)), .any, .any, .v (.one (.sc (.int .u32 (0 : Int)))), .v (.one (.sc (.int .i64 (31 : Int)))), .any, .any, .any, .any, .any, .any, .any, .any, .any, .any, .any, .any, .any, .any, .any, .any, .any, .any, .any, .any, .any, .any], [], 0⟩ (fun e s => e = (.exit 0) ∧ s = ⟨[.any, .any, .any, .v (.one (.sc (.int .u32 t14))), .any, .any, .any, .any, .any, .any, .any, .any, .any, .any, .any, .any, .any, .any, .any, .any, .any, .any, .any, .any, .any, .any, .any], [], 0⟩) ∧ (True ∧ (True ∧ ((True) ∧ (True) ∧ (.v (.one (.sc (.int .u32 t14))) : Tm) = halterref03_Of.R r ∧ ([] : List Box) = [])))))))))) (by kernel_rfl) ?_)
  refine ⟨trivial, trivial, trivial, trivial, ?_⟩
  obtain ⟨t14, ht14, h⟩ := of_bind h
  refine ⟨⟨trivial, trivial⟩, t14, Trip.loop FUEL (halterref03_Of.l0_ok a0 FUEL (0 : Int) (31 : Int) t14 ht14), ?_⟩
  refine ⟨trivial, trivial, ?_⟩
  obtain rfl := Option.some.inj h
  exact ⟨trivial, trivial, rfl, rfl⟩
/-! halter/halterref03.Text -/
def halterref03_Text.l0 : Nat → Int → ByteArray → Int → Option ByteArray
  | 0, _, _, _ => none
  | n + 1, x3, x4, x5 =>
    if x5 < (8 : Int) then
      if ((0 ≤ (IntKind.wrap .u32 ((Int.tmod x3 (16 : Int)) + (1 : Int))) ∧ (IntKind.wrap .u32 ((Int.tmod x3 (16 : Int)) + (1 : Int))) ≤ (((ByteArray.size (⟨#[48, 49, 50, 51, 52, 53, 54, 55, 56, 57, 97, 98, 99, 100, 101, 102]⟩ : ByteArray)) : Nat) : Int))) ∧ ((0 ≤ (Int.tmod x3 (16 : Int)) ∧ (Int.tmod x3 (16 : Int)) ≤ (((Int.toNat (IntKind.wrap .u32 ((Int.tmod x3 (16 : Int)) + (1 : Int)))) : Nat) : Int))) then
        if ByteArray.size (ByteArray.extract (⟨#[48, 49, 50, 51, 52, 53, 54, 55, 56, 57, 97, 98, 99, 100, 101, 102]⟩ : ByteArray) (Int.toNat (Int.tmod x3 (16 : Int))) (Int.toNat (IntKind.wrap .u32 ((Int.tmod x3 (16 : Int)) + (1 : Int))))) + ByteArray.size x4 ≤ 9223372036854775807 then
          halterref03_Text.l0 n (IntKind.wrap .u32 (Int.tdiv x3 (16 : Int))) ((ByteArray.extract (⟨#[48, 49, 50, 51, 52, 53, 54, 55, 56, 57, 97, 98, 99, 100, 101, 102]⟩ : ByteArray) (Int.toNat (Int.tmod x3 (16 : Int))) (Int.toNat (IntKind.wrap .u32 ((Int.tmod x3 (16 : Int)) + (1 : Int))))) ++ x4) (IntKind.wrap .i64 (x5 + (1 : Int)))
        else none
      else none
    else
      some x4
def halterref03_Text.l0_S (x3 : Int) (x4 : ByteArray) (x5 : Int) : St := ⟨[.v (.one (.sc (.int .u32 x3))), .any, .any, .v (.one (.sc (.string x4))), .v (.one (.sc (.int .i64 x5))), .any, .any, .any, .any, .any, .any, .any, .any, .any, .any, .any, .any, .any, .any, .any, .any, .any, .any], [], 0⟩
def halterref03_Text.l0_Q (t : ByteArray) : Exit → St → Prop := fun e s => e = (.exit 0) ∧ s = ⟨[.any, .any, .any, .v (.one (.sc (.string t))), .any, .any, .any, .any, .any, .any, .any, .any, .any, .any, .any, .any, .any, .any, .any, .any, .any, .any, .any], [], 0⟩
theorem halterref03_Text.l0_ok : ∀ (n : Nat) (x3 : Int) (x4 : ByteArray) (x5 : Int) (r : ByteArray), halterref03_Text.l0 n x3 x4 x5 = some r → TripN cfg (cpath (Tryd.f24.body.getD .skip) [1, 1, 1, 0, 1, 0, 0]) n (halterref03_Text.l0_S x3 x4 x5) (halterref03_Text.l0_Q r) := by
  intro n
  induction n with
  | zero => intro x3 x4 x5 r h; cases h
  | succ n ih =>
    intro x3 x4 x5 r h
    rw [halterref03_Text.l0] at h
    refine TripN.of_run cfg_ok (k := (.br (aE 5 (.adj [.keep [0, 3, 4], .drop 0] .nil)) (.adj [.keep [3], .drop 0] .nil))) (to_goal (q := (True) ∧ (((decide (x5 < (8 : Int))) = true → (True ∧ (True ∧ (True ∧ ((16 : Int) ≠ 0) ∧ ((16 : Int) ≠ 0) ∧ (True) ∧ (((0 ≤ (IntKind.wrap .u32 ((Int.tmod x3 (16 : Int)) + (1 : Int))) ∧ (IntKind.wrap .u32 ((Int.tmod x3 (16 : Int)) + (1 : Int))) ≤ (((ByteArray.size (⟨#[48, 49, 50, 51, 52, 53, 54, 55, 56, 57, 97, 98, 99, 100, 101, 102]⟩ : ByteArray)) : Nat) : Int))) ∧ ((0 ≤ (Int.tmod x3 (16 : Int)) ∧ (Int.tmod x3 (16 : Int)) ≤ (((Int.toNat (IntKind.wrap .u32 ((Int.tmod x3 (16 : Int)) + (1 : Int)))) : Nat) : Int)))) ∧ (ByteArray.size (ByteArray.extract (⟨#[48, 49, 50, 51, 52, 53, 54, 55, 56, 57, 97, 98, 99, 100, 101, 102]⟩ : ByteArray) (Int.toNat (Int.tmod x3 (16 : Int))) (Int.toNat (IntKind.wrap .u32 ((Int.tmod x3 (16 : Int)) + (1 : Int))))) + ByteArray.size x4 ≤ 9223372036854775807) ∧ (True ∧ ((16 : Int) ≠ 0) ∧ (True ∧ (True) ∧ (((True) ∧ (True) ∧ True) ∧ TripN cfg (cpath (Tryd.f24.body.getD .skip) [1, 1, 1, 0, 1, 0, 0]) n (halterref03_Text.l0_S (IntKind.wrap .u32 (Int.tdiv x3 (16 : Int))) ((ByteArray.extract (⟨#[48, 49, 50, 51, 52, 53, 54, 55, 56, 57, 97, 98, 99, 100, 101, 102]⟩ : ByteArray) (Int.toNat (Int.tmod x3 (16 : Int))) (Int.toNat (IntKind.wrap .u32 ((Int.tmod x3 (16 : Int)) + (1 : Int))))) ++ x4) (IntKind.wrap .i64 (x5 + (1 : Int)))) (halterref03_Text.l0_Q r)))))))) ∧ ((decide (x5 < (8 : Int))) = false → (((True) ∧ (True) ∧ True) ∧ halterref03_Text.l0_Q r (.exit 0) ⟨[.any, .any, .any, .v (.one (.sc (.string x4))), .any, .any, .any, .any, .any, .any, .any, .any, .any, .any, .any, .any, .any, .any, .any, .any, .any, .any, .any], [], 0⟩)))) (by kernel_rfl) ?_)
    refine ⟨trivial, ?_⟩
    refine ⟨fun b11 => ?_, fun b11 => ?_⟩
    · rw [if_pos (of_decide_eq_true b11)] at h
      refine ⟨trivial, trivial, trivial, ?_⟩
      refine ⟨(by decide), ?_⟩
      refine ⟨(by decide), ?_⟩
      refine ⟨trivial, ?_⟩
      obtain ⟨g13, h⟩ := of_guard h
      refine ⟨g13, ?_⟩
      obtain ⟨g12, h⟩ := of_guard h
      refine ⟨g12, ?_⟩
      refine ⟨trivial, ?_⟩
      refine ⟨(by decide), ?_⟩
      refine ⟨trivial, trivial, ?_⟩
      exact ⟨⟨trivial, trivial, trivial⟩, ih (IntKind.wrap .u32 (Int.tdiv x3 (16 : Int))) ((ByteArray.extract (⟨#[48, 49, 50, 51, 52, 53, 54, 55, 56, 57, 97, 98, 99, 100, 101, 102]⟩ : ByteArray) (Int.toNat (Int.tmod x3 (16 : Int))) (Int.toNat (IntKind.wrap .u32 ((Int.tmod x3 (16 : Int)) + (1 : Int))))) ++ x4) (IntKind.wrap .i64 (x5 + (1 : Int))) r h⟩
    · rw [if_neg (of_decide_eq_false b11)] at h
      obtain rfl := Option.some.inj h
      exact ⟨⟨trivial, trivial, trivial⟩, rfl, rfl⟩
def halterref03_Text.f (a0 : Int) : Option ByteArray :=
  (halterref03_List.f a0).bind fun t1 =>
  (halterref03_Of.f t1).bind fun t2 =>
  (halterref03_Text.l0 FUEL t2 ByteArray.empty (0 : Int)).bind fun t10 =>
  some t10
def halterref03_Text.R (r : ByteArray) : Tm := .v (.one (.sc (.string r)))
theorem halterref03_Text.fun_ {a0 : Int} {r : ByteArray} (h : halterref03_Text.f a0 = some r) : Fun cfg 24 [.one (.sc (.int .u32 a0))] [] (halterref03_Text.R r) [] := by
  unfold halterref03_Text.f at h
  refine fun_of_run cfg_ok (f := 24) (fn := Tryd.f24) Tryd.func24 rfl (by kernel_rfl) (rs := [.tmp 2]) rfl (nt := 23) rfl (l := fin) (k := (.call true [] ((List Int)) halterref03_List.R (fun t1 => (.call true [] (Int) halterref03_Of.R (fun t2 => (aE 3 (.adj [.keep [0, 3, 4]] (.sub (ByteArray) (fun _ => (.exit 0)) (fun t10 => ⟨[.any, .any, .any, .v (.one (.sc (.string t10))), .any, .any, .any, .any, .any, .any, .any, .any, .any, .any, .any, .any, .any, .any, .any, .any, .any, .any, .any], [], 0⟩) (fun t10 => (aE 3 .nil)))))))))) (to_goal (q := (∃ t1 : (List Int), (Fun cfg 7 [.one (.sc (.int .u32 a0))] [] (halterref03_List.R t1) [] ∧ True) ∧ (∃ t2 : Int, (Fun cfg 15 [.one (.fs (.int .i64) t1 false)] [] (halterref03_Of.R t2) [] ∧ True) ∧ (True ∧ (True ∧ (True ∧ (((True) ∧ True) ∧ (∃ t10 : ByteArray, Trip cfg (.loop (cpath (Tryd.f24.body.getD .skip) [1, 1, 1, 0, 1, 0, 0])) ⟨[.v (.one (.sc (.int .u32 t2))), .any, .any, .v (.one (.sc (.string ByteArray.empty))), .v (.one (.sc (.int .i64 (0 : Int)))), .any, .any, .any, .any, .any, .any, .any, .any, .any, .any, .any, .any, .any, .any, .any, .any, .any, .any], [], 0⟩ (fun e s => e = (.exit 0) ∧ s = ⟨[.any, .any, .any, .v (.one (.sc (.string t10))), .any, .any, .any, .any, .any, .any, .any, .any, .any, .any, .any, .any, .any, .any, .any, .any, .any, .any, .any], [], 0⟩) ∧ (True ∧ (True ∧ ((True) ∧ (True) ∧ (.v (.one (.sc (.string t10))) : Tm) = halterref03_Text.R r ∧ ([] : List Box) = []))))))))))) (by kernel_rfl) ?_)
  obtain ⟨t1, ht1, h⟩ := of_bind h
  refine ⟨t1, ⟨halterref03_List.fun_ ht1, trivial⟩, ?_⟩
  obtain ⟨t2, ht2, h⟩ := of_bind h
  refine ⟨t2, ⟨halterref03_Of.fun_ ht2, trivial⟩, ?_⟩
  refine ⟨trivial, trivial, trivial, ?_⟩
  obtain ⟨t10, ht10, h⟩ := of_bind h
  refine ⟨⟨trivial, trivial⟩, t10, Trip.loop FUEL (halterref03_Text.l0_ok FUEL t2 ByteArray.empty (0 : Int) t10 ht10), ?_⟩
  refine ⟨trivial, trivial, ?_⟩
  obtain rfl := Option.some.inj h
  exact ⟨trivial, trivial, rfl, rfl⟩
/-! halter/halterlaw03.SetTexts -/
def halterlaw03_SetTexts.f (a0 : Int) (a1 : ByteArray) : Option Bool :=
  if ((ByteArray.size a1 : Nat) : Int) > (100 : Int) then
    halterlaw03_sure.f.bind fun t2 =>
    some t2
  else
    (sigset_Parse.f a1).bind fun t3 =>
    (halterref03_Parse.f a1).bind fun t4 =>
    (sigset_Text.f a0).bind fun t5 =>
    (halterref03_Text.f a0).bind fun t6 =>
    if t5 = t6 then
      if t3.1 = t4.1 then
        (num.f t3.2).bind fun t9 =>
        if t9 = t4.2 then
          halterlaw03_sure.f.bind fun t11 =>
          some t11
        else
          some false
      else
        some false
    else
      some false
def halterlaw03_SetTexts.R (r : Bool) : Tm := .v (.one (.sc (.bool r)))
theorem halterlaw03_SetTexts.fun_ {a0 : Int} {a1 : ByteArray} {r : Bool} (h : halterlaw03_SetTexts.f a0 a1 = some r) : Fun cfg 6 [.one (.sc (.int .u32 a0)), .one (.sc (.string a1))] [] (halterlaw03_SetTexts.R r) [] := by
  unfold halterlaw03_SetTexts.f at h
  refine fun_of_run cfg_ok (f := 6) (fn := Tryd.f6) Tryd.func6 rfl (by kernel_rfl) (rs := [.tmp 4]) rfl (nt := 42) rfl (l := fin) (k := (.br (.call true [] (Bool) halterlaw03_sure.R (fun t2 => (aE 2 .nil))) (.call true [] (Int × (Option Int)) sigset_Parse.R (fun t3 => (.call true [] (Int × Int) halterref03_Parse.R (fun t4 => (.call true [] (ByteArray) sigset_Text.R (fun t5 => (.call true [] (ByteArray) halterref03_Text.R (fun t6 => (.br (oT 3 (.br (.one true (.call true [] (Int) num.R (fun t9 => (oT 3 (.br (.call true [] (Bool) halterlaw03_sure.R (fun t11 => (.one true (aE 2 .nil)))) (.one false (aE 2 .nil))))))) (oF 6 (aE 2 .nil)))) (oF 10 (aE 2 .nil))))))))))))) (to_goal (q := (True) ∧ (True) ∧ (((decide (((ByteArray.size a1 : Nat) : Int) > (100 : Int))) = true → (∃ t2 : Bool, (Fun cfg 20 [] [] (halterlaw03_sure.R t2) [] ∧ True) ∧ (True ∧ ((True) ∧ (True) ∧ (.v (.one (.sc (.bool t2))) : Tm) = halterlaw03_SetTexts.R r ∧ ([] : List Box) = [])))) ∧ ((decide (((ByteArray.size a1 : Nat) : Int) > (100 : Int))) = false → (∃ t3 : Int × (Option Int), (Fun cfg 21 [.one (.sc (.string a1))] [] (sigset_Parse.R t3) [] ∧ True) ∧ (∃ t4 : Int × Int, (Fun cfg 23 [.one (.sc (.string a1))] [] (halterref03_Parse.R t4) [] ∧ True) ∧ (∃ t5 : ByteArray, (Fun cfg 22 [.one (.sc (.int .u32 a0))] [] (sigset_Text.R t5) [] ∧ True) ∧ (∃ t6 : ByteArray, (Fun cfg 24 [.one (.sc (.int .u32 a0))] [] (halterref03_Text.R t6) [] ∧ True) ∧ (True) ∧ (((t5.toList == t6.toList) = true → ((t5.toList == t6.toList) = true ∧ ((t5.toList == t6.toList) = true ∧ (True) ∧ ((t5.toList == t6.toList) = true ∧ (((t3.1 == t4.1) = true → ((t3.1 == t4.1) = true ∧ (∃ t9 : Int, (Fun cfg 25 [.one (.err t3.2)] [] (num.R t9) [] ∧ True) ∧ ((t3.1 == t4.1) = true ∧ ((t3.1 == t4.1) = true ∧ (True) ∧ ((t3.1 == t4.1) = true ∧ (((t9 == t4.2) = true → (∃ t11 : Bool, (Fun cfg 20 [] [] (halterlaw03_sure.R t11) [] ∧ True) ∧ ((t9 == t4.2) = true ∧ (True ∧ ((True) ∧ (True) ∧ (.v (.one (.sc (.bool t11))) : Tm) = halterlaw03_SetTexts.R r ∧ ([] : List Box) = []))))) ∧ ((t9 == t4.2) = false → ((t9 == t4.2) = false ∧ (True ∧ ((True) ∧ (True) ∧ (.v (.one (.sc (.bool false))) : Tm) = halterlaw03_SetTexts.R r ∧ ([] : List Box) = []))))))))))) ∧ ((t3.1 == t4.1) = false → ((t3.1 == t4.1) = false ∧ ((t3.1 == t4.1) = false ∧ ((t3.1 == t4.1) = false ∧ ((t3.1 == t4.1) = false ∧ (false = false ∧ (false = false ∧ (True ∧ ((True) ∧ (True) ∧ (.v (.one (.sc (.bool false))) : Tm) = halterlaw03_SetTexts.R r ∧ ([] : List Box) = [])))))))))))))) ∧ ((t5.toList == t6.toList) = false → ((t5.toList == t6.toList) = false ∧ ((t5.toList == t6.toList) = false ∧ ((t5.toList == t6.toList) = false ∧ (false = false ∧ (false = false ∧ (false = false ∧ (false = false ∧ (false = false ∧ (false = false ∧ (false = false ∧ (True ∧ ((True) ∧ (True) ∧ (.v (.one (.sc (.bool false))) : Tm) = halterlaw03_SetTexts.R r ∧ ([] : List Box) = []))))))))))))))))))))) (by kernel_rfl) ?_)
  refine ⟨trivial, trivial, ?_⟩
  refine ⟨fun b1 => ?_, fun b1 => ?_⟩
  · rw [if_pos (of_decide_eq_true b1)] at h
    obtain ⟨t2, ht2, h⟩ := of_bind h
    refine ⟨t2, ⟨halterlaw03_sure.fun_ ht2, trivial⟩, ?_⟩
    refine ⟨trivial, ?_⟩
    obtain rfl := Option.some.inj h
    exact ⟨trivial, trivial, rfl, rfl⟩
  · rw [if_neg (of_decide_eq_false b1)] at h
    obtain ⟨t3, ht3, h⟩ := of_bind h
    refine ⟨t3, ⟨sigset_Parse.fun_ ht3, trivial⟩, ?_⟩
    obtain ⟨t4, ht4, h⟩ := of_bind h
    refine ⟨t4, ⟨halterref03_Parse.fun_ ht4, trivial⟩, ?_⟩
    obtain ⟨t5, ht5, h⟩ := of_bind h
    refine ⟨t5, ⟨sigset_Text.fun_ ht5, trivial⟩, ?_⟩
    obtain ⟨t6, ht6, h⟩ := of_bind h
    refine ⟨t6, ⟨halterref03_Text.fun_ ht6, trivial⟩, ?_⟩
    refine ⟨trivial, ?_⟩
    refine ⟨fun b7 => ?_, fun b7 => ?_⟩
    · rw [if_pos (str_t b7)] at h
      refine ⟨b7, ?_⟩
      refine ⟨b7, ?_⟩
      refine ⟨trivial, ?_⟩
      refine ⟨b7, ?_⟩
      refine ⟨fun b8 => ?_, fun b8 => ?_⟩
      · rw [if_pos (beq_t b8)] at h
        refine ⟨b8, ?_⟩
        obtain ⟨t9, ht9, h⟩ := of_bind h
        refine ⟨t9, ⟨num.fun_ ht9, trivial⟩, ?_⟩
        refine ⟨b8, ?_⟩
        refine ⟨b8, ?_⟩
        refine ⟨trivial, ?_⟩
        refine ⟨b8, ?_⟩
        refine ⟨fun b10 => ?_, fun b10 => ?_⟩
        · rw [if_pos (beq_t b10)] at h
          obtain ⟨t11, ht11, h⟩ := of_bind h
          refine ⟨t11, ⟨halterlaw03_sure.fun_ ht11, trivial⟩, ?_⟩
          refine ⟨b10, ?_⟩
          refine ⟨trivial, ?_⟩
          obtain rfl := Option.some.inj h
          exact ⟨trivial, trivial, rfl, rfl⟩
        · rw [if_neg (beq_f b10)] at h
          refine ⟨b10, ?_⟩
          refine ⟨trivial, ?_⟩
          obtain rfl := Option.some.inj h
          exact ⟨trivial, trivial, rfl, rfl⟩
      · rw [if_neg (beq_f b8)] at h
        refine ⟨b8, ?_⟩
        refine ⟨b8, ?_⟩
        refine ⟨b8, ?_⟩
        refine ⟨b8, ?_⟩
        refine ⟨rfl, rfl, trivial, ?_⟩
        obtain rfl := Option.some.inj h
        exact ⟨trivial, trivial, rfl, rfl⟩
    · rw [if_neg (str_f b7)] at h
      refine ⟨b7, ?_⟩
      refine ⟨b7, ?_⟩
      refine ⟨b7, ?_⟩
      refine ⟨rfl, rfl, rfl, rfl, rfl, rfl, rfl, trivial, ?_⟩
      obtain rfl := Option.some.inj h
      exact ⟨trivial, trivial, rfl, rfl⟩
end Go.Proofs.YtndjiebeihcbgaaDoorGSetTexts
