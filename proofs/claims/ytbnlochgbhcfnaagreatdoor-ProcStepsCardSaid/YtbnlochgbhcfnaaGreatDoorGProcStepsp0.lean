/- Printed by gen.py: what functions of the program compute, in plain Lean, and that they do. -/
import Derived.Test.YtbnlochgbhcfnaaGreatDoorE15
import Derived.Test.YtbnlochgbhcfnaaGreatDoorN
set_option linter.unusedVariables false
set_option maxRecDepth 100000
set_option maxHeartbeats 4000000
namespace Go.Proofs.YtbnlochgbhcfnaaGreatDoorGProcSteps
open Go Go.Proofs.YtbnlochgbhcfnaaGreatDoorE
abbrev vi (k : IntKind) (x : Int) : Tm := .v (.one (.sc (.int k x)))
abbrev A : Tm := .any
abbrev U : Prop := True
theorem T : True := trivial
theorem tI {p : Prop} (h : p) : True ∧ p := ⟨trivial, h⟩
theorem dF_ {p : Prop} [h : Decidable p] : decide p = false → ¬ p := of_decide_eq_false
theorem dT_ {p : Prop} [h : Decidable p] : decide p = true → p := of_decide_eq_true
theorem oi {α : Type} {a b : α} (h : some a = some b) : a = b := Option.some.inj h
def tiL : List (Nat × TI) := [
  (3, ⟨1, 8, false, .int .i64, [.c (.sc (.int .i64 (0 : Int)))], some (.int .i64)⟩),
  (4, ⟨1, 1, false, .bool, [.c (.sc (.bool false))], some .bool⟩),
  (5, ⟨1, 1, false, .int .u8, [.c (.sc (.int .u8 (0 : Int)))], some (.int .u8)⟩),
  (9, ⟨1, 16, false, .str, [.c (.sc (.string ByteArray.empty))], some .str⟩),
  (22, ⟨1, 4, false, .int .u32, [.c (.sc (.int .u32 (0 : Int)))], some (.int .u32)⟩),
  (23, ⟨16, 64, true, (.array 16 22), [.row 16 (.int .u32) (List.replicate 16 (0 : Int))], some (.arr 16 (.int .u32))⟩),
  (24, ⟨1, 8, false, .int .u64, [.c (.sc (.int .u64 (0 : Int)))], some (.int .u64)⟩),
  (25, ⟨4, 32, true, (.array 4 24), [.row 4 (.int .u64) (List.replicate 4 (0 : Int))], some (.arr 4 (.int .u64))⟩),
  (27, ⟨22, 104, true, (.struct [(0, 23), (16, 22), (17, 22), (18, 25)]), [.row 16 (.int .u32) (List.replicate 16 (0 : Int)), .c (.sc (.int .u32 (0 : Int))), .c (.sc (.int .u32 (0 : Int))), .row 4 (.int .u64) (List.replicate 4 (0 : Int))], some (.pair (.arr 16 (.int .u32)) (.pair (.int .u32) (.pair (.int .u32) (.arr 4 (.int .u64)))))⟩),
  (28, ⟨8, 64, true, (.array 8 3), [.row 8 (.int .i64) (List.replicate 8 (0 : Int))], some (.arr 8 (.int .i64))⟩),
  (29, ⟨32, 128, true, (.array 32 22), [.row 32 (.int .u32) (List.replicate 32 (0 : Int))], some (.arr 32 (.int .u32))⟩),
  (31, ⟨34, 136, true, (.struct [(0, 22), (1, 22), (2, 29)]), [.c (.sc (.int .u32 (0 : Int))), .c (.sc (.int .u32 (0 : Int))), .row 32 (.int .u32) (List.replicate 32 (0 : Int))], some (.pair (.int .u32) (.pair (.int .u32) (.arr 32 (.int .u32))))⟩),
  (33, ⟨6, 40, true, (.struct [(0, 3), (1, 4), (2, 22), (3, 3), (4, 3), (5, 4)]), [.c (.sc (.int .i64 (0 : Int))), .c (.sc (.bool false)), .c (.sc (.int .u32 (0 : Int))), .c (.sc (.int .i64 (0 : Int))), .c (.sc (.int .i64 (0 : Int))), .c (.sc (.bool false))], some (.pair (.int .i64) (.pair .bool (.pair (.int .u32) (.pair (.int .i64) (.pair (.int .i64) .bool)))))⟩),
  (35, ⟨77, 400, true, (.struct [(0, 3), (1, 3), (2, 9), (3, 27), (25, 28), (33, 31), (67, 33), (73, 4), (74, 4), (75, 3), (76, 3)]), [.c (.sc (.int .i64 (0 : Int))), .c (.sc (.int .i64 (0 : Int))), .c (.sc (.string ByteArray.empty)), .row 16 (.int .u32) (List.replicate 16 (0 : Int)), .c (.sc (.int .u32 (0 : Int))), .c (.sc (.int .u32 (0 : Int))), .row 4 (.int .u64) (List.replicate 4 (0 : Int)), .row 8 (.int .i64) (List.replicate 8 (0 : Int)), .c (.sc (.int .u32 (0 : Int))), .c (.sc (.int .u32 (0 : Int))), .row 32 (.int .u32) (List.replicate 32 (0 : Int)), .c (.sc (.int .i64 (0 : Int))), .c (.sc (.bool false)), .c (.sc (.int .u32 (0 : Int))), .c (.sc (.int .i64 (0 : Int))), .c (.sc (.int .i64 (0 : Int))), .c (.sc (.bool false)), .c (.sc (.bool false)), .c (.sc (.bool false)), .c (.sc (.int .i64 (0 : Int))), .c (.sc (.int .i64 (0 : Int)))], some (.pair (.int .i64) (.pair (.int .i64) (.pair .str (.pair (.pair (.arr 16 (.int .u32)) (.pair (.int .u32) (.pair (.int .u32) (.arr 4 (.int .u64))))) (.pair (.arr 8 (.int .i64)) (.pair (.pair (.int .u32) (.pair (.int .u32) (.arr 32 (.int .u32)))) (.pair (.pair (.int .i64) (.pair .bool (.pair (.int .u32) (.pair (.int .i64) (.pair (.int .i64) .bool))))) (.pair .bool (.pair .bool (.pair (.int .i64) (.int .i64)))))))))))⟩),
  (36, ⟨3, 24, true, (.array 3 3), [.row 3 (.int .i64) (List.replicate 3 (0 : Int))], some (.arr 3 (.int .i64))⟩),
  (38, ⟨22, 104, true, (.struct [(0, 23), (16, 22), (17, 22), (18, 25)]), [.row 16 (.int .u32) (List.replicate 16 (0 : Int)), .c (.sc (.int .u32 (0 : Int))), .c (.sc (.int .u32 (0 : Int))), .row 4 (.int .u64) (List.replicate 4 (0 : Int))], some (.pair (.arr 16 (.int .u32)) (.pair (.int .u32) (.pair (.int .u32) (.arr 4 (.int .u64)))))⟩),
  (40, ⟨8, 64, true, (.struct [(0, 28)]), [.row 8 (.int .i64) (List.replicate 8 (0 : Int))], some (.arr 8 (.int .i64))⟩),
  (41, ⟨1, 4, false, .int .u32, [.c (.sc (.int .u32 (0 : Int)))], some (.int .u32)⟩),
  (43, ⟨34, 136, true, (.struct [(0, 41), (1, 41), (2, 29)]), [.c (.sc (.int .u32 (0 : Int))), .c (.sc (.int .u32 (0 : Int))), .row 32 (.int .u32) (List.replicate 32 (0 : Int))], some (.pair (.int .u32) (.pair (.int .u32) (.arr 32 (.int .u32))))⟩),
  (44, ⟨6, 40, true, (.struct [(0, 3), (1, 4), (2, 22), (3, 3), (4, 3), (5, 4)]), [.c (.sc (.int .i64 (0 : Int))), .c (.sc (.bool false)), .c (.sc (.int .u32 (0 : Int))), .c (.sc (.int .i64 (0 : Int))), .c (.sc (.int .i64 (0 : Int))), .c (.sc (.bool false))], some (.pair (.int .i64) (.pair .bool (.pair (.int .u32) (.pair (.int .i64) (.pair (.int .i64) .bool)))))⟩),
  (46, ⟨77, 400, true, (.struct [(0, 3), (1, 3), (2, 9), (3, 38), (25, 40), (33, 43), (67, 44), (73, 4), (74, 4), (75, 3), (76, 3)]), [.c (.sc (.int .i64 (0 : Int))), .c (.sc (.int .i64 (0 : Int))), .c (.sc (.string ByteArray.empty)), .row 16 (.int .u32) (List.replicate 16 (0 : Int)), .c (.sc (.int .u32 (0 : Int))), .c (.sc (.int .u32 (0 : Int))), .row 4 (.int .u64) (List.replicate 4 (0 : Int)), .row 8 (.int .i64) (List.replicate 8 (0 : Int)), .c (.sc (.int .u32 (0 : Int))), .c (.sc (.int .u32 (0 : Int))), .row 32 (.int .u32) (List.replicate 32 (0 : Int)), .c (.sc (.int .i64 (0 : Int))), .c (.sc (.bool false)), .c (.sc (.int .u32 (0 : Int))), .c (.sc (.int .i64 (0 : Int))), .c (.sc (.int .i64 (0 : Int))), .c (.sc (.bool false)), .c (.sc (.bool false)), .c (.sc (.bool false)), .c (.sc (.int .i64 (0 : Int))), .c (.sc (.int .i64 (0 : Int)))], some (.pair (.int .i64) (.pair (.int .i64) (.pair .str (.pair (.pair (.arr 16 (.int .u32)) (.pair (.int .u32) (.pair (.int .u32) (.arr 4 (.int .u64))))) (.pair (.arr 8 (.int .i64)) (.pair (.pair (.int .u32) (.pair (.int .u32) (.arr 32 (.int .u32)))) (.pair (.pair (.int .i64) (.pair .bool (.pair (.int .u32) (.pair (.int .i64) (.pair (.int .i64) .bool))))) (.pair .bool (.pair .bool (.pair (.int .i64) (.int .i64)))))))))))⟩),
  (49, ⟨1, 16, false, .iface, [.c (.err none)], none⟩),
  (70, ⟨1, 8, false, .int .i64, [.c (.sc (.int .i64 (0 : Int)))], some (.int .i64)⟩),
  (91, ⟨2, 16, true, (.array 2 3), [.row 2 (.int .i64) (List.replicate 2 (0 : Int))], some (.arr 2 (.int .i64))⟩),
  (116, ⟨1, 24, false, (.slice 3), [.c (.sc (.slice none 0 0))], some (.sl (.int .i64))⟩),
  (135, ⟨256, 256, true, (.array 256 4), [.row 256 .bool (List.replicate 256 false)], some (.arr 256 .bool)⟩),
  (144, ⟨32, 32, true, (.array 32 5), [.row 32 (.int .u8) (List.replicate 32 (0 : Int))], some (.arr 32 (.int .u8))⟩)]
def tab1 : List Int := [0, 1, 28, 2, 29, 14, 24, 3, 30, 22, 20, 15, 25, 17, 4, 8, 31, 27, 13, 23, 21, 19, 16, 7, 26, 12, 18, 6, 11, 5, 10, 9]
def tabs : List (Nat × IntKind × List Int) := [(1, .u8, tab1)]
noncomputable def cfg : Cfg := ⟨Tryz.prog, 70, [(⟨0, 0, none⟩, .iface 120 (.agg #[.pointer (some ⟨5, 49, none⟩)]))] ++ tabs.flatMap tabG, tiL, [44, 46, 43, 40, 38], tabs⟩
theorem cfg_ok : COk cfg := by
  refine ⟨fun p hp => ?_, by kernel_rfl, fun p hp => ?_, fun t ht => ?_, fun x hx y hy => List.mem_append_right _ (List.mem_flatMap.2 ⟨x, hx, hy⟩)⟩
  · simp only [cfg, tiL, List.mem_cons, List.not_mem_nil, or_false] at hp
    rcases hp with rfl | rfl | rfl | rfl | rfl | rfl | rfl | rfl | rfl | rfl | rfl | rfl | rfl | rfl | rfl | rfl | rfl | rfl | rfl | rfl | rfl | rfl | rfl | rfl | rfl | rfl | rfl <;> exact ⟨by kernel_rfl, by kernel_rfl, by kernel_rfl, by kernel_rfl, by kernel_rfl, by kernel_rfl⟩
  · simp only [cfg, tiL, List.mem_cons, List.not_mem_nil, or_false] at hp
    rcases hp with rfl | rfl | rfl | rfl | rfl | rfl | rfl | rfl | rfl | rfl | rfl | rfl | rfl | rfl | rfl | rfl | rfl | rfl | rfl | rfl | rfl | rfl | rfl | rfl | rfl | rfl | rfl <;> intro fs hfs bl hbl
    · cases hfs
    · cases hfs
    · cases hfs
    · cases hfs
    · cases hfs
    · cases hfs
    · cases hfs
    · cases hfs
    · cases hfs
      have e : fieldsZ cfg.L 0 [(0, 23), (16, 22), (17, 22), (18, 25)] = some [[.row 16 (.int .u32) (List.replicate 16 (0 : Int))], [.c (.sc (.int .u32 (0 : Int)))], [.c (.sc (.int .u32 (0 : Int)))], [.row 4 (.int .u64) (List.replicate 4 (0 : Int))]] := by kernel_rfl
      rw [e] at hbl
      cases hbl
      exact (by kernel_rfl : encPs (List.flatten [[.row 16 (.int .u32) (List.replicate 16 (0 : Int))], [.c (.sc (.int .u32 (0 : Int)))], [.c (.sc (.int .u32 (0 : Int)))], [.row 4 (.int .u64) (List.replicate 4 (0 : Int))]]) = encPs [.row 16 (.int .u32) (List.replicate 16 (0 : Int)), .c (.sc (.int .u32 (0 : Int))), .c (.sc (.int .u32 (0 : Int))), .row 4 (.int .u64) (List.replicate 4 (0 : Int))])
    · cases hfs
    · cases hfs
    · cases hfs
      have e : fieldsZ cfg.L 0 [(0, 22), (1, 22), (2, 29)] = some [[.c (.sc (.int .u32 (0 : Int)))], [.c (.sc (.int .u32 (0 : Int)))], [.row 32 (.int .u32) (List.replicate 32 (0 : Int))]] := by kernel_rfl
      rw [e] at hbl
      cases hbl
      exact (by kernel_rfl : encPs (List.flatten [[.c (.sc (.int .u32 (0 : Int)))], [.c (.sc (.int .u32 (0 : Int)))], [.row 32 (.int .u32) (List.replicate 32 (0 : Int))]]) = encPs [.c (.sc (.int .u32 (0 : Int))), .c (.sc (.int .u32 (0 : Int))), .row 32 (.int .u32) (List.replicate 32 (0 : Int))])
    · cases hfs
      have e : fieldsZ cfg.L 0 [(0, 3), (1, 4), (2, 22), (3, 3), (4, 3), (5, 4)] = some [[.c (.sc (.int .i64 (0 : Int)))], [.c (.sc (.bool false))], [.c (.sc (.int .u32 (0 : Int)))], [.c (.sc (.int .i64 (0 : Int)))], [.c (.sc (.int .i64 (0 : Int)))], [.c (.sc (.bool false))]] := by kernel_rfl
      rw [e] at hbl
      cases hbl
      exact (by kernel_rfl : encPs (List.flatten [[.c (.sc (.int .i64 (0 : Int)))], [.c (.sc (.bool false))], [.c (.sc (.int .u32 (0 : Int)))], [.c (.sc (.int .i64 (0 : Int)))], [.c (.sc (.int .i64 (0 : Int)))], [.c (.sc (.bool false))]]) = encPs [.c (.sc (.int .i64 (0 : Int))), .c (.sc (.bool false)), .c (.sc (.int .u32 (0 : Int))), .c (.sc (.int .i64 (0 : Int))), .c (.sc (.int .i64 (0 : Int))), .c (.sc (.bool false))])
    · cases hfs
      have e : fieldsZ cfg.L 0 [(0, 3), (1, 3), (2, 9), (3, 27), (25, 28), (33, 31), (67, 33), (73, 4), (74, 4), (75, 3), (76, 3)] = some [[.c (.sc (.int .i64 (0 : Int)))], [.c (.sc (.int .i64 (0 : Int)))], [.c (.sc (.string ByteArray.empty))], [.row 16 (.int .u32) (List.replicate 16 (0 : Int)), .c (.sc (.int .u32 (0 : Int))), .c (.sc (.int .u32 (0 : Int))), .row 4 (.int .u64) (List.replicate 4 (0 : Int))], [.row 8 (.int .i64) (List.replicate 8 (0 : Int))], [.c (.sc (.int .u32 (0 : Int))), .c (.sc (.int .u32 (0 : Int))), .row 32 (.int .u32) (List.replicate 32 (0 : Int))], [.c (.sc (.int .i64 (0 : Int))), .c (.sc (.bool false)), .c (.sc (.int .u32 (0 : Int))), .c (.sc (.int .i64 (0 : Int))), .c (.sc (.int .i64 (0 : Int))), .c (.sc (.bool false))], [.c (.sc (.bool false))], [.c (.sc (.bool false))], [.c (.sc (.int .i64 (0 : Int)))], [.c (.sc (.int .i64 (0 : Int)))]] := by kernel_rfl
      rw [e] at hbl
      cases hbl
      exact (by kernel_rfl : encPs (List.flatten [[.c (.sc (.int .i64 (0 : Int)))], [.c (.sc (.int .i64 (0 : Int)))], [.c (.sc (.string ByteArray.empty))], [.row 16 (.int .u32) (List.replicate 16 (0 : Int)), .c (.sc (.int .u32 (0 : Int))), .c (.sc (.int .u32 (0 : Int))), .row 4 (.int .u64) (List.replicate 4 (0 : Int))], [.row 8 (.int .i64) (List.replicate 8 (0 : Int))], [.c (.sc (.int .u32 (0 : Int))), .c (.sc (.int .u32 (0 : Int))), .row 32 (.int .u32) (List.replicate 32 (0 : Int))], [.c (.sc (.int .i64 (0 : Int))), .c (.sc (.bool false)), .c (.sc (.int .u32 (0 : Int))), .c (.sc (.int .i64 (0 : Int))), .c (.sc (.int .i64 (0 : Int))), .c (.sc (.bool false))], [.c (.sc (.bool false))], [.c (.sc (.bool false))], [.c (.sc (.int .i64 (0 : Int)))], [.c (.sc (.int .i64 (0 : Int)))]]) = encPs [.c (.sc (.int .i64 (0 : Int))), .c (.sc (.int .i64 (0 : Int))), .c (.sc (.string ByteArray.empty)), .row 16 (.int .u32) (List.replicate 16 (0 : Int)), .c (.sc (.int .u32 (0 : Int))), .c (.sc (.int .u32 (0 : Int))), .row 4 (.int .u64) (List.replicate 4 (0 : Int)), .row 8 (.int .i64) (List.replicate 8 (0 : Int)), .c (.sc (.int .u32 (0 : Int))), .c (.sc (.int .u32 (0 : Int))), .row 32 (.int .u32) (List.replicate 32 (0 : Int)), .c (.sc (.int .i64 (0 : Int))), .c (.sc (.bool false)), .c (.sc (.int .u32 (0 : Int))), .c (.sc (.int .i64 (0 : Int))), .c (.sc (.int .i64 (0 : Int))), .c (.sc (.bool false)), .c (.sc (.bool false)), .c (.sc (.bool false)), .c (.sc (.int .i64 (0 : Int))), .c (.sc (.int .i64 (0 : Int)))])
    · cases hfs
    · cases hfs
      have e : fieldsZ cfg.L 0 [(0, 23), (16, 22), (17, 22), (18, 25)] = some [[.row 16 (.int .u32) (List.replicate 16 (0 : Int))], [.c (.sc (.int .u32 (0 : Int)))], [.c (.sc (.int .u32 (0 : Int)))], [.row 4 (.int .u64) (List.replicate 4 (0 : Int))]] := by kernel_rfl
      rw [e] at hbl
      cases hbl
      exact (by kernel_rfl : encPs (List.flatten [[.row 16 (.int .u32) (List.replicate 16 (0 : Int))], [.c (.sc (.int .u32 (0 : Int)))], [.c (.sc (.int .u32 (0 : Int)))], [.row 4 (.int .u64) (List.replicate 4 (0 : Int))]]) = encPs [.row 16 (.int .u32) (List.replicate 16 (0 : Int)), .c (.sc (.int .u32 (0 : Int))), .c (.sc (.int .u32 (0 : Int))), .row 4 (.int .u64) (List.replicate 4 (0 : Int))])
    · cases hfs
      have e : fieldsZ cfg.L 0 [(0, 28)] = some [[.row 8 (.int .i64) (List.replicate 8 (0 : Int))]] := by kernel_rfl
      rw [e] at hbl
      cases hbl
      exact (by kernel_rfl : encPs (List.flatten [[.row 8 (.int .i64) (List.replicate 8 (0 : Int))]]) = encPs [.row 8 (.int .i64) (List.replicate 8 (0 : Int))])
    · cases hfs
    · cases hfs
      have e : fieldsZ cfg.L 0 [(0, 41), (1, 41), (2, 29)] = some [[.c (.sc (.int .u32 (0 : Int)))], [.c (.sc (.int .u32 (0 : Int)))], [.row 32 (.int .u32) (List.replicate 32 (0 : Int))]] := by kernel_rfl
      rw [e] at hbl
      cases hbl
      exact (by kernel_rfl : encPs (List.flatten [[.c (.sc (.int .u32 (0 : Int)))], [.c (.sc (.int .u32 (0 : Int)))], [.row 32 (.int .u32) (List.replicate 32 (0 : Int))]]) = encPs [.c (.sc (.int .u32 (0 : Int))), .c (.sc (.int .u32 (0 : Int))), .row 32 (.int .u32) (List.replicate 32 (0 : Int))])
    · cases hfs
      have e : fieldsZ cfg.L 0 [(0, 3), (1, 4), (2, 22), (3, 3), (4, 3), (5, 4)] = some [[.c (.sc (.int .i64 (0 : Int)))], [.c (.sc (.bool false))], [.c (.sc (.int .u32 (0 : Int)))], [.c (.sc (.int .i64 (0 : Int)))], [.c (.sc (.int .i64 (0 : Int)))], [.c (.sc (.bool false))]] := by kernel_rfl
      rw [e] at hbl
      cases hbl
      exact (by kernel_rfl : encPs (List.flatten [[.c (.sc (.int .i64 (0 : Int)))], [.c (.sc (.bool false))], [.c (.sc (.int .u32 (0 : Int)))], [.c (.sc (.int .i64 (0 : Int)))], [.c (.sc (.int .i64 (0 : Int)))], [.c (.sc (.bool false))]]) = encPs [.c (.sc (.int .i64 (0 : Int))), .c (.sc (.bool false)), .c (.sc (.int .u32 (0 : Int))), .c (.sc (.int .i64 (0 : Int))), .c (.sc (.int .i64 (0 : Int))), .c (.sc (.bool false))])
    · cases hfs
      have e : fieldsZ cfg.L 0 [(0, 3), (1, 3), (2, 9), (3, 38), (25, 40), (33, 43), (67, 44), (73, 4), (74, 4), (75, 3), (76, 3)] = some [[.c (.sc (.int .i64 (0 : Int)))], [.c (.sc (.int .i64 (0 : Int)))], [.c (.sc (.string ByteArray.empty))], [.row 16 (.int .u32) (List.replicate 16 (0 : Int)), .c (.sc (.int .u32 (0 : Int))), .c (.sc (.int .u32 (0 : Int))), .row 4 (.int .u64) (List.replicate 4 (0 : Int))], [.row 8 (.int .i64) (List.replicate 8 (0 : Int))], [.c (.sc (.int .u32 (0 : Int))), .c (.sc (.int .u32 (0 : Int))), .row 32 (.int .u32) (List.replicate 32 (0 : Int))], [.c (.sc (.int .i64 (0 : Int))), .c (.sc (.bool false)), .c (.sc (.int .u32 (0 : Int))), .c (.sc (.int .i64 (0 : Int))), .c (.sc (.int .i64 (0 : Int))), .c (.sc (.bool false))], [.c (.sc (.bool false))], [.c (.sc (.bool false))], [.c (.sc (.int .i64 (0 : Int)))], [.c (.sc (.int .i64 (0 : Int)))]] := by kernel_rfl
      rw [e] at hbl
      cases hbl
      exact (by kernel_rfl : encPs (List.flatten [[.c (.sc (.int .i64 (0 : Int)))], [.c (.sc (.int .i64 (0 : Int)))], [.c (.sc (.string ByteArray.empty))], [.row 16 (.int .u32) (List.replicate 16 (0 : Int)), .c (.sc (.int .u32 (0 : Int))), .c (.sc (.int .u32 (0 : Int))), .row 4 (.int .u64) (List.replicate 4 (0 : Int))], [.row 8 (.int .i64) (List.replicate 8 (0 : Int))], [.c (.sc (.int .u32 (0 : Int))), .c (.sc (.int .u32 (0 : Int))), .row 32 (.int .u32) (List.replicate 32 (0 : Int))], [.c (.sc (.int .i64 (0 : Int))), .c (.sc (.bool false)), .c (.sc (.int .u32 (0 : Int))), .c (.sc (.int .i64 (0 : Int))), .c (.sc (.int .i64 (0 : Int))), .c (.sc (.bool false))], [.c (.sc (.bool false))], [.c (.sc (.bool false))], [.c (.sc (.int .i64 (0 : Int)))], [.c (.sc (.int .i64 (0 : Int)))]]) = encPs [.c (.sc (.int .i64 (0 : Int))), .c (.sc (.int .i64 (0 : Int))), .c (.sc (.string ByteArray.empty)), .row 16 (.int .u32) (List.replicate 16 (0 : Int)), .c (.sc (.int .u32 (0 : Int))), .c (.sc (.int .u32 (0 : Int))), .row 4 (.int .u64) (List.replicate 4 (0 : Int)), .row 8 (.int .i64) (List.replicate 8 (0 : Int)), .c (.sc (.int .u32 (0 : Int))), .c (.sc (.int .u32 (0 : Int))), .row 32 (.int .u32) (List.replicate 32 (0 : Int)), .c (.sc (.int .i64 (0 : Int))), .c (.sc (.bool false)), .c (.sc (.int .u32 (0 : Int))), .c (.sc (.int .i64 (0 : Int))), .c (.sc (.int .i64 (0 : Int))), .c (.sc (.bool false)), .c (.sc (.bool false)), .c (.sc (.bool false)), .c (.sc (.int .i64 (0 : Int))), .c (.sc (.int .i64 (0 : Int)))])
    · cases hfs
    · cases hfs
    · cases hfs
    · cases hfs
    · cases hfs
    · cases hfs
  · simp only [cfg, List.mem_cons, List.not_mem_nil, or_false] at ht
    rcases ht with rfl | rfl | rfl | rfl | rfl <;> kernel_rfl
def fin : Scr → List Adj
  | .adj l _ => l
  | _ => []
abbrev TY0 : Type := Int × Int × ByteArray × (List Int) × Int × Int × (List Int) × (List Int) × Int × Int × (List Int) × Int × Bool × Int × Int × Int × Bool × Bool × Bool × Int × Int
abbrev TY1 : Type := Int × Int × ByteArray × (List Int) × Int × Int × (List Int) × (List Int) × Int × Int × (List Int) × Int × Bool × Int × Int × Int × Bool × Bool × Bool × Int × Int × (Option Int)
abbrev TY2 : Type := Int × Int × ByteArray × (List Int) × Int × Int × (List Int) × (List Int) × Int × Int × (List Int) × Int × Bool × Int × Int × Int × Bool × Bool × Bool × Int × Int × Int
abbrev p10 {a0 a1 a2 a3 a4 a5 a6 a7 a8 a9 a10 a11 : Type} (x : a0 × a1 × a2 × a3 × a4 × a5 × a6 × a7 × a8 × a9 × a10 × a11) : a10 := x.2.2.2.2.2.2.2.2.2.2.1
abbrev p11 {a0 a1 a2 a3 a4 a5 a6 a7 a8 a9 a10 a11 a12 : Type} (x : a0 × a1 × a2 × a3 × a4 × a5 × a6 × a7 × a8 × a9 × a10 × a11 × a12) : a11 := x.2.2.2.2.2.2.2.2.2.2.2.1
abbrev p12 {a0 a1 a2 a3 a4 a5 a6 a7 a8 a9 a10 a11 a12 a13 : Type} (x : a0 × a1 × a2 × a3 × a4 × a5 × a6 × a7 × a8 × a9 × a10 × a11 × a12 × a13) : a12 := x.2.2.2.2.2.2.2.2.2.2.2.2.1
abbrev p13 {a0 a1 a2 a3 a4 a5 a6 a7 a8 a9 a10 a11 a12 a13 a14 : Type} (x : a0 × a1 × a2 × a3 × a4 × a5 × a6 × a7 × a8 × a9 × a10 × a11 × a12 × a13 × a14) : a13 := x.2.2.2.2.2.2.2.2.2.2.2.2.2.1
abbrev p14 {a0 a1 a2 a3 a4 a5 a6 a7 a8 a9 a10 a11 a12 a13 a14 a15 : Type} (x : a0 × a1 × a2 × a3 × a4 × a5 × a6 × a7 × a8 × a9 × a10 × a11 × a12 × a13 × a14 × a15) : a14 := x.2.2.2.2.2.2.2.2.2.2.2.2.2.2.1
abbrev p15 {a0 a1 a2 a3 a4 a5 a6 a7 a8 a9 a10 a11 a12 a13 a14 a15 a16 : Type} (x : a0 × a1 × a2 × a3 × a4 × a5 × a6 × a7 × a8 × a9 × a10 × a11 × a12 × a13 × a14 × a15 × a16) : a15 := x.2.2.2.2.2.2.2.2.2.2.2.2.2.2.2.1
abbrev p16 {a0 a1 a2 a3 a4 a5 a6 a7 a8 a9 a10 a11 a12 a13 a14 a15 a16 a17 : Type} (x : a0 × a1 × a2 × a3 × a4 × a5 × a6 × a7 × a8 × a9 × a10 × a11 × a12 × a13 × a14 × a15 × a16 × a17) : a16 := x.2.2.2.2.2.2.2.2.2.2.2.2.2.2.2.2.1
abbrev p17 {a0 a1 a2 a3 a4 a5 a6 a7 a8 a9 a10 a11 a12 a13 a14 a15 a16 a17 a18 : Type} (x : a0 × a1 × a2 × a3 × a4 × a5 × a6 × a7 × a8 × a9 × a10 × a11 × a12 × a13 × a14 × a15 × a16 × a17 × a18) : a17 := x.2.2.2.2.2.2.2.2.2.2.2.2.2.2.2.2.2.1
abbrev p18 {a0 a1 a2 a3 a4 a5 a6 a7 a8 a9 a10 a11 a12 a13 a14 a15 a16 a17 a18 a19 : Type} (x : a0 × a1 × a2 × a3 × a4 × a5 × a6 × a7 × a8 × a9 × a10 × a11 × a12 × a13 × a14 × a15 × a16 × a17 × a18 × a19) : a18 := x.2.2.2.2.2.2.2.2.2.2.2.2.2.2.2.2.2.2.1
abbrev p19 {a0 a1 a2 a3 a4 a5 a6 a7 a8 a9 a10 a11 a12 a13 a14 a15 a16 a17 a18 a19 a20 : Type} (x : a0 × a1 × a2 × a3 × a4 × a5 × a6 × a7 × a8 × a9 × a10 × a11 × a12 × a13 × a14 × a15 × a16 × a17 × a18 × a19 × a20) : a19 := x.2.2.2.2.2.2.2.2.2.2.2.2.2.2.2.2.2.2.2.1
abbrev p2 {a0 a1 a2 a3 : Type} (x : a0 × a1 × a2 × a3) : a2 := x.2.2.1
abbrev p20 {a0 a1 a2 a3 a4 a5 a6 a7 a8 a9 a10 a11 a12 a13 a14 a15 a16 a17 a18 a19 a20 a21 : Type} (x : a0 × a1 × a2 × a3 × a4 × a5 × a6 × a7 × a8 × a9 × a10 × a11 × a12 × a13 × a14 × a15 × a16 × a17 × a18 × a19 × a20 × a21) : a20 := x.2.2.2.2.2.2.2.2.2.2.2.2.2.2.2.2.2.2.2.2.1
abbrev p3 {a0 a1 a2 a3 a4 : Type} (x : a0 × a1 × a2 × a3 × a4) : a3 := x.2.2.2.1
abbrev p4 {a0 a1 a2 a3 a4 a5 : Type} (x : a0 × a1 × a2 × a3 × a4 × a5) : a4 := x.2.2.2.2.1
abbrev p5 {a0 a1 a2 a3 a4 a5 a6 : Type} (x : a0 × a1 × a2 × a3 × a4 × a5 × a6) : a5 := x.2.2.2.2.2.1
abbrev p6 {a0 a1 a2 a3 a4 a5 a6 a7 : Type} (x : a0 × a1 × a2 × a3 × a4 × a5 × a6 × a7) : a6 := x.2.2.2.2.2.2.1
abbrev p7 {a0 a1 a2 a3 a4 a5 a6 a7 a8 : Type} (x : a0 × a1 × a2 × a3 × a4 × a5 × a6 × a7 × a8) : a7 := x.2.2.2.2.2.2.2.1
abbrev p8 {a0 a1 a2 a3 a4 a5 a6 a7 a8 a9 : Type} (x : a0 × a1 × a2 × a3 × a4 × a5 × a6 × a7 × a8 × a9) : a8 := x.2.2.2.2.2.2.2.2.1
abbrev p9 {a0 a1 a2 a3 a4 a5 a6 a7 a8 a9 a10 : Type} (x : a0 × a1 × a2 × a3 × a4 × a5 × a6 × a7 × a8 × a9 × a10) : a9 := x.2.2.2.2.2.2.2.2.2.1
abbrev z2 {a0 a1 a2 : Type} (x : a0 × a1 × a2) : a2 := x.2.2
abbrev z20 {a0 a1 a2 a3 a4 a5 a6 a7 a8 a9 a10 a11 a12 a13 a14 a15 a16 a17 a18 a19 a20 : Type} (x : a0 × a1 × a2 × a3 × a4 × a5 × a6 × a7 × a8 × a9 × a10 × a11 × a12 × a13 × a14 × a15 × a16 × a17 × a18 × a19 × a20) : a20 := x.2.2.2.2.2.2.2.2.2.2.2.2.2.2.2.2.2.2.2.2
abbrev z21 {a0 a1 a2 a3 a4 a5 a6 a7 a8 a9 a10 a11 a12 a13 a14 a15 a16 a17 a18 a19 a20 a21 : Type} (x : a0 × a1 × a2 × a3 × a4 × a5 × a6 × a7 × a8 × a9 × a10 × a11 × a12 × a13 × a14 × a15 × a16 × a17 × a18 × a19 × a20 × a21) : a21 := x.2.2.2.2.2.2.2.2.2.2.2.2.2.2.2.2.2.2.2.2.2
abbrev z3 {a0 a1 a2 a3 : Type} (x : a0 × a1 × a2 × a3) : a3 := x.2.2.2
/-! the error's number -/
def num.f (a0 : Option Int) : Option Int := some (a0.getD 0)
def num.R (r : Int) : Tm := vi .i64 r
theorem num.fun_ {a0 : Option Int} {r : Int} (h : num.f a0 = some r) : Fun cfg 14 [.one (.err a0)] [] (num.R r) [] := by
  refine Fun.of_below (f := 14) (fn := Tryz.f14) Tryz.func14 rfl (by kernel_rfl) (r := .int .i64 r) (fun X => ⟨⟨rfl, rfl⟩, rfl⟩) fun X vs hE hvs hG => ?_
  obtain ⟨v, us, rfl, hv, rfl⟩ := hvs
  have hv : v = errV X.E a0 := hv.1
  have he : errV cfg.E a0 = YtbnlochgbhcfnaaGreatDoorN.errW a0 := by cases a0 <;> rfl
  rw [hv, hE, he]
  exact YtbnlochgbhcfnaaGreatDoorN.num.calls a0 r X.w (hG _ (List.mem_append_left _ (List.mem_cons_self ..))) h
/-! halter/proc.begun -/
def proc_begun.f (a0 : Int) : Option ((List Int) × Int × Int × (List Int)) :=
  some ((List.set (List.replicate 16 (0 : Int)) 13 (1048576 : Int)), a0, (0 : Int), (List.replicate 4 (0 : Int)))
def proc_begun.R (r : (List Int) × Int × Int × (List Int)) : Tm := .v (.agg [.row 16 (.int .u32) r.1, .c (.sc (.int .u32 r.2.1)), .c (.sc (.int .u32 r.2.2.1)), .row 4 (.int .u64) r.2.2.2])
theorem proc_begun.fun_ {a0 : Int} {r : (List Int) × Int × Int × (List Int)} (h : proc_begun.f a0 = some r) : Fun cfg 26 [.one (.sc (.int .u32 a0))] [] (proc_begun.R r) [] := by
  unfold proc_begun.f at h
  refine fun_of_run cfg_ok (f := 26) (fn := Tryz.f26) Tryz.func26 rfl (by kernel_rfl) (rs := [.cell 2 38]) rfl (nt := 9) rfl (l := fin) (k := (aE 5 (.adj [.drop 0] .nil))) (to_goal (q := (U ∧ (U ∧ (U) ∧ (U ∧ (0 ≤ (13 : Int) ∧ (13 : Int) < ((16 : Nat) : Int)) ∧ (13 < 16) ∧ (U ∧ (U) ∧ (U) ∧ (U ∧ (((U) ∧ U) ∧ ((U) ∧ U) ∧ (.v (.agg [.row 16 (.int .u32) (List.set (List.replicate 16 (0 : Int)) 13 (1048576 : Int)), .c (.sc (.int .u32 a0)), .c (.sc (.int .u32 (0 : Int))), .row 4 (.int .u64) (List.replicate 4 (0 : Int))]) : Tm) = proc_begun.R r ∧ ([] : List Box) = []))))))) (by kernel_rfl) ?_)
  refine ⟨T, T, T, T, ?_⟩
  refine ⟨(by decide), ?_⟩
  refine ⟨(by decide), ?_⟩
  refine ⟨T, T, T, T, ?_⟩
  obtain rfl := oi h
  exact ⟨⟨T, T⟩, ⟨T, T⟩, rfl, rfl⟩
/-! halter/pids.Check -/
def pids_Check.f (a0 : Int) : Option (Option Int) :=
  if a0 < (1 : Int) then
    some (some (22 : Int))
  else
    if a0 > (99 : Int) then
      some (some (22 : Int))
    else
      some none
def pids_Check.R (r : (Option Int)) : Tm := .v (.one (.err r))
theorem pids_Check.fun_ {a0 : Int} {r : (Option Int)} (h : pids_Check.f a0 = some r) : Fun cfg 24 [.one (.sc (.int .i64 a0))] [] (pids_Check.R r) [] := by
  unfold pids_Check.f at h
  refine fun_of_run cfg_ok (f := 24) (fn := Tryz.f24) Tryz.func24 rfl (by kernel_rfl) (rs := [.tmp 2]) rfl (nt := 10) rfl (l := fin) (k := (.br (oT 3 (aE 3 .nil)) (oF 2 (.br (aE 3 .nil) (aE 4 .nil))))) (to_goal (q := (U) ∧ (((decide (a0 < (1 : Int))) = false → ((decide (a0 < (1 : Int))) = false ∧ (U) ∧ ((decide (a0 < (1 : Int))) = false ∧ (((decide (a0 > (99 : Int))) = true → (U ∧ (U ∧ ((U) ∧ (U) ∧ (.v (.one (.err (some (22 : Int)))) : Tm) = pids_Check.R r ∧ ([] : List Box) = [])))) ∧ ((decide (a0 > (99 : Int))) = false → (U ∧ (U ∧ (U ∧ ((U) ∧ (U) ∧ (.v (.one (.err none)) : Tm) = pids_Check.R r ∧ ([] : List Box) = []))))))))) ∧ ((decide (a0 < (1 : Int))) = true → ((decide (a0 < (1 : Int))) = true ∧ ((decide (a0 < (1 : Int))) = true ∧ (true = true ∧ (U ∧ (U ∧ ((U) ∧ (U) ∧ (.v (.one (.err (some (22 : Int)))) : Tm) = pids_Check.R r ∧ ([] : List Box) = []))))))))) (by kernel_rfl) ?_)
  refine tI ?_
  refine ⟨fun b1 => ?_, fun b1 => ?_⟩
  · rw [if_neg (dF_ b1)] at h
    refine ⟨b1, ?_⟩
    refine tI ?_
    refine ⟨b1, ?_⟩
    refine ⟨fun b2 => ?_, fun b2 => ?_⟩
    · rw [if_pos (dT_ b2)] at h
      refine ⟨T, T, ?_⟩
      obtain rfl := oi h
      exact ⟨T, T, rfl, rfl⟩
    · rw [if_neg (dF_ b2)] at h
      refine ⟨T, T, T, ?_⟩
      obtain rfl := oi h
      exact ⟨T, T, rfl, rfl⟩
  · rw [if_pos (dT_ b1)] at h
    refine ⟨b1, ?_⟩
    refine ⟨b1, ?_⟩
    refine ⟨rfl, T, T, ?_⟩
    obtain rfl := oi h
    exact ⟨T, T, rfl, rfl⟩
/-! halter/cred.Check -/
def cred_Check.f (a0 : Int) : Option (Option Int) :=
  if a0 < (0 : Int) then
    some (some (22 : Int))
  else
    if a0 > (65535 : Int) then
      some (some (22 : Int))
    else
      some none
def cred_Check.R (r : (Option Int)) : Tm := .v (.one (.err r))
theorem cred_Check.fun_ {a0 : Int} {r : (Option Int)} (h : cred_Check.f a0 = some r) : Fun cfg 34 [.one (.sc (.int .i64 a0))] [] (cred_Check.R r) [] := by
  unfold cred_Check.f at h
  refine fun_of_run cfg_ok (f := 34) (fn := Tryz.f34) Tryz.func34 rfl (by kernel_rfl) (rs := [.tmp 2]) rfl (nt := 10) rfl (l := fin) (k := (.br (oT 3 (aE 3 .nil)) (oF 2 (.br (aE 3 .nil) (aE 4 .nil))))) (to_goal (q := (U) ∧ (((decide (a0 < (0 : Int))) = false → ((decide (a0 < (0 : Int))) = false ∧ (U) ∧ ((decide (a0 < (0 : Int))) = false ∧ (((decide (a0 > (65535 : Int))) = true → (U ∧ (U ∧ ((U) ∧ (U) ∧ (.v (.one (.err (some (22 : Int)))) : Tm) = cred_Check.R r ∧ ([] : List Box) = [])))) ∧ ((decide (a0 > (65535 : Int))) = false → (U ∧ (U ∧ (U ∧ ((U) ∧ (U) ∧ (.v (.one (.err none)) : Tm) = cred_Check.R r ∧ ([] : List Box) = []))))))))) ∧ ((decide (a0 < (0 : Int))) = true → ((decide (a0 < (0 : Int))) = true ∧ ((decide (a0 < (0 : Int))) = true ∧ (true = true ∧ (U ∧ (U ∧ ((U) ∧ (U) ∧ (.v (.one (.err (some (22 : Int)))) : Tm) = cred_Check.R r ∧ ([] : List Box) = []))))))))) (by kernel_rfl) ?_)
  refine tI ?_
  refine ⟨fun b1 => ?_, fun b1 => ?_⟩
  · rw [if_neg (dF_ b1)] at h
    refine ⟨b1, ?_⟩
    refine tI ?_
    refine ⟨b1, ?_⟩
    refine ⟨fun b2 => ?_, fun b2 => ?_⟩
    · rw [if_pos (dT_ b2)] at h
      refine ⟨T, T, ?_⟩
      obtain rfl := oi h
      exact ⟨T, T, rfl, rfl⟩
    · rw [if_neg (dF_ b2)] at h
      refine ⟨T, T, T, ?_⟩
      obtain rfl := oi h
      exact ⟨T, T, rfl, rfl⟩
  · rw [if_pos (dT_ b1)] at h
    refine ⟨b1, ?_⟩
    refine ⟨b1, ?_⟩
    refine ⟨rfl, T, T, ?_⟩
    obtain rfl := oi h
    exact ⟨T, T, rfl, rfl⟩
/-! strings.makeASCIISet -/
def strings_makeASCIISet.l0 (a0 : ByteArray) : Nat → (List Bool) → Int → Option (((List Bool)) ⊕ ((List Bool)))
  | 0, _, _ => none
  | n + 1, x7, x8 =>
    if x8 < ((ByteArray.size a0 : Nat) : Int) then
      if 0 ≤ x8 ∧ x8 < (((ByteArray.size a0) : Nat) : Int) then
        if (bt a0 x8) ≥ (128 : Int) then
          some (.inr x7)
        else
          if 0 ≤ (bt a0 x8) ∧ (bt a0 x8) < ((256 : Nat) : Int) then
            if (Int.toNat (bt a0 x8)) < 256 then
              strings_makeASCIISet.l0 a0 n (List.set x7 (Int.toNat (bt a0 x8)) true) (IntKind.wrap .i64 (x8 + (1 : Int)))
            else none
          else none
      else none
    else
      some (.inl x7)
def strings_makeASCIISet.l0_S (a0 : ByteArray) (x7 : List Bool) (x8 : Int) : St := ⟨[.v (.one (.sc (.string a0))), A, .v (.one (.ptr 0 ⟨0, 0, 0, 0⟩)), A, vi .i64 x8, A, A, A, A, A, A, A, A, A, A, A, A, A, A, A, A], [.ex false [.row 256 .bool x7] 135], 0⟩
def strings_makeASCIISet.l0_Q (a0 : ByteArray) : ((List Bool)) ⊕ ((List Bool)) → Exit → St → Prop
  | .inl t => fun e s => e = (.exit 0) ∧ s = ⟨[A, A, .v (.one (.ptr 0 ⟨0, 0, 0, 0⟩)), A, A, A, A, A, A, A, A, A, A, A, A, A, A, A, A, A, A], [.ex false [.row 256 .bool t] 135], 0⟩
  | .inr t => fun e s => e = .ret ∧ s = ⟨[A, A, .v (.one (.ptr 0 ⟨0, 0, 0, 0⟩)), .v (.one (.sc (.bool false))), A, A, A, A, A, A, A, A, A, A, A, A, A, A, A, A, A], [.ex false [.row 256 .bool t] 135], 0⟩
theorem strings_makeASCIISet.l0_ok (a0 : ByteArray) : ∀ (n : Nat) (x7 : List Bool) (x8 : Int) (r : ((List Bool)) ⊕ ((List Bool))), strings_makeASCIISet.l0 a0 n x7 x8 = some r → TripN cfg (cpath (Tryz.f72.body.getD .skip) [1, 0, 1, 0, 0]) n (strings_makeASCIISet.l0_S a0 x7 x8) (strings_makeASCIISet.l0_Q a0 r) := by
  intro n
  induction n with
  | zero => intro x7 x8 r h; cases h
  | succ n ih =>
    intro x7 x8 r h
    rw [strings_makeASCIISet.l0] at h
    refine TripN.of_run cfg_ok (k := (.br (.br (.adj [] (.adj [.keep [2, 3], .drop 1] .nil)) (aE 3 (.adj [.keep [0, 2, 4], .drop 1] .nil))) (.adj [.keep [2], .drop 1] .nil))) (to_goal (q := (U) ∧ (U) ∧ (((decide (x8 < ((ByteArray.size a0 : Nat) : Int))) = true → (0 ≤ x8 ∧ x8 < (((ByteArray.size a0) : Nat) : Int)) ∧ (U) ∧ (((decide ((bt a0 x8) ≥ (128 : Int))) = true → (U ∧ (U) ∧ (U) ∧ (((U) ∧ (U) ∧ U) ∧ strings_makeASCIISet.l0_Q a0 r .ret ⟨[A, A, .v (.one (.ptr 0 ⟨0, 0, 0, 0⟩)), .v (.one (.sc (.bool false))), A, A, A, A, A, A, A, A, A, A, A, A, A, A, A, A, A], [.ex false [.row 256 .bool x7] 135], 0⟩))) ∧ ((decide ((bt a0 x8) ≥ (128 : Int))) = false → (U ∧ (U ∧ (0 ≤ (bt a0 x8) ∧ (bt a0 x8) < ((256 : Nat) : Int)) ∧ ((Int.toNat (bt a0 x8)) < 256) ∧ (U ∧ (U) ∧ (((U) ∧ (U) ∧ U) ∧ TripN cfg (cpath (Tryz.f72.body.getD .skip) [1, 0, 1, 0, 0]) n (strings_makeASCIISet.l0_S a0 (List.set x7 (Int.toNat (bt a0 x8)) true) (IntKind.wrap .i64 (x8 + (1 : Int)))) (strings_makeASCIISet.l0_Q a0 r)))))))) ∧ ((decide (x8 < ((ByteArray.size a0 : Nat) : Int))) = false → (((U) ∧ (U) ∧ U) ∧ strings_makeASCIISet.l0_Q a0 r (.exit 0) ⟨[A, A, .v (.one (.ptr 0 ⟨0, 0, 0, 0⟩)), A, A, A, A, A, A, A, A, A, A, A, A, A, A, A, A, A, A], [.ex false [.row 256 .bool x7] 135], 0⟩)))) (by kernel_rfl) ?_)
    refine ⟨T, T, ?_⟩
    refine ⟨fun b17 => ?_, fun b17 => ?_⟩
    · rw [if_pos (dT_ b17)] at h
      obtain ⟨g21, h⟩ := of_guard h
      refine ⟨g21, ?_⟩
      refine tI ?_
      refine ⟨fun b18 => ?_, fun b18 => ?_⟩
      · rw [if_pos (dT_ b18)] at h
        refine ⟨T, T, T, ?_⟩
        obtain rfl := oi h
        exact ⟨⟨T, T, T⟩, rfl, rfl⟩
      · rw [if_neg (dF_ b18)] at h
        refine ⟨T, T, ?_⟩
        obtain ⟨g20, h⟩ := of_guard h
        refine ⟨g20, ?_⟩
        obtain ⟨g19, h⟩ := of_guard h
        refine ⟨g19, ?_⟩
        refine ⟨T, T, ?_⟩
        exact ⟨⟨T, T, T⟩, ih (List.set x7 (Int.toNat (bt a0 x8)) true) (IntKind.wrap .i64 (x8 + (1 : Int))) r h⟩
    · rw [if_neg (dF_ b17)] at h
      obtain rfl := oi h
      exact ⟨⟨T, T, T⟩, rfl, rfl⟩
def strings_makeASCIISet.f (a0 : ByteArray) : Option ((List Bool) × Bool) :=
  (strings_makeASCIISet.l0 a0 FUEL (List.replicate 256 false) (0 : Int)).bind fun t16 =>
  match t16 with
  | .inl t24 =>
    some (t24, true)
  | .inr t26 =>
    some (t26, false)
def strings_makeASCIISet.R (r : (List Bool) × Bool) : Tm := .tup [.agg [.row 256 .bool r.1], .one (.sc (.bool r.2))]
theorem strings_makeASCIISet.fun_ {a0 : ByteArray} {r : (List Bool) × Bool} (h : strings_makeASCIISet.f a0 = some r) : Fun cfg 72 [.one (.sc (.string a0))] [] (strings_makeASCIISet.R r) [] := by
  unfold strings_makeASCIISet.f at h
  refine fun_of_run cfg_ok (f := 72) (fn := Tryz.f72) Tryz.func72 rfl (by kernel_rfl) (rs := [.cell 2 135, .tmp 3]) rfl (nt := 21) rfl (l := fin) (k := (aE 3 (.adj [.keep [0, 2, 4]] (.alt (.sub ((List Bool)) (fun _ => (.exit 0)) (fun t24 => ⟨[A, A, .v (.one (.ptr 0 ⟨0, 0, 0, 0⟩)), A, A, A, A, A, A, A, A, A, A, A, A, A, A, A, A, A, A], [.ex false [.row 256 .bool t24] 135], 0⟩) (fun t24 => (aE 2 (.adj [.drop 0] .nil)))) (.sub ((List Bool)) (fun _ => .ret) (fun t26 => ⟨[A, A, .v (.one (.ptr 0 ⟨0, 0, 0, 0⟩)), .v (.one (.sc (.bool false))), A, A, A, A, A, A, A, A, A, A, A, A, A, A, A, A, A], [.ex false [.row 256 .bool t26] 135], 0⟩) (fun t26 => (.adj [.drop 0] .nil))))))) (to_goal (q := (U ∧ (U ∧ (U ∧ (((U) ∧ U) ∧ ((∃ t24 : (List Bool), Trip cfg (.loop (cpath (Tryz.f72.body.getD .skip) [1, 0, 1, 0, 0])) ⟨[.v (.one (.sc (.string a0))), A, .v (.one (.ptr 0 ⟨0, 0, 0, 0⟩)), A, vi .i64 (0 : Int), A, A, A, A, A, A, A, A, A, A, A, A, A, A, A, A], [.ex false [.row 256 .bool (List.replicate 256 false)] 135], 0⟩ (fun e s => e = (.exit 0) ∧ s = ⟨[A, A, .v (.one (.ptr 0 ⟨0, 0, 0, 0⟩)), A, A, A, A, A, A, A, A, A, A, A, A, A, A, A, A, A, A], [.ex false [.row 256 .bool t24] 135], 0⟩) ∧ (U ∧ (U) ∧ (U) ∧ (U ∧ (((U) ∧ U) ∧ ((U) ∧ U) ∧ (.tup [.agg [.row 256 .bool t24], .one (.sc (.bool true))] : Tm) = strings_makeASCIISet.R r ∧ ([] : List Box) = [])))) ∨ (∃ t26 : (List Bool), Trip cfg (.loop (cpath (Tryz.f72.body.getD .skip) [1, 0, 1, 0, 0])) ⟨[.v (.one (.sc (.string a0))), A, .v (.one (.ptr 0 ⟨0, 0, 0, 0⟩)), A, vi .i64 (0 : Int), A, A, A, A, A, A, A, A, A, A, A, A, A, A, A, A], [.ex false [.row 256 .bool (List.replicate 256 false)] 135], 0⟩ (fun e s => e = .ret ∧ s = ⟨[A, A, .v (.one (.ptr 0 ⟨0, 0, 0, 0⟩)), .v (.one (.sc (.bool false))), A, A, A, A, A, A, A, A, A, A, A, A, A, A, A, A, A], [.ex false [.row 256 .bool t26] 135], 0⟩) ∧ (((U) ∧ U) ∧ ((U) ∧ U) ∧ (.tup [.agg [.row 256 .bool t26], .one (.sc (.bool false))] : Tm) = strings_makeASCIISet.R r ∧ ([] : List Box) = [])))))))) (by kernel_rfl) ?_)
  refine ⟨T, T, T, ?_⟩
  obtain ⟨t16, ht16, h⟩ := of_bind h
  refine ⟨⟨T, T⟩, ?_⟩
  rcases t16 with t24 | t26
  · dsimp only at h
    left
    refine ⟨t24, Trip.loop FUEL (strings_makeASCIISet.l0_ok a0 FUEL (List.replicate 256 false) (0 : Int) (.inl t24) ht16), ?_⟩
    refine ⟨T, T, T, T, ?_⟩
    obtain rfl := oi h
    exact ⟨⟨T, T⟩, ⟨T, T⟩, rfl, rfl⟩
  · dsimp only at h
    right
    refine ⟨t26, Trip.loop FUEL (strings_makeASCIISet.l0_ok a0 FUEL (List.replicate 256 false) (0 : Int) (.inr t26) ht16), ?_⟩
    obtain rfl := oi h
    exact ⟨⟨T, T⟩, ⟨T, T⟩, rfl, rfl⟩
/-! (*strings.asciiSet).contains -/
def strings_asciiSet_contains.f (a0 : Int) (a1 : (List Bool)) : Option Bool :=
  if 0 ≤ a0 ∧ a0 < ((256 : Nat) : Int) then
    if (Int.toNat a0) < 256 then
      some (List.getD a1 (Int.toNat a0) false)
    else none
  else none
def strings_asciiSet_contains.R (r : Bool) : Tm := .v (.one (.sc (.bool r)))
def strings_asciiSet_contains.B (a0 : Int) (a1 : (List Bool)) (r : Bool) : List Box := [.ex false [.row 256 .bool a1] 135]
theorem strings_asciiSet_contains.fun_ {a0 : Int} {a1 : (List Bool)} {r : Bool} (h : strings_asciiSet_contains.f a0 a1 = some r) : Fun cfg 77 [.one (.ptr 0 ⟨0, 0, 0, 0⟩), .one (.sc (.int .u8 a0))] [.ex false [.row 256 .bool a1] 135] (strings_asciiSet_contains.R r) (strings_asciiSet_contains.B a0 a1 r) := by
  unfold strings_asciiSet_contains.f at h
  refine fun_of_run cfg_ok (f := 77) (fn := Tryz.f77) Tryz.func77 rfl (by kernel_rfl) (rs := [.tmp 4]) rfl (nt := 10) rfl (l := fin) (k := (aE 4 .nil)) (to_goal (q := (U ∧ (U ∧ (0 ≤ a0 ∧ a0 < ((256 : Nat) : Int)) ∧ ((Int.toNat a0) < 256) ∧ (U ∧ ((U) ∧ (U) ∧ (.v (.one (.sc (.bool (List.getD a1 (Int.toNat a0) false)))) : Tm) = strings_asciiSet_contains.R r ∧ ([.ex false [.row 256 .bool a1] 135] : List Box) = strings_asciiSet_contains.B a0 a1 r))))) (by kernel_rfl) ?_)
  refine ⟨T, T, ?_⟩
  obtain ⟨g2, h⟩ := of_guard h
  refine ⟨g2, ?_⟩
  obtain ⟨g1, h⟩ := of_guard h
  refine ⟨g1, ?_⟩
  refine tI ?_
  obtain rfl := oi h
  exact ⟨T, T, rfl, rfl⟩
/-! strings.trimLeftASCII -/
def strings_trimLeftASCII.l0 (a1 : (List Bool)) : Nat → ByteArray → Option ByteArray
  | 0, _ => none
  | n + 1, x1 =>
    if ((ByteArray.size x1 : Nat) : Int) > (0 : Int) then
      if 0 ≤ (0 : Int) ∧ (0 : Int) < (((ByteArray.size x1) : Nat) : Int) then
        (strings_asciiSet_contains.f (bt x1 (0 : Int)) a1).bind fun t10 =>
        if ¬ (t10 = true) then
          some x1
        else
          if (U) ∧ ((0 ≤ (1 : Int) ∧ (1 : Int) ≤ (((ByteArray.size x1) : Nat) : Int))) then
            strings_trimLeftASCII.l0 a1 n (ByteArray.extract x1 1 (ByteArray.size x1))
          else none
      else none
    else
      some x1
def strings_trimLeftASCII.l0_S (a1 : (List Bool)) (x1 : ByteArray) : St := ⟨[.v (.one (.sc (.string x1))), .v (.one (.ptr 0 ⟨0, 0, 0, 0⟩)), A, A, A, A, A, A, A, A, A, A, A, A, A, A], [.ex false [.row 256 .bool a1] 135], 1⟩
def strings_trimLeftASCII.l0_Q (a1 : (List Bool)) (t : ByteArray) : Exit → St → Prop := fun e s => e = (.exit 0) ∧ s = ⟨[.v (.one (.sc (.string t))), A, A, A, A, A, A, A, A, A, A, A, A, A, A, A], [.ex false [.row 256 .bool a1] 135], 1⟩
theorem strings_trimLeftASCII.l0_ok (a1 : (List Bool)) : ∀ (n : Nat) (x1 : ByteArray) (r : ByteArray), strings_trimLeftASCII.l0 a1 n x1 = some r → TripN cfg (cpath (Tryz.f73.body.getD .skip) [1, 0, 0, 0]) n (strings_trimLeftASCII.l0_S a1 x1) (strings_trimLeftASCII.l0_Q a1 r) := by
  intro n
  induction n with
  | zero => intro x1 r h; cases h
  | succ n ih =>
    intro x1 r h
    rw [strings_trimLeftASCII.l0] at h
    refine TripN.of_run cfg_ok (k := (.br (.callR true [] [0] (Bool) (fun t10 => (strings_asciiSet_contains.R t10)) (fun t10 => (strings_asciiSet_contains.B (bt x1 (0 : Int)) a1 t10)) (fun t10 => (.br (.adj [.keep [0], .drop 1] .nil) (aE 2 (.adj [.keep [0, 1], .drop 1] .nil))))) (.adj [.keep [0], .drop 1] .nil))) (to_goal (q := (U) ∧ (U) ∧ (((decide (((ByteArray.size x1 : Nat) : Int) > (0 : Int))) = true → (0 ≤ (0 : Int) ∧ (0 : Int) < (((ByteArray.size x1) : Nat) : Int)) ∧ (∃ t10 : Bool, (Fun cfg 77 [.one (.ptr 0 ⟨0, 0, 0, 0⟩), .one (.sc (.int .u8 (bt x1 (0 : Int))))] [.ex false [.row 256 .bool a1] 135] (strings_asciiSet_contains.R t10) (strings_asciiSet_contains.B (bt x1 (0 : Int)) a1 t10) ∧ U) ∧ (((!t10) = true → (((U) ∧ (U) ∧ U) ∧ strings_trimLeftASCII.l0_Q a1 r (.exit 0) ⟨[.v (.one (.sc (.string x1))), A, A, A, A, A, A, A, A, A, A, A, A, A, A, A], [.ex false [.row 256 .bool a1] 135], 1⟩)) ∧ ((!t10) = false → (U ∧ (U ∧ ((U) ∧ ((0 ≤ (1 : Int) ∧ (1 : Int) ≤ (((ByteArray.size x1) : Nat) : Int)))) ∧ (((U) ∧ (U) ∧ U) ∧ TripN cfg (cpath (Tryz.f73.body.getD .skip) [1, 0, 0, 0]) n (strings_trimLeftASCII.l0_S a1 (ByteArray.extract x1 1 (ByteArray.size x1))) (strings_trimLeftASCII.l0_Q a1 r)))))))) ∧ ((decide (((ByteArray.size x1 : Nat) : Int) > (0 : Int))) = false → (((U) ∧ (U) ∧ U) ∧ strings_trimLeftASCII.l0_Q a1 r (.exit 0) ⟨[.v (.one (.sc (.string x1))), A, A, A, A, A, A, A, A, A, A, A, A, A, A, A], [.ex false [.row 256 .bool a1] 135], 1⟩)))) (by kernel_rfl) ?_)
    refine ⟨T, T, ?_⟩
    refine ⟨fun b9 => ?_, fun b9 => ?_⟩
    · rw [if_pos (dT_ b9)] at h
      obtain ⟨g13, h⟩ := of_guard h
      refine ⟨g13, ?_⟩
      obtain ⟨t10, ht10, h⟩ := of_bind h
      refine ⟨t10, ⟨strings_asciiSet_contains.fun_ ht10, T⟩, ?_⟩
      refine ⟨fun b11 => ?_, fun b11 => ?_⟩
      · rw [if_pos (ff (not_t b11))] at h
        obtain rfl := oi h
        exact ⟨⟨T, T, T⟩, rfl, rfl⟩
      · rw [if_neg (not_not_intro (not_f b11))] at h
        refine ⟨T, T, ?_⟩
        obtain ⟨g12, h⟩ := of_guard h
        refine ⟨g12, ?_⟩
        exact ⟨⟨T, T, T⟩, ih (ByteArray.extract x1 1 (ByteArray.size x1)) r h⟩
    · rw [if_neg (dF_ b9)] at h
      obtain rfl := oi h
      exact ⟨⟨T, T, T⟩, rfl, rfl⟩
def strings_trimLeftASCII.f (a0 : ByteArray) (a1 : (List Bool)) : Option ByteArray :=
  (strings_trimLeftASCII.l0 a1 FUEL a0).bind fun t8 =>
  some t8
def strings_trimLeftASCII.R (r : ByteArray) : Tm := .v (.one (.sc (.string r)))
def strings_trimLeftASCII.B (a0 : ByteArray) (a1 : (List Bool)) (r : ByteArray) : List Box := [.ex false [.row 256 .bool a1] 135]
theorem strings_trimLeftASCII.fun_ {a0 : ByteArray} {a1 : (List Bool)} {r : ByteArray} (h : strings_trimLeftASCII.f a0 a1 = some r) : Fun cfg 73 [.one (.sc (.string a0)), .one (.ptr 0 ⟨0, 0, 0, 0⟩)] [.ex false [.row 256 .bool a1] 135] (strings_trimLeftASCII.R r) (strings_trimLeftASCII.B a0 a1 r) := by
  unfold strings_trimLeftASCII.f at h
  refine fun_of_run cfg_ok (f := 73) (fn := Tryz.f73) Tryz.func73 rfl (by kernel_rfl) (rs := [.tmp 4]) rfl (nt := 16) rfl (l := fin) (k := (aE 2 (.adj [.keep [0, 1]] (.sub (ByteArray) (fun _ => (.exit 0)) (fun t8 => ⟨[.v (.one (.sc (.string t8))), A, A, A, A, A, A, A, A, A, A, A, A, A, A, A], [.ex false [.row 256 .bool a1] 135], 1⟩) (fun t8 => (aE 3 .nil)))))) (to_goal (q := (U ∧ (U ∧ (((U) ∧ U) ∧ (∃ t8 : ByteArray, Trip cfg (.loop (cpath (Tryz.f73.body.getD .skip) [1, 0, 0, 0])) ⟨[.v (.one (.sc (.string a0))), .v (.one (.ptr 0 ⟨0, 0, 0, 0⟩)), A, A, A, A, A, A, A, A, A, A, A, A, A, A], [.ex false [.row 256 .bool a1] 135], 1⟩ (fun e s => e = (.exit 0) ∧ s = ⟨[.v (.one (.sc (.string t8))), A, A, A, A, A, A, A, A, A, A, A, A, A, A, A], [.ex false [.row 256 .bool a1] 135], 1⟩) ∧ (U ∧ (U ∧ ((U) ∧ (U) ∧ (.v (.one (.sc (.string t8))) : Tm) = strings_trimLeftASCII.R r ∧ ([.ex false [.row 256 .bool a1] 135] : List Box) = strings_trimLeftASCII.B a0 a1 r)))))))) (by kernel_rfl) ?_)
  refine ⟨T, T, ?_⟩
  obtain ⟨t8, ht8, h⟩ := of_bind h
  refine ⟨⟨T, T⟩, t8, Trip.loop FUEL (strings_trimLeftASCII.l0_ok a1 FUEL a0 t8 ht8), ?_⟩
  refine ⟨T, T, ?_⟩
  obtain rfl := oi h
  exact ⟨T, T, rfl, rfl⟩
/-! strings.TrimLeft -/
def strings_TrimLeft.f (a0 : ByteArray) (a1 : ByteArray) : Option ByteArray :=
  if a0 = ByteArray.empty then
    some a0
  else
    if a1 = ByteArray.empty then
      some a0
    else
      if ((ByteArray.size a1 : Nat) : Int) = (1 : Int) then
        if 0 ≤ (0 : Int) ∧ (0 : Int) < (((ByteArray.size a1) : Nat) : Int) then
          if (bt a1 (0 : Int)) < (128 : Int) then
            if 0 ≤ (0 : Int) ∧ (0 : Int) < (((ByteArray.size a1) : Nat) : Int) then
              none
            else none
          else
            (strings_makeASCIISet.f a1).bind fun t6 =>
            if t6.2 = true then
              (strings_trimLeftASCII.f a0 t6.1).bind fun t8 =>
              some t8
            else
              none
        else none
      else
        (strings_makeASCIISet.f a1).bind fun t10 =>
        if t10.2 = true then
          (strings_trimLeftASCII.f a0 t10.1).bind fun t12 =>
          some t12
        else
          none
def strings_TrimLeft.R (r : ByteArray) : Tm := .v (.one (.sc (.string r)))
theorem strings_TrimLeft.fun_ {a0 : ByteArray} {a1 : ByteArray} {r : ByteArray} (h : strings_TrimLeft.f a0 a1 = some r) : Fun cfg 58 [.one (.sc (.string a0)), .one (.sc (.string a1))] [] (strings_TrimLeft.R r) [] := by
  unfold strings_TrimLeft.f at h
  refine fun_of_run cfg_ok (f := 58) (fn := Tryz.f58) Tryz.func58 rfl (by kernel_rfl) (rs := [.tmp 4]) rfl (nt := 37) rfl (l := fin) (k := (.br (oT 3 (aE 3 .nil)) (oF 2 (.br (aE 3 .nil) (.br (oT 3 (.br .nil (.call true [] ((List Bool) × Bool) strings_makeASCIISet.R (fun t6 => (.br (.callR true [] [0] (ByteArray) (fun t8 => (strings_trimLeftASCII.R t8)) (fun t8 => (strings_trimLeftASCII.B a0 t6.1 t8)) (fun t8 => (.adj [] (.adj [.drop 0] .nil)))) .nil))))) (oF 4 (.call true [] ((List Bool) × Bool) strings_makeASCIISet.R (fun t10 => (.br (.callR true [] [0] (ByteArray) (fun t12 => (strings_trimLeftASCII.R t12)) (fun t12 => (strings_trimLeftASCII.B a0 t10.1 t12)) (fun t12 => (.adj [] (.adj [.drop 0] .nil)))) .nil))))))))) (to_goal (q := (U) ∧ (((a0.toList == ByteArray.empty.toList) = false → ((a0.toList == ByteArray.empty.toList) = false ∧ (U) ∧ ((a0.toList == ByteArray.empty.toList) = false ∧ (((a1.toList == ByteArray.empty.toList) = true → (U ∧ (U ∧ ((U) ∧ (U) ∧ (.v (.one (.sc (.string a0))) : Tm) = strings_TrimLeft.R r ∧ ([] : List Box) = [])))) ∧ ((a1.toList == ByteArray.empty.toList) = false → (U) ∧ (U) ∧ (((((ByteArray.size a1 : Nat) : Int) == (1 : Int)) = true → ((((ByteArray.size a1 : Nat) : Int) == (1 : Int)) = true ∧ (0 ≤ (0 : Int) ∧ (0 : Int) < (((ByteArray.size a1) : Nat) : Int)) ∧ ((((ByteArray.size a1 : Nat) : Int) == (1 : Int)) = true ∧ (U) ∧ ((((ByteArray.size a1 : Nat) : Int) == (1 : Int)) = true ∧ (((decide ((bt a1 (0 : Int)) < (128 : Int))) = true → (0 ≤ (0 : Int) ∧ (0 : Int) < (((ByteArray.size a1) : Nat) : Int)) ∧ False) ∧ ((decide ((bt a1 (0 : Int)) < (128 : Int))) = false → (∃ t6 : (List Bool) × Bool, (Fun cfg 72 [.one (.sc (.string a1))] [] (strings_makeASCIISet.R t6) [] ∧ U) ∧ (U) ∧ ((t6.2 = true → (∃ t8 : ByteArray, (Fun cfg 73 [.one (.sc (.string a0)), .one (.ptr 0 ⟨0, 0, 0, 0⟩)] [.ex false [.row 256 .bool t6.1] 135] (strings_trimLeftASCII.R t8) (strings_trimLeftASCII.B a0 t6.1 t8) ∧ U) ∧ (U ∧ ((U) ∧ ((U) ∧ U) ∧ (.v (.one (.sc (.string t8))) : Tm) = strings_TrimLeft.R r ∧ ([] : List Box) = [])))) ∧ (t6.2 = false → False))))))))) ∧ ((((ByteArray.size a1 : Nat) : Int) == (1 : Int)) = false → ((((ByteArray.size a1 : Nat) : Int) == (1 : Int)) = false ∧ ((((ByteArray.size a1 : Nat) : Int) == (1 : Int)) = false ∧ ((((ByteArray.size a1 : Nat) : Int) == (1 : Int)) = false ∧ (false = false ∧ (∃ t10 : (List Bool) × Bool, (Fun cfg 72 [.one (.sc (.string a1))] [] (strings_makeASCIISet.R t10) [] ∧ U) ∧ (U) ∧ ((t10.2 = true → (∃ t12 : ByteArray, (Fun cfg 73 [.one (.sc (.string a0)), .one (.ptr 0 ⟨0, 0, 0, 0⟩)] [.ex false [.row 256 .bool t10.1] 135] (strings_trimLeftASCII.R t12) (strings_trimLeftASCII.B a0 t10.1 t12) ∧ U) ∧ (U ∧ ((U) ∧ ((U) ∧ U) ∧ (.v (.one (.sc (.string t12))) : Tm) = strings_TrimLeft.R r ∧ ([] : List Box) = [])))) ∧ (t10.2 = false → False)))))))))))))) ∧ ((a0.toList == ByteArray.empty.toList) = true → ((a0.toList == ByteArray.empty.toList) = true ∧ ((a0.toList == ByteArray.empty.toList) = true ∧ (true = true ∧ (U ∧ (U ∧ ((U) ∧ (U) ∧ (.v (.one (.sc (.string a0))) : Tm) = strings_TrimLeft.R r ∧ ([] : List Box) = []))))))))) (by kernel_rfl) ?_)
  refine tI ?_
  refine ⟨fun b1 => ?_, fun b1 => ?_⟩
  · rw [if_neg (str_f b1)] at h
    refine ⟨b1, ?_⟩
    refine tI ?_
    refine ⟨b1, ?_⟩
    refine ⟨fun b2 => ?_, fun b2 => ?_⟩
    · rw [if_pos (str_t b2)] at h
      refine ⟨T, T, ?_⟩
      obtain rfl := oi h
      exact ⟨T, T, rfl, rfl⟩
    · rw [if_neg (str_f b2)] at h
      refine ⟨T, T, ?_⟩
      refine ⟨fun b3 => ?_, fun b3 => ?_⟩
      · rw [if_pos (beq_t b3)] at h
        refine ⟨b3, ?_⟩
        obtain ⟨g9, h⟩ := of_guard h
        refine ⟨g9, ?_⟩
        refine ⟨b3, ?_⟩
        refine tI ?_
        refine ⟨b3, ?_⟩
        refine ⟨fun b4 => ?_, fun b4 => ?_⟩
        · rw [if_pos (dT_ b4)] at h
          obtain ⟨g5, h⟩ := of_guard h
          refine ⟨g5, ?_⟩
          cases h
        · rw [if_neg (dF_ b4)] at h
          obtain ⟨t6, ht6, h⟩ := of_bind h
          refine ⟨t6, ⟨strings_makeASCIISet.fun_ ht6, T⟩, ?_⟩
          refine tI ?_
          refine ⟨fun b7 => ?_, fun b7 => ?_⟩
          · rw [if_pos b7] at h
            obtain ⟨t8, ht8, h⟩ := of_bind h
            refine ⟨t8, ⟨strings_trimLeftASCII.fun_ ht8, T⟩, ?_⟩
            refine tI ?_
            obtain rfl := oi h
            exact ⟨T, ⟨T, T⟩, rfl, rfl⟩
          · rw [if_neg (ff b7)] at h
            cases h
      · rw [if_neg (beq_f b3)] at h
        refine ⟨b3, ?_⟩
        refine ⟨b3, ?_⟩
        refine ⟨b3, ?_⟩
        refine ⟨rfl, ?_⟩
        obtain ⟨t10, ht10, h⟩ := of_bind h
        refine ⟨t10, ⟨strings_makeASCIISet.fun_ ht10, T⟩, ?_⟩
        refine tI ?_
        refine ⟨fun b11 => ?_, fun b11 => ?_⟩
        · rw [if_pos b11] at h
          obtain ⟨t12, ht12, h⟩ := of_bind h
          refine ⟨t12, ⟨strings_trimLeftASCII.fun_ ht12, T⟩, ?_⟩
          refine tI ?_
          obtain rfl := oi h
          exact ⟨T, ⟨T, T⟩, rfl, rfl⟩
        · rw [if_neg (ff b11)] at h
          cases h
  · rw [if_pos (str_t b1)] at h
    refine ⟨b1, ?_⟩
    refine ⟨b1, ?_⟩
    refine ⟨rfl, T, T, ?_⟩
    obtain rfl := oi h
    exact ⟨T, T, rfl, rfl⟩
/-! halter/path.Check -/
def path_Check.f (a0 : ByteArray) : Option (Option Int) :=
  if a0 = ByteArray.empty then
    some (some (2 : Int))
  else
    if ((ByteArray.size a0 : Nat) : Int) > (16 : Int) then
      some (some (36 : Int))
    else
      (strings_TrimLeft.f a0 (⟨#[97, 98, 99, 100, 101, 102, 103, 104, 105, 106, 107, 108, 109, 110, 111, 112, 113, 114, 115, 116, 117, 118, 119, 120, 121, 122, 48, 49, 50, 51, 52, 53, 54, 55, 56, 57, 46, 95, 45]⟩ : ByteArray)).bind fun t3 =>
      if ¬ (t3 = ByteArray.empty) then
        some (some (22 : Int))
      else
        some none
def path_Check.R (r : (Option Int)) : Tm := .v (.one (.err r))
theorem path_Check.fun_ {a0 : ByteArray} {r : (Option Int)} (h : path_Check.f a0 = some r) : Fun cfg 35 [.one (.sc (.string a0))] [] (path_Check.R r) [] := by
  unfold path_Check.f at h
  refine fun_of_run cfg_ok (f := 35) (fn := Tryz.f35) Tryz.func35 rfl (by kernel_rfl) (rs := [.tmp 2]) rfl (nt := 17) rfl (l := fin) (k := (.br (aE 3 .nil) (.br (aE 3 .nil) (.call true [] (ByteArray) strings_TrimLeft.R (fun t3 => (.br (aE 3 .nil) (aE 4 .nil))))))) (to_goal (q := (U) ∧ (((a0.toList == ByteArray.empty.toList) = true → (U ∧ (U ∧ ((U) ∧ (U) ∧ (.v (.one (.err (some (2 : Int)))) : Tm) = path_Check.R r ∧ ([] : List Box) = [])))) ∧ ((a0.toList == ByteArray.empty.toList) = false → (U) ∧ (U) ∧ (((decide (((ByteArray.size a0 : Nat) : Int) > (16 : Int))) = true → (U ∧ (U ∧ ((U) ∧ (U) ∧ (.v (.one (.err (some (36 : Int)))) : Tm) = path_Check.R r ∧ ([] : List Box) = [])))) ∧ ((decide (((ByteArray.size a0 : Nat) : Int) > (16 : Int))) = false → (∃ t3 : ByteArray, (Fun cfg 58 [.one (.sc (.string a0)), .one (.sc (.string (⟨#[97, 98, 99, 100, 101, 102, 103, 104, 105, 106, 107, 108, 109, 110, 111, 112, 113, 114, 115, 116, 117, 118, 119, 120, 121, 122, 48, 49, 50, 51, 52, 53, 54, 55, 56, 57, 46, 95, 45]⟩ : ByteArray)))] [] (strings_TrimLeft.R t3) [] ∧ U) ∧ (U) ∧ (((!(t3.toList == ByteArray.empty.toList)) = true → (U ∧ (U ∧ ((U) ∧ (U) ∧ (.v (.one (.err (some (22 : Int)))) : Tm) = path_Check.R r ∧ ([] : List Box) = [])))) ∧ ((!(t3.toList == ByteArray.empty.toList)) = false → (U ∧ (U ∧ (U ∧ ((U) ∧ (U) ∧ (.v (.one (.err none)) : Tm) = path_Check.R r ∧ ([] : List Box) = [])))))))))))) (by kernel_rfl) ?_)
  refine tI ?_
  refine ⟨fun b1 => ?_, fun b1 => ?_⟩
  · rw [if_pos (str_t b1)] at h
    refine ⟨T, T, ?_⟩
    obtain rfl := oi h
    exact ⟨T, T, rfl, rfl⟩
  · rw [if_neg (str_f b1)] at h
    refine ⟨T, T, ?_⟩
    refine ⟨fun b2 => ?_, fun b2 => ?_⟩
    · rw [if_pos (dT_ b2)] at h
      refine ⟨T, T, ?_⟩
      obtain rfl := oi h
      exact ⟨T, T, rfl, rfl⟩
    · rw [if_neg (dF_ b2)] at h
      obtain ⟨t3, ht3, h⟩ := of_bind h
      refine ⟨t3, ⟨strings_TrimLeft.fun_ ht3, T⟩, ?_⟩
      refine tI ?_
      refine ⟨fun b4 => ?_, fun b4 => ?_⟩
      · rw [if_pos (str_f (not_t b4))] at h
        refine ⟨T, T, ?_⟩
        obtain rfl := oi h
        exact ⟨T, T, rfl, rfl⟩
      · rw [if_neg (not_not_intro (str_t (not_f b4)))] at h
        refine ⟨T, T, T, ?_⟩
        obtain rfl := oi h
        exact ⟨T, T, rfl, rfl⟩
/-! halter/regs.Check -/
def regs_Check.f (a0 : (List Int)) (a1 : Int) (a2 : Int) (a3 : (List Int)) : Option (Option Int) :=
  if a2 ≥ (32 : Int) then
    some (some (22 : Int))
  else
    some none
def regs_Check.R (r : (Option Int)) : Tm := .v (.one (.err r))
theorem regs_Check.fun_ {a0 : (List Int)} {a1 : Int} {a2 : Int} {a3 : (List Int)} {r : (Option Int)} (h : regs_Check.f a0 a1 a2 a3 = some r) : Fun cfg 36 [.agg [.row 16 (.int .u32) a0, .c (.sc (.int .u32 a1)), .c (.sc (.int .u32 a2)), .row 4 (.int .u64) a3]] [] (regs_Check.R r) [] := by
  unfold regs_Check.f at h
  refine fun_of_run cfg_ok (f := 36) (fn := Tryz.f36) Tryz.func36 rfl (by kernel_rfl) (rs := [.tmp 2]) rfl (nt := 7) rfl (l := fin) (k := (.br (aE 2 (.adj [.drop 0] .nil)) (aE 3 (.adj [.drop 0] .nil)))) (to_goal (q := (U) ∧ (U) ∧ (((decide (a2 ≥ (32 : Int))) = true → (U ∧ (U ∧ ((U) ∧ ((U) ∧ U) ∧ (.v (.one (.err (some (22 : Int)))) : Tm) = regs_Check.R r ∧ ([] : List Box) = [])))) ∧ ((decide (a2 ≥ (32 : Int))) = false → (U ∧ (U ∧ (U ∧ ((U) ∧ ((U) ∧ U) ∧ (.v (.one (.err none)) : Tm) = regs_Check.R r ∧ ([] : List Box) = []))))))) (by kernel_rfl) ?_)
  refine ⟨T, T, ?_⟩
  refine ⟨fun b1 => ?_, fun b1 => ?_⟩
  · rw [if_pos (dT_ b1)] at h
    refine ⟨T, T, ?_⟩
    obtain rfl := oi h
    exact ⟨T, ⟨T, T⟩, rfl, rfl⟩
  · rw [if_neg (dF_ b1)] at h
    refine ⟨T, T, T, ?_⟩
    obtain rfl := oi h
    exact ⟨T, ⟨T, T⟩, rfl, rfl⟩
/-! halter/fds.Check -/
def fds_Check.l0 (a0 : (List Int)) : Nat → Int → Option ((Unit) ⊕ (Unit))
  | 0, _ => none
  | n + 1, x1 =>
    if x1 < (8 : Int) then
      if 0 ≤ x1 ∧ x1 < ((8 : Nat) : Int) then
        if (List.getD a0 (Int.toNat x1) (0 : Int)) < (0 : Int) then
          some (.inr ())
        else
          if (List.getD a0 (Int.toNat x1) (0 : Int)) > (32 : Int) then
            some (.inr ())
          else
            fds_Check.l0 a0 n (IntKind.wrap .i64 (x1 + (1 : Int)))
      else none
    else
      some (.inl ())
def fds_Check.l0_S (a0 : (List Int)) (x1 : Int) : St := ⟨[A, A, A, A, A, A, .v (.agg [.row 8 (.int .i64) a0]), vi .i64 x1, A, A, A, A, A, A, A, A, A, A], [.ex false [.row 8 (.int .i64) a0] 40], 0⟩
def fds_Check.l0_Q (a0 : (List Int)) : (Unit) ⊕ (Unit) → Exit → St → Prop
  | .inl t => fun e s => e = (.exit 0) ∧ s = ⟨[A, A, A, A, A, A, A, A, A, A, A, A, A, A, A, A, A, A], [.ex false [.row 8 (.int .i64) a0] 40], 0⟩
  | .inr t => fun e s => e = .ret ∧ s = ⟨[A, A, .v (.one (.err (some (22 : Int)))), A, A, A, A, A, A, A, A, A, A, A, A, A, A, A], [.ex false [.row 8 (.int .i64) a0] 40], 0⟩
theorem fds_Check.l0_ok (a0 : (List Int)) : ∀ (n : Nat) (x1 : Int) (r : (Unit) ⊕ (Unit)), fds_Check.l0 a0 n x1 = some r → TripN cfg (cpath (Tryz.f37.body.getD .skip) [1, 0, 1, 0, 0]) n (fds_Check.l0_S a0 x1) (fds_Check.l0_Q a0 r) := by
  intro n
  induction n with
  | zero => intro x1 r h; cases h
  | succ n ih =>
    intro x1 r h
    rw [fds_Check.l0] at h
    refine TripN.of_run cfg_ok (k := (.br (.br (oT 3 (.adj [] (.adj [.keep [2], .drop 1] .nil))) (oF 2 (.br (.adj [] (.adj [.keep [2], .drop 1] .nil)) (aE 2 (.adj [.keep [6, 7], .drop 1] .nil))))) (.adj [.keep [], .drop 1] .nil))) (to_goal (q := (U) ∧ (((decide (x1 < (8 : Int))) = true → (0 ≤ x1 ∧ x1 < ((8 : Nat) : Int)) ∧ (U) ∧ (((decide ((List.getD a0 (Int.toNat x1) (0 : Int)) < (0 : Int))) = false → ((decide ((List.getD a0 (Int.toNat x1) (0 : Int)) < (0 : Int))) = false ∧ (U) ∧ ((decide ((List.getD a0 (Int.toNat x1) (0 : Int)) < (0 : Int))) = false ∧ (((decide ((List.getD a0 (Int.toNat x1) (0 : Int)) > (32 : Int))) = true → (U ∧ (((U) ∧ (U) ∧ U) ∧ fds_Check.l0_Q a0 r .ret ⟨[A, A, .v (.one (.err (some (22 : Int)))), A, A, A, A, A, A, A, A, A, A, A, A, A, A, A], [.ex false [.row 8 (.int .i64) a0] 40], 0⟩))) ∧ ((decide ((List.getD a0 (Int.toNat x1) (0 : Int)) > (32 : Int))) = false → (U ∧ (U ∧ (U) ∧ (((U) ∧ (U) ∧ U) ∧ TripN cfg (cpath (Tryz.f37.body.getD .skip) [1, 0, 1, 0, 0]) n (fds_Check.l0_S a0 (IntKind.wrap .i64 (x1 + (1 : Int)))) (fds_Check.l0_Q a0 r))))))))) ∧ ((decide ((List.getD a0 (Int.toNat x1) (0 : Int)) < (0 : Int))) = true → ((decide ((List.getD a0 (Int.toNat x1) (0 : Int)) < (0 : Int))) = true ∧ ((decide ((List.getD a0 (Int.toNat x1) (0 : Int)) < (0 : Int))) = true ∧ (true = true ∧ (U ∧ (((U) ∧ (U) ∧ U) ∧ fds_Check.l0_Q a0 r .ret ⟨[A, A, .v (.one (.err (some (22 : Int)))), A, A, A, A, A, A, A, A, A, A, A, A, A, A, A], [.ex false [.row 8 (.int .i64) a0] 40], 0⟩)))))))) ∧ ((decide (x1 < (8 : Int))) = false → (((U) ∧ (U) ∧ U) ∧ fds_Check.l0_Q a0 r (.exit 0) ⟨[A, A, A, A, A, A, A, A, A, A, A, A, A, A, A, A, A, A], [.ex false [.row 8 (.int .i64) a0] 40], 0⟩)))) (by kernel_rfl) ?_)
    refine tI ?_
    refine ⟨fun b7 => ?_, fun b7 => ?_⟩
    · rw [if_pos (dT_ b7)] at h
      obtain ⟨g10, h⟩ := of_guard h
      refine ⟨g10, ?_⟩
      refine tI ?_
      refine ⟨fun b8 => ?_, fun b8 => ?_⟩
      · rw [if_neg (dF_ b8)] at h
        refine ⟨b8, ?_⟩
        refine tI ?_
        refine ⟨b8, ?_⟩
        refine ⟨fun b9 => ?_, fun b9 => ?_⟩
        · rw [if_pos (dT_ b9)] at h
          refine tI ?_
          obtain rfl := oi h
          exact ⟨⟨T, T, T⟩, rfl, rfl⟩
        · rw [if_neg (dF_ b9)] at h
          refine ⟨T, T, T, ?_⟩
          exact ⟨⟨T, T, T⟩, ih (IntKind.wrap .i64 (x1 + (1 : Int))) r h⟩
      · rw [if_pos (dT_ b8)] at h
        refine ⟨b8, ?_⟩
        refine ⟨b8, ?_⟩
        refine ⟨rfl, T, ?_⟩
        obtain rfl := oi h
        exact ⟨⟨T, T, T⟩, rfl, rfl⟩
    · rw [if_neg (dF_ b7)] at h
      obtain rfl := oi h
      exact ⟨⟨T, T, T⟩, rfl, rfl⟩
def fds_Check.f (a0 : (List Int)) : Option (Option Int) :=
  (fds_Check.l0 a0 FUEL (0 : Int)).bind fun t6 =>
  match t6 with
  | .inl t11 =>
    some none
  | .inr t12 =>
    some (some (22 : Int))
def fds_Check.R (r : (Option Int)) : Tm := .v (.one (.err r))
theorem fds_Check.fun_ {a0 : (List Int)} {r : (Option Int)} (h : fds_Check.f a0 = some r) : Fun cfg 37 [.agg [.row 8 (.int .i64) a0]] [] (fds_Check.R r) [] := by
  unfold fds_Check.f at h
  refine fun_of_run cfg_ok (f := 37) (fn := Tryz.f37) Tryz.func37 rfl (by kernel_rfl) (rs := [.tmp 2]) rfl (nt := 18) rfl (l := fin) (k := (aE 3 (.adj [.keep [6, 7]] (.alt (.sub (Unit) (fun _ => (.exit 0)) (fun t11 => ⟨[A, A, A, A, A, A, A, A, A, A, A, A, A, A, A, A, A, A], [.ex false [.row 8 (.int .i64) a0] 40], 0⟩) (fun t11 => (aE 2 (.adj [.drop 0] .nil)))) (.sub (Unit) (fun _ => .ret) (fun t12 => ⟨[A, A, .v (.one (.err (some (22 : Int)))), A, A, A, A, A, A, A, A, A, A, A, A, A, A, A], [.ex false [.row 8 (.int .i64) a0] 40], 0⟩) (fun t12 => (.adj [.drop 0] .nil))))))) (to_goal (q := (U ∧ (U ∧ (U) ∧ (U ∧ (((U) ∧ U) ∧ ((∃ t11 : Unit, Trip cfg (.loop (cpath (Tryz.f37.body.getD .skip) [1, 0, 1, 0, 0])) ⟨[A, A, A, A, A, A, .v (.agg [.row 8 (.int .i64) a0]), vi .i64 (0 : Int), A, A, A, A, A, A, A, A, A, A], [.ex false [.row 8 (.int .i64) a0] 40], 0⟩ (fun e s => e = (.exit 0) ∧ s = ⟨[A, A, A, A, A, A, A, A, A, A, A, A, A, A, A, A, A, A], [.ex false [.row 8 (.int .i64) a0] 40], 0⟩) ∧ (U ∧ (U ∧ ((U) ∧ ((U) ∧ U) ∧ (.v (.one (.err none)) : Tm) = fds_Check.R r ∧ ([] : List Box) = [])))) ∨ (∃ t12 : Unit, Trip cfg (.loop (cpath (Tryz.f37.body.getD .skip) [1, 0, 1, 0, 0])) ⟨[A, A, A, A, A, A, .v (.agg [.row 8 (.int .i64) a0]), vi .i64 (0 : Int), A, A, A, A, A, A, A, A, A, A], [.ex false [.row 8 (.int .i64) a0] 40], 0⟩ (fun e s => e = .ret ∧ s = ⟨[A, A, .v (.one (.err (some (22 : Int)))), A, A, A, A, A, A, A, A, A, A, A, A, A, A, A], [.ex false [.row 8 (.int .i64) a0] 40], 0⟩) ∧ ((U) ∧ ((U) ∧ U) ∧ (.v (.one (.err (some (22 : Int)))) : Tm) = fds_Check.R r ∧ ([] : List Box) = [])))))))) (by kernel_rfl) ?_)
  refine ⟨T, T, T, T, ?_⟩
  obtain ⟨t6, ht6, h⟩ := of_bind h
  refine ⟨⟨T, T⟩, ?_⟩
  rcases t6 with t11 | t12
  · dsimp only at h
    left
    refine ⟨t11, Trip.loop FUEL (fds_Check.l0_ok a0 FUEL (0 : Int) (.inl t11) ht6), ?_⟩
    refine ⟨T, T, ?_⟩
    obtain rfl := oi h
    exact ⟨T, ⟨T, T⟩, rfl, rfl⟩
  · dsimp only at h
    right
    refine ⟨t12, Trip.loop FUEL (fds_Check.l0_ok a0 FUEL (0 : Int) (.inr t12) ht6), ?_⟩
    obtain rfl := oi h
    exact ⟨T, ⟨T, T⟩, rfl, rfl⟩
/-! halter/sig.Check -/
def sig_Check.f (a0 : Int) (a1 : Int) (a2 : (List Int)) : Option (Option Int) :=
  if ¬ (bits .and .u32 a1 (262400 : Int)) = (0 : Int) then
    some (some (22 : Int))
  else
    if ¬ (List.getD a2 0 (0 : Int)) = (0 : Int) then
      some (some (22 : Int))
    else
      if ¬ (List.getD a2 9 (0 : Int)) = (0 : Int) then
        some (some (22 : Int))
      else
        if ¬ (List.getD a2 19 (0 : Int)) = (0 : Int) then
          some (some (22 : Int))
        else
          if a0 > (2147483647 : Int) then
            some (some (22 : Int))
          else
            if a1 > (2147483647 : Int) then
              some (some (22 : Int))
            else
              some none
def sig_Check.R (r : (Option Int)) : Tm := .v (.one (.err r))
theorem sig_Check.fun_ {a0 : Int} {a1 : Int} {a2 : (List Int)} {r : (Option Int)} (h : sig_Check.f a0 a1 a2 = some r) : Fun cfg 38 [.agg [.c (.sc (.int .u32 a0)), .c (.sc (.int .u32 a1)), .row 32 (.int .u32) a2]] [] (sig_Check.R r) [] := by
  unfold sig_Check.f at h
  refine fun_of_run cfg_ok (f := 38) (fn := Tryz.f38) Tryz.func38 rfl (by kernel_rfl) (rs := [.tmp 2]) rfl (nt := 36) rfl (l := fin) (k := (.br (oT 23 (aE 2 (.adj [.drop 0] .nil))) (oF 4 (.br (oT 18 (aE 2 (.adj [.drop 0] .nil))) (oF 4 (.br (oT 13 (aE 2 (.adj [.drop 0] .nil))) (oF 4 (.br (oT 8 (aE 2 (.adj [.drop 0] .nil))) (oF 3 (.br (oT 4 (aE 2 (.adj [.drop 0] .nil))) (oF 3 (.br (aE 2 (.adj [.drop 0] .nil)) (aE 3 (.adj [.drop 0] .nil)))))))))))))) (to_goal (q := (U) ∧ (U) ∧ (U) ∧ ((((bits .and .u32 a1 (262400 : Int)) != (0 : Int)) = false → (((bits .and .u32 a1 (262400 : Int)) != (0 : Int)) = false ∧ (0 ≤ (0 : Int) ∧ (0 : Int) < ((32 : Nat) : Int)) ∧ (((bits .and .u32 a1 (262400 : Int)) != (0 : Int)) = false ∧ (0 < 32) ∧ (((bits .and .u32 a1 (262400 : Int)) != (0 : Int)) = false ∧ (U) ∧ (((bits .and .u32 a1 (262400 : Int)) != (0 : Int)) = false ∧ ((((List.getD a2 0 (0 : Int)) != (0 : Int)) = false → (((List.getD a2 0 (0 : Int)) != (0 : Int)) = false ∧ (0 ≤ (9 : Int) ∧ (9 : Int) < ((32 : Nat) : Int)) ∧ (((List.getD a2 0 (0 : Int)) != (0 : Int)) = false ∧ (9 < 32) ∧ (((List.getD a2 0 (0 : Int)) != (0 : Int)) = false ∧ (U) ∧ (((List.getD a2 0 (0 : Int)) != (0 : Int)) = false ∧ ((((List.getD a2 9 (0 : Int)) != (0 : Int)) = false → (((List.getD a2 9 (0 : Int)) != (0 : Int)) = false ∧ (0 ≤ (19 : Int) ∧ (19 : Int) < ((32 : Nat) : Int)) ∧ (((List.getD a2 9 (0 : Int)) != (0 : Int)) = false ∧ (19 < 32) ∧ (((List.getD a2 9 (0 : Int)) != (0 : Int)) = false ∧ (U) ∧ (((List.getD a2 9 (0 : Int)) != (0 : Int)) = false ∧ ((((List.getD a2 19 (0 : Int)) != (0 : Int)) = false → (((List.getD a2 19 (0 : Int)) != (0 : Int)) = false ∧ (U) ∧ (((List.getD a2 19 (0 : Int)) != (0 : Int)) = false ∧ (U) ∧ (((List.getD a2 19 (0 : Int)) != (0 : Int)) = false ∧ (((decide (a0 > (2147483647 : Int))) = false → ((decide (a0 > (2147483647 : Int))) = false ∧ (U) ∧ ((decide (a0 > (2147483647 : Int))) = false ∧ (U) ∧ ((decide (a0 > (2147483647 : Int))) = false ∧ (((decide (a1 > (2147483647 : Int))) = true → (U ∧ (U ∧ ((U) ∧ ((U) ∧ U) ∧ (.v (.one (.err (some (22 : Int)))) : Tm) = sig_Check.R r ∧ ([] : List Box) = [])))) ∧ ((decide (a1 > (2147483647 : Int))) = false → (U ∧ (U ∧ (U ∧ ((U) ∧ ((U) ∧ U) ∧ (.v (.one (.err none)) : Tm) = sig_Check.R r ∧ ([] : List Box) = [])))))))))) ∧ ((decide (a0 > (2147483647 : Int))) = true → ((decide (a0 > (2147483647 : Int))) = true ∧ ((decide (a0 > (2147483647 : Int))) = true ∧ ((decide (a0 > (2147483647 : Int))) = true ∧ (true = true ∧ (U ∧ (U ∧ ((U) ∧ ((U) ∧ U) ∧ (.v (.one (.err (some (22 : Int)))) : Tm) = sig_Check.R r ∧ ([] : List Box) = []))))))))))))) ∧ (((List.getD a2 19 (0 : Int)) != (0 : Int)) = true → (((List.getD a2 19 (0 : Int)) != (0 : Int)) = true ∧ (((List.getD a2 19 (0 : Int)) != (0 : Int)) = true ∧ (((List.getD a2 19 (0 : Int)) != (0 : Int)) = true ∧ (true = true ∧ (true = true ∧ (true = true ∧ (true = true ∧ (true = true ∧ (U ∧ (U ∧ ((U) ∧ ((U) ∧ U) ∧ (.v (.one (.err (some (22 : Int)))) : Tm) = sig_Check.R r ∧ ([] : List Box) = [])))))))))))))))))) ∧ (((List.getD a2 9 (0 : Int)) != (0 : Int)) = true → (((List.getD a2 9 (0 : Int)) != (0 : Int)) = true ∧ (((List.getD a2 9 (0 : Int)) != (0 : Int)) = true ∧ (((List.getD a2 9 (0 : Int)) != (0 : Int)) = true ∧ (((List.getD a2 9 (0 : Int)) != (0 : Int)) = true ∧ (true = true ∧ (true = true ∧ (true = true ∧ (true = true ∧ (true = true ∧ (true = true ∧ (true = true ∧ (true = true ∧ (true = true ∧ (U ∧ (U ∧ ((U) ∧ ((U) ∧ U) ∧ (.v (.one (.err (some (22 : Int)))) : Tm) = sig_Check.R r ∧ ([] : List Box) = []))))))))))))))))))))))) ∧ (((List.getD a2 0 (0 : Int)) != (0 : Int)) = true → (((List.getD a2 0 (0 : Int)) != (0 : Int)) = true ∧ (((List.getD a2 0 (0 : Int)) != (0 : Int)) = true ∧ (((List.getD a2 0 (0 : Int)) != (0 : Int)) = true ∧ (((List.getD a2 0 (0 : Int)) != (0 : Int)) = true ∧ (true = true ∧ (true = true ∧ (true = true ∧ (true = true ∧ (true = true ∧ (true = true ∧ (true = true ∧ (true = true ∧ (true = true ∧ (true = true ∧ (true = true ∧ (true = true ∧ (true = true ∧ (true = true ∧ (U ∧ (U ∧ ((U) ∧ ((U) ∧ U) ∧ (.v (.one (.err (some (22 : Int)))) : Tm) = sig_Check.R r ∧ ([] : List Box) = [])))))))))))))))))))))))))))) ∧ (((bits .and .u32 a1 (262400 : Int)) != (0 : Int)) = true → (((bits .and .u32 a1 (262400 : Int)) != (0 : Int)) = true ∧ (((bits .and .u32 a1 (262400 : Int)) != (0 : Int)) = true ∧ (((bits .and .u32 a1 (262400 : Int)) != (0 : Int)) = true ∧ (((bits .and .u32 a1 (262400 : Int)) != (0 : Int)) = true ∧ (true = true ∧ (true = true ∧ (true = true ∧ (true = true ∧ (true = true ∧ (true = true ∧ (true = true ∧ (true = true ∧ (true = true ∧ (true = true ∧ (true = true ∧ (true = true ∧ (true = true ∧ (true = true ∧ (true = true ∧ (true = true ∧ (true = true ∧ (true = true ∧ (true = true ∧ (U ∧ (U ∧ ((U) ∧ ((U) ∧ U) ∧ (.v (.one (.err (some (22 : Int)))) : Tm) = sig_Check.R r ∧ ([] : List Box) = []))))))))))))))))))))))))))))) (by kernel_rfl) ?_)
  refine ⟨T, T, T, ?_⟩
  refine ⟨fun b1 => ?_, fun b1 => ?_⟩
  · rw [if_neg (not_not_intro (bne_f b1))] at h
    refine ⟨b1, ?_⟩
    refine ⟨(by decide), ?_⟩
    refine ⟨b1, ?_⟩
    refine ⟨(by decide), ?_⟩
    refine ⟨b1, ?_⟩
    refine tI ?_
    refine ⟨b1, ?_⟩
    refine ⟨fun b2 => ?_, fun b2 => ?_⟩
    · rw [if_neg (not_not_intro (bne_f b2))] at h
      refine ⟨b2, ?_⟩
      refine ⟨(by decide), ?_⟩
      refine ⟨b2, ?_⟩
      refine ⟨(by decide), ?_⟩
      refine ⟨b2, ?_⟩
      refine tI ?_
      refine ⟨b2, ?_⟩
      refine ⟨fun b3 => ?_, fun b3 => ?_⟩
      · rw [if_neg (not_not_intro (bne_f b3))] at h
        refine ⟨b3, ?_⟩
        refine ⟨(by decide), ?_⟩
        refine ⟨b3, ?_⟩
        refine ⟨(by decide), ?_⟩
        refine ⟨b3, ?_⟩
        refine tI ?_
        refine ⟨b3, ?_⟩
        refine ⟨fun b4 => ?_, fun b4 => ?_⟩
        · rw [if_neg (not_not_intro (bne_f b4))] at h
          refine ⟨b4, ?_⟩
          refine tI ?_
          refine ⟨b4, ?_⟩
          refine tI ?_
          refine ⟨b4, ?_⟩
          refine ⟨fun b5 => ?_, fun b5 => ?_⟩
          · rw [if_neg (dF_ b5)] at h
            refine ⟨b5, ?_⟩
            refine tI ?_
            refine ⟨b5, ?_⟩
            refine tI ?_
            refine ⟨b5, ?_⟩
            refine ⟨fun b6 => ?_, fun b6 => ?_⟩
            · rw [if_pos (dT_ b6)] at h
              refine ⟨T, T, ?_⟩
              obtain rfl := oi h
              exact ⟨T, ⟨T, T⟩, rfl, rfl⟩
            · rw [if_neg (dF_ b6)] at h
              refine ⟨T, T, T, ?_⟩
              obtain rfl := oi h
              exact ⟨T, ⟨T, T⟩, rfl, rfl⟩
          · rw [if_pos (dT_ b5)] at h
            refine ⟨b5, ?_⟩
            refine ⟨b5, ?_⟩
            refine ⟨b5, ?_⟩
            refine ⟨rfl, T, T, ?_⟩
            obtain rfl := oi h
            exact ⟨T, ⟨T, T⟩, rfl, rfl⟩
        · rw [if_pos (bne_t b4)] at h
          refine ⟨b4, ?_⟩
          refine ⟨b4, ?_⟩
          refine ⟨b4, ?_⟩
          refine ⟨rfl, rfl, rfl, rfl, rfl, T, T, ?_⟩
          obtain rfl := oi h
          exact ⟨T, ⟨T, T⟩, rfl, rfl⟩
      · rw [if_pos (bne_t b3)] at h
        refine ⟨b3, ?_⟩
        refine ⟨b3, ?_⟩
        refine ⟨b3, ?_⟩
        refine ⟨b3, ?_⟩
        refine ⟨rfl, rfl, rfl, rfl, rfl, rfl, rfl, rfl, rfl, T, T, ?_⟩
        obtain rfl := oi h
        exact ⟨T, ⟨T, T⟩, rfl, rfl⟩
    · rw [if_pos (bne_t b2)] at h
      refine ⟨b2, ?_⟩
      refine ⟨b2, ?_⟩
      refine ⟨b2, ?_⟩
      refine ⟨b2, ?_⟩
      refine ⟨rfl, rfl, rfl, rfl, rfl, rfl, rfl, rfl, rfl, rfl, rfl, rfl, rfl, rfl, T, T, ?_⟩
      obtain rfl := oi h
      exact ⟨T, ⟨T, T⟩, rfl, rfl⟩
  · rw [if_pos (bne_t b1)] at h
    refine ⟨b1, ?_⟩
    refine ⟨b1, ?_⟩
    refine ⟨b1, ?_⟩
    refine ⟨b1, ?_⟩
    refine ⟨rfl, rfl, rfl, rfl, rfl, rfl, rfl, rfl, rfl, rfl, rfl, rfl, rfl, rfl, rfl, rfl, rfl, rfl, rfl, T, T, ?_⟩
    obtain rfl := oi h
    exact ⟨T, ⟨T, T⟩, rfl, rfl⟩
/-! halter/trace.mode -/
def trace_mode.f (a0 : Int) : Option Bool :=
  if a0 ≥ (0 : Int) then
    some (decide (a0 ≤ (2 : Int)))
  else
    some false
def trace_mode.R (r : Bool) : Tm := .v (.one (.sc (.bool r)))
theorem trace_mode.fun_ {a0 : Int} {r : Bool} (h : trace_mode.f a0 = some r) : Fun cfg 59 [.one (.sc (.int .i64 a0))] [] (trace_mode.R r) [] := by
  unfold trace_mode.f at h
  refine fun_of_run cfg_ok (f := 59) (fn := Tryz.f59) Tryz.func59 rfl (by kernel_rfl) (rs := [.tmp 2]) rfl (nt := 9) rfl (l := fin) (k := (.br (oT 2 (aE 2 .nil)) (oF 2 (aE 2 .nil)))) (to_goal (q := (U) ∧ (((decide (a0 ≥ (0 : Int))) = true → ((decide (a0 ≥ (0 : Int))) = true ∧ (U) ∧ ((decide (a0 ≥ (0 : Int))) = true ∧ (U ∧ ((U) ∧ (U) ∧ (.v (.one (.sc (.bool (decide (a0 ≤ (2 : Int)))))) : Tm) = trace_mode.R r ∧ ([] : List Box) = []))))) ∧ ((decide (a0 ≥ (0 : Int))) = false → ((decide (a0 ≥ (0 : Int))) = false ∧ ((decide (a0 ≥ (0 : Int))) = false ∧ (U ∧ ((U) ∧ (U) ∧ (.v (.one (.sc (.bool false))) : Tm) = trace_mode.R r ∧ ([] : List Box) = []))))))) (by kernel_rfl) ?_)
  refine tI ?_
  refine ⟨fun b1 => ?_, fun b1 => ?_⟩
  · rw [if_pos (dT_ b1)] at h
    refine ⟨b1, ?_⟩
    refine tI ?_
    refine ⟨b1, ?_⟩
    refine tI ?_
    obtain rfl := oi h
    exact ⟨T, T, rfl, rfl⟩
  · rw [if_neg (dF_ b1)] at h
    refine ⟨b1, ?_⟩
    refine ⟨b1, ?_⟩
    refine tI ?_
    obtain rfl := oi h
    exact ⟨T, T, rfl, rfl⟩
/-! halter/trace.signal -/
def trace_signal.f (a0 : Int) : Option Bool :=
  if a0 ≥ (0 : Int) then
    some (decide (a0 ≤ (31 : Int)))
  else
    some false
def trace_signal.R (r : Bool) : Tm := .v (.one (.sc (.bool r)))
theorem trace_signal.fun_ {a0 : Int} {r : Bool} (h : trace_signal.f a0 = some r) : Fun cfg 60 [.one (.sc (.int .i64 a0))] [] (trace_signal.R r) [] := by
  unfold trace_signal.f at h
  refine fun_of_run cfg_ok (f := 60) (fn := Tryz.f60) Tryz.func60 rfl (by kernel_rfl) (rs := [.tmp 2]) rfl (nt := 9) rfl (l := fin) (k := (.br (oT 2 (aE 2 .nil)) (oF 2 (aE 2 .nil)))) (to_goal (q := (U) ∧ (((decide (a0 ≥ (0 : Int))) = true → ((decide (a0 ≥ (0 : Int))) = true ∧ (U) ∧ ((decide (a0 ≥ (0 : Int))) = true ∧ (U ∧ ((U) ∧ (U) ∧ (.v (.one (.sc (.bool (decide (a0 ≤ (31 : Int)))))) : Tm) = trace_signal.R r ∧ ([] : List Box) = []))))) ∧ ((decide (a0 ≥ (0 : Int))) = false → ((decide (a0 ≥ (0 : Int))) = false ∧ ((decide (a0 ≥ (0 : Int))) = false ∧ (U ∧ ((U) ∧ (U) ∧ (.v (.one (.sc (.bool false))) : Tm) = trace_signal.R r ∧ ([] : List Box) = []))))))) (by kernel_rfl) ?_)
  refine tI ?_
  refine ⟨fun b1 => ?_, fun b1 => ?_⟩
  · rw [if_pos (dT_ b1)] at h
    refine ⟨b1, ?_⟩
    refine tI ?_
    refine ⟨b1, ?_⟩
    refine tI ?_
    obtain rfl := oi h
    exact ⟨T, T, rfl, rfl⟩
  · rw [if_neg (dF_ b1)] at h
    refine ⟨b1, ?_⟩
    refine ⟨b1, ?_⟩
    refine tI ?_
    obtain rfl := oi h
    exact ⟨T, T, rfl, rfl⟩
/-! halter/status.kind -/
def status_kind.f (a0 : Int) : Option (Int × Int) :=
  if (Int.tmod a0 (256 : Int)) = (0 : Int) then
    some ((0 : Int), (IntKind.wrap .i64 ((shr .u32 a0 (8 : Int)))))
  else
    if ¬ (Int.tmod a0 (256 : Int)) = (127 : Int) then
      some ((1 : Int), (IntKind.wrap .i64 (a0)))
    else
      if ¬ (bits .and .i64 (IntKind.wrap .i64 ((shr .u32 a0 (8 : Int)))) (128 : Int)) = (0 : Int) then
        some ((3 : Int), (bits .andNot .i64 (IntKind.wrap .i64 ((shr .u32 a0 (8 : Int)))) (128 : Int)))
      else
        some ((2 : Int), (IntKind.wrap .i64 ((shr .u32 a0 (8 : Int)))))
def status_kind.R (r : Int × Int) : Tm := .tup [.one (.sc (.int .i64 r.1)), .one (.sc (.int .i64 r.2))]
theorem status_kind.fun_ {a0 : Int} {r : Int × Int} (h : status_kind.f a0 = some r) : Fun cfg 80 [.one (.sc (.int .u32 a0))] [] (status_kind.R r) [] := by
  unfold status_kind.f at h
  refine fun_of_run cfg_ok (f := 80) (fn := Tryz.f80) Tryz.func80 rfl (by kernel_rfl) (rs := [.tmp 2, .tmp 3]) rfl (nt := 27) rfl (l := fin) (k := (.br (aE 3 .nil) (.br (aE 3 .nil) (.br (aE 3 .nil) (aE 4 .nil))))) (to_goal (q := ((256 : Int) ≠ 0) ∧ (0 ≤ (8 : Int)) ∧ (U) ∧ (U) ∧ ((((Int.tmod a0 (256 : Int)) == (0 : Int)) = true → (U ∧ (U ∧ ((U) ∧ (U) ∧ (.tup [.one (.sc (.int .i64 (0 : Int))), .one (.sc (.int .i64 (IntKind.wrap .i64 ((shr .u32 a0 (8 : Int))))))] : Tm) = status_kind.R r ∧ ([] : List Box) = [])))) ∧ (((Int.tmod a0 (256 : Int)) == (0 : Int)) = false → (U) ∧ ((((Int.tmod a0 (256 : Int)) != (127 : Int)) = true → (U ∧ (U) ∧ (U ∧ ((U) ∧ (U) ∧ (.tup [.one (.sc (.int .i64 (1 : Int))), .one (.sc (.int .i64 (IntKind.wrap .i64 (a0))))] : Tm) = status_kind.R r ∧ ([] : List Box) = [])))) ∧ (((Int.tmod a0 (256 : Int)) != (127 : Int)) = false → (U) ∧ (U) ∧ ((((bits .and .i64 (IntKind.wrap .i64 ((shr .u32 a0 (8 : Int)))) (128 : Int)) != (0 : Int)) = true → (U ∧ (U) ∧ (U ∧ ((U) ∧ (U) ∧ (.tup [.one (.sc (.int .i64 (3 : Int))), .one (.sc (.int .i64 (bits .andNot .i64 (IntKind.wrap .i64 ((shr .u32 a0 (8 : Int)))) (128 : Int))))] : Tm) = status_kind.R r ∧ ([] : List Box) = [])))) ∧ (((bits .and .i64 (IntKind.wrap .i64 ((shr .u32 a0 (8 : Int)))) (128 : Int)) != (0 : Int)) = false → (U ∧ (U ∧ (U ∧ ((U) ∧ (U) ∧ (.tup [.one (.sc (.int .i64 (2 : Int))), .one (.sc (.int .i64 (IntKind.wrap .i64 ((shr .u32 a0 (8 : Int))))))] : Tm) = status_kind.R r ∧ ([] : List Box) = []))))))))))) (by kernel_rfl) ?_)
  refine ⟨(by decide), ?_⟩
  refine ⟨(by decide), ?_⟩
  refine ⟨T, T, ?_⟩
  refine ⟨fun b1 => ?_, fun b1 => ?_⟩
  · rw [if_pos (beq_t b1)] at h
    refine ⟨T, T, ?_⟩
    obtain rfl := oi h
    exact ⟨T, T, rfl, rfl⟩
  · rw [if_neg (beq_f b1)] at h
    refine tI ?_
    refine ⟨fun b2 => ?_, fun b2 => ?_⟩
    · rw [if_pos (bne_t b2)] at h
      refine ⟨T, T, T, ?_⟩
      obtain rfl := oi h
      exact ⟨T, T, rfl, rfl⟩
    · rw [if_neg (not_not_intro (bne_f b2))] at h
      refine ⟨T, T, ?_⟩
      refine ⟨fun b3 => ?_, fun b3 => ?_⟩
      · rw [if_pos (bne_t b3)] at h
        refine ⟨T, T, T, ?_⟩
        obtain rfl := oi h
        exact ⟨T, T, rfl, rfl⟩
      · rw [if_neg (not_not_intro (bne_f b3))] at h
        refine ⟨T, T, T, ?_⟩
        obtain rfl := oi h
        exact ⟨T, T, rfl, rfl⟩
/-! halter/status.signal -/
def status_signal.f (a0 : Int) : Option Bool :=
  if a0 ≥ (1 : Int) then
    some (decide (a0 ≤ (31 : Int)))
  else
    some false
def status_signal.R (r : Bool) : Tm := .v (.one (.sc (.bool r)))
theorem status_signal.fun_ {a0 : Int} {r : Bool} (h : status_signal.f a0 = some r) : Fun cfg 85 [.one (.sc (.int .i64 a0))] [] (status_signal.R r) [] := by
  unfold status_signal.f at h
  refine fun_of_run cfg_ok (f := 85) (fn := Tryz.f85) Tryz.func85 rfl (by kernel_rfl) (rs := [.tmp 2]) rfl (nt := 9) rfl (l := fin) (k := (.br (oT 2 (aE 2 .nil)) (oF 2 (aE 2 .nil)))) (to_goal (q := (U) ∧ (((decide (a0 ≥ (1 : Int))) = true → ((decide (a0 ≥ (1 : Int))) = true ∧ (U) ∧ ((decide (a0 ≥ (1 : Int))) = true ∧ (U ∧ ((U) ∧ (U) ∧ (.v (.one (.sc (.bool (decide (a0 ≤ (31 : Int)))))) : Tm) = status_signal.R r ∧ ([] : List Box) = []))))) ∧ ((decide (a0 ≥ (1 : Int))) = false → ((decide (a0 ≥ (1 : Int))) = false ∧ ((decide (a0 ≥ (1 : Int))) = false ∧ (U ∧ ((U) ∧ (U) ∧ (.v (.one (.sc (.bool false))) : Tm) = status_signal.R r ∧ ([] : List Box) = []))))))) (by kernel_rfl) ?_)
  refine tI ?_
  refine ⟨fun b1 => ?_, fun b1 => ?_⟩
  · rw [if_pos (dT_ b1)] at h
    refine ⟨b1, ?_⟩
    refine tI ?_
    refine ⟨b1, ?_⟩
    refine tI ?_
    obtain rfl := oi h
    exact ⟨T, T, rfl, rfl⟩
  · rw [if_neg (dF_ b1)] at h
    refine ⟨b1, ?_⟩
    refine ⟨b1, ?_⟩
    refine tI ?_
    obtain rfl := oi h
    exact ⟨T, T, rfl, rfl⟩
/-! halter/status.Of -/
def status_Of.f (a0 : Int) (a1 : Int) : Option (Int × (Option Int)) :=
  if a0 = (0 : Int) then
    if a1 ≥ (0 : Int) then
      if a1 < (256 : Int) then
        some ((shl .u32 (IntKind.wrap .u32 (a1)) (8 : Int)), none)
      else
        if a0 = (1 : Int) then
          (status_signal.f a1).bind fun t5 =>
          if t5 = true then
            some ((IntKind.wrap .u32 (a1)), none)
          else
            if a0 = (2 : Int) then
              (status_signal.f a1).bind fun t8 =>
              if t8 = true then
                some ((bits .or .u32 (shl .u32 (IntKind.wrap .u32 (a1)) (8 : Int)) (127 : Int)), none)
              else
                if a0 = (3 : Int) then
                  (status_signal.f a1).bind fun t11 =>
                  if t11 = true then
                    some ((bits .or .u32 (shl .u32 (IntKind.wrap .u32 ((bits .or .i64 a1 (128 : Int)))) (8 : Int)) (127 : Int)), none)
                  else
                    some ((0 : Int), (some (22 : Int)))
                else
                  some ((0 : Int), (some (22 : Int)))
            else
              if a0 = (3 : Int) then
                (status_signal.f a1).bind fun t14 =>
                if t14 = true then
                  some ((bits .or .u32 (shl .u32 (IntKind.wrap .u32 ((bits .or .i64 a1 (128 : Int)))) (8 : Int)) (127 : Int)), none)
                else
                  some ((0 : Int), (some (22 : Int)))
              else
                some ((0 : Int), (some (22 : Int)))
        else
          if a0 = (2 : Int) then
            (status_signal.f a1).bind fun t17 =>
            if t17 = true then
              some ((bits .or .u32 (shl .u32 (IntKind.wrap .u32 (a1)) (8 : Int)) (127 : Int)), none)
            else
              if a0 = (3 : Int) then
                (status_signal.f a1).bind fun t20 =>
                if t20 = true then
                  some ((bits .or .u32 (shl .u32 (IntKind.wrap .u32 ((bits .or .i64 a1 (128 : Int)))) (8 : Int)) (127 : Int)), none)
                else
                  some ((0 : Int), (some (22 : Int)))
              else
                some ((0 : Int), (some (22 : Int)))
          else
            if a0 = (3 : Int) then
              (status_signal.f a1).bind fun t23 =>
              if t23 = true then
                some ((bits .or .u32 (shl .u32 (IntKind.wrap .u32 ((bits .or .i64 a1 (128 : Int)))) (8 : Int)) (127 : Int)), none)
              else
                some ((0 : Int), (some (22 : Int)))
            else
              some ((0 : Int), (some (22 : Int)))
    else
      if a0 = (1 : Int) then
        (status_signal.f a1).bind fun t26 =>
        if t26 = true then
          some ((IntKind.wrap .u32 (a1)), none)
        else
          if a0 = (2 : Int) then
            (status_signal.f a1).bind fun t29 =>
            if t29 = true then
              some ((bits .or .u32 (shl .u32 (IntKind.wrap .u32 (a1)) (8 : Int)) (127 : Int)), none)
            else
              if a0 = (3 : Int) then
                (status_signal.f a1).bind fun t32 =>
                if t32 = true then
                  some ((bits .or .u32 (shl .u32 (IntKind.wrap .u32 ((bits .or .i64 a1 (128 : Int)))) (8 : Int)) (127 : Int)), none)
                else
                  some ((0 : Int), (some (22 : Int)))
              else
                some ((0 : Int), (some (22 : Int)))
          else
            if a0 = (3 : Int) then
              (status_signal.f a1).bind fun t35 =>
              if t35 = true then
                some ((bits .or .u32 (shl .u32 (IntKind.wrap .u32 ((bits .or .i64 a1 (128 : Int)))) (8 : Int)) (127 : Int)), none)
              else
                some ((0 : Int), (some (22 : Int)))
            else
              some ((0 : Int), (some (22 : Int)))
      else
        if a0 = (2 : Int) then
          (status_signal.f a1).bind fun t38 =>
          if t38 = true then
            some ((bits .or .u32 (shl .u32 (IntKind.wrap .u32 (a1)) (8 : Int)) (127 : Int)), none)
          else
            if a0 = (3 : Int) then
              (status_signal.f a1).bind fun t41 =>
              if t41 = true then
                some ((bits .or .u32 (shl .u32 (IntKind.wrap .u32 ((bits .or .i64 a1 (128 : Int)))) (8 : Int)) (127 : Int)), none)
              else
                some ((0 : Int), (some (22 : Int)))
            else
              some ((0 : Int), (some (22 : Int)))
        else
          if a0 = (3 : Int) then
            (status_signal.f a1).bind fun t44 =>
            if t44 = true then
              some ((bits .or .u32 (shl .u32 (IntKind.wrap .u32 ((bits .or .i64 a1 (128 : Int)))) (8 : Int)) (127 : Int)), none)
            else
              some ((0 : Int), (some (22 : Int)))
          else
            some ((0 : Int), (some (22 : Int)))
  else
    if a0 = (1 : Int) then
      (status_signal.f a1).bind fun t47 =>
      if t47 = true then
        some ((IntKind.wrap .u32 (a1)), none)
      else
        if a0 = (2 : Int) then
          (status_signal.f a1).bind fun t50 =>
          if t50 = true then
            some ((bits .or .u32 (shl .u32 (IntKind.wrap .u32 (a1)) (8 : Int)) (127 : Int)), none)
          else
            if a0 = (3 : Int) then
              (status_signal.f a1).bind fun t53 =>
              if t53 = true then
                some ((bits .or .u32 (shl .u32 (IntKind.wrap .u32 ((bits .or .i64 a1 (128 : Int)))) (8 : Int)) (127 : Int)), none)
              else
                some ((0 : Int), (some (22 : Int)))
            else
              some ((0 : Int), (some (22 : Int)))
        else
          if a0 = (3 : Int) then
            (status_signal.f a1).bind fun t56 =>
            if t56 = true then
              some ((bits .or .u32 (shl .u32 (IntKind.wrap .u32 ((bits .or .i64 a1 (128 : Int)))) (8 : Int)) (127 : Int)), none)
            else
              some ((0 : Int), (some (22 : Int)))
          else
            some ((0 : Int), (some (22 : Int)))
    else
      if a0 = (2 : Int) then
        (status_signal.f a1).bind fun t59 =>
        if t59 = true then
          some ((bits .or .u32 (shl .u32 (IntKind.wrap .u32 (a1)) (8 : Int)) (127 : Int)), none)
        else
          if a0 = (3 : Int) then
            (status_signal.f a1).bind fun t62 =>
            if t62 = true then
              some ((bits .or .u32 (shl .u32 (IntKind.wrap .u32 ((bits .or .i64 a1 (128 : Int)))) (8 : Int)) (127 : Int)), none)
            else
              some ((0 : Int), (some (22 : Int)))
          else
            some ((0 : Int), (some (22 : Int)))
      else
        if a0 = (3 : Int) then
          (status_signal.f a1).bind fun t65 =>
          if t65 = true then
            some ((bits .or .u32 (shl .u32 (IntKind.wrap .u32 ((bits .or .i64 a1 (128 : Int)))) (8 : Int)) (127 : Int)), none)
          else
            some ((0 : Int), (some (22 : Int)))
        else
          some ((0 : Int), (some (22 : Int)))
def status_Of.R (r : Int × (Option Int)) : Tm := .tup [.one (.sc (.int .u32 r.1)), .one (.err r.2)]
theorem status_Of.fun_ {a0 : Int} {a1 : Int} {r : Int × (Option Int)} (h : status_Of.f a0 a1 = some r) : Fun cfg 81 [.one (.sc (.int .i64 a0)), .one (.sc (.int .i64 a1))] [] (status_Of.R r) [] := by
  unfold status_Of.f at h
  refine fun_of_run cfg_ok (f := 81) (fn := Tryz.f81) Tryz.func81 rfl (by kernel_rfl) (rs := [.tmp 4, .tmp 5]) rfl (nt := 53) rfl (l := fin) (k := (.br (oT 2 (.br (oT 2 (.br (aE 3 .nil) (.br (.one true (.call true [] (Bool) status_signal.R (fun t5 => (.one true (.br (aE 3 .nil) (.br (.one true (.call true [] (Bool) status_signal.R (fun t8 => (.one true (.br (aE 3 .nil) (.br (.one true (.call true [] (Bool) status_signal.R (fun t11 => (.one true (.br (aE 3 .nil) (aE 4 .nil)))))) (oF 3 (aE 4 .nil)))))))) (oF 3 (.br (.one true (.call true [] (Bool) status_signal.R (fun t14 => (.one true (.br (aE 3 .nil) (aE 4 .nil)))))) (oF 3 (aE 4 .nil)))))))))) (oF 3 (.br (.one true (.call true [] (Bool) status_signal.R (fun t17 => (.one true (.br (aE 3 .nil) (.br (.one true (.call true [] (Bool) status_signal.R (fun t20 => (.one true (.br (aE 3 .nil) (aE 4 .nil)))))) (oF 3 (aE 4 .nil)))))))) (oF 3 (.br (.one true (.call true [] (Bool) status_signal.R (fun t23 => (.one true (.br (aE 3 .nil) (aE 4 .nil)))))) (oF 3 (aE 4 .nil))))))))) (oF 3 (.br (.one true (.call true [] (Bool) status_signal.R (fun t26 => (.one true (.br (aE 3 .nil) (.br (.one true (.call true [] (Bool) status_signal.R (fun t29 => (.one true (.br (aE 3 .nil) (.br (.one true (.call true [] (Bool) status_signal.R (fun t32 => (.one true (.br (aE 3 .nil) (aE 4 .nil)))))) (oF 3 (aE 4 .nil)))))))) (oF 3 (.br (.one true (.call true [] (Bool) status_signal.R (fun t35 => (.one true (.br (aE 3 .nil) (aE 4 .nil)))))) (oF 3 (aE 4 .nil)))))))))) (oF 3 (.br (.one true (.call true [] (Bool) status_signal.R (fun t38 => (.one true (.br (aE 3 .nil) (.br (.one true (.call true [] (Bool) status_signal.R (fun t41 => (.one true (.br (aE 3 .nil) (aE 4 .nil)))))) (oF 3 (aE 4 .nil)))))))) (oF 3 (.br (.one true (.call true [] (Bool) status_signal.R (fun t44 => (.one true (.br (aE 3 .nil) (aE 4 .nil)))))) (oF 3 (aE 4 .nil)))))))))) (oF 6 (.br (.one true (.call true [] (Bool) status_signal.R (fun t47 => (.one true (.br (aE 3 .nil) (.br (.one true (.call true [] (Bool) status_signal.R (fun t50 => (.one true (.br (aE 3 .nil) (.br (.one true (.call true [] (Bool) status_signal.R (fun t53 => (.one true (.br (aE 3 .nil) (aE 4 .nil)))))) (oF 3 (aE 4 .nil)))))))) (oF 3 (.br (.one true (.call true [] (Bool) status_signal.R (fun t56 => (.one true (.br (aE 3 .nil) (aE 4 .nil)))))) (oF 3 (aE 4 .nil)))))))))) (oF 3 (.br (.one true (.call true [] (Bool) status_signal.R (fun t59 => (.one true (.br (aE 3 .nil) (.br (.one true (.call true [] (Bool) status_signal.R (fun t62 => (.one true (.br (aE 3 .nil) (aE 4 .nil)))))) (oF 3 (aE 4 .nil)))))))) (oF 3 (.br (.one true (.call true [] (Bool) status_signal.R (fun t65 => (.one true (.br (aE 3 .nil) (aE 4 .nil)))))) (oF 3 (aE 4 .nil)))))))))) (to_goal (q := (U) ∧ (((a0 == (0 : Int)) = true → ((a0 == (0 : Int)) = true ∧ (U) ∧ ((a0 == (0 : Int)) = true ∧ (((decide (a1 ≥ (0 : Int))) = true → ((decide (a1 ≥ (0 : Int))) = true ∧ (U) ∧ ((decide (a1 ≥ (0 : Int))) = true ∧ (((decide (a1 < (256 : Int))) = true → (U ∧ (U) ∧ (0 ≤ (8 : Int)) ∧ (U ∧ ((U) ∧ (U) ∧ (.tup [.one (.sc (.int .u32 (shl .u32 (IntKind.wrap .u32 (a1)) (8 : Int)))), .one (.err none)] : Tm) = status_Of.R r ∧ ([] : List Box) = [])))) ∧ ((decide (a1 < (256 : Int))) = false → (U) ∧ (((a0 == (1 : Int)) = true → ((a0 == (1 : Int)) = true ∧ (∃ t5 : Bool, (Fun cfg 85 [.one (.sc (.int .i64 a1))] [] (status_signal.R t5) [] ∧ U) ∧ ((a0 == (1 : Int)) = true ∧ ((t5 = true → (U ∧ (U) ∧ (U ∧ ((U) ∧ (U) ∧ (.tup [.one (.sc (.int .u32 (IntKind.wrap .u32 (a1)))), .one (.err none)] : Tm) = status_Of.R r ∧ ([] : List Box) = [])))) ∧ (t5 = false → (U) ∧ (((a0 == (2 : Int)) = true → ((a0 == (2 : Int)) = true ∧ (∃ t8 : Bool, (Fun cfg 85 [.one (.sc (.int .i64 a1))] [] (status_signal.R t8) [] ∧ U) ∧ ((a0 == (2 : Int)) = true ∧ ((t8 = true → (U ∧ (U) ∧ (0 ≤ (8 : Int)) ∧ (U) ∧ (U ∧ ((U) ∧ (U) ∧ (.tup [.one (.sc (.int .u32 (bits .or .u32 (shl .u32 (IntKind.wrap .u32 (a1)) (8 : Int)) (127 : Int)))), .one (.err none)] : Tm) = status_Of.R r ∧ ([] : List Box) = [])))) ∧ (t8 = false → (U) ∧ (((a0 == (3 : Int)) = true → ((a0 == (3 : Int)) = true ∧ (∃ t11 : Bool, (Fun cfg 85 [.one (.sc (.int .i64 a1))] [] (status_signal.R t11) [] ∧ U) ∧ ((a0 == (3 : Int)) = true ∧ ((t11 = true → (U ∧ (U) ∧ (U) ∧ (0 ≤ (8 : Int)) ∧ (U) ∧ (U ∧ ((U) ∧ (U) ∧ (.tup [.one (.sc (.int .u32 (bits .or .u32 (shl .u32 (IntKind.wrap .u32 ((bits .or .i64 a1 (128 : Int)))) (8 : Int)) (127 : Int)))), .one (.err none)] : Tm) = status_Of.R r ∧ ([] : List Box) = [])))) ∧ (t11 = false → (U ∧ (U ∧ (U ∧ ((U) ∧ (U) ∧ (.tup [.one (.sc (.int .u32 (0 : Int))), .one (.err (some (22 : Int)))] : Tm) = status_Of.R r ∧ ([] : List Box) = [])))))))))) ∧ ((a0 == (3 : Int)) = false → ((a0 == (3 : Int)) = false ∧ ((a0 == (3 : Int)) = false ∧ (false = false ∧ (U ∧ (U ∧ (U ∧ ((U) ∧ (U) ∧ (.tup [.one (.sc (.int .u32 (0 : Int))), .one (.err (some (22 : Int)))] : Tm) = status_Of.R r ∧ ([] : List Box) = []))))))))))))))) ∧ ((a0 == (2 : Int)) = false → ((a0 == (2 : Int)) = false ∧ ((a0 == (2 : Int)) = false ∧ (false = false ∧ (U) ∧ (((a0 == (3 : Int)) = true → ((a0 == (3 : Int)) = true ∧ (∃ t14 : Bool, (Fun cfg 85 [.one (.sc (.int .i64 a1))] [] (status_signal.R t14) [] ∧ U) ∧ ((a0 == (3 : Int)) = true ∧ ((t14 = true → (U ∧ (U) ∧ (U) ∧ (0 ≤ (8 : Int)) ∧ (U) ∧ (U ∧ ((U) ∧ (U) ∧ (.tup [.one (.sc (.int .u32 (bits .or .u32 (shl .u32 (IntKind.wrap .u32 ((bits .or .i64 a1 (128 : Int)))) (8 : Int)) (127 : Int)))), .one (.err none)] : Tm) = status_Of.R r ∧ ([] : List Box) = [])))) ∧ (t14 = false → (U ∧ (U ∧ (U ∧ ((U) ∧ (U) ∧ (.tup [.one (.sc (.int .u32 (0 : Int))), .one (.err (some (22 : Int)))] : Tm) = status_Of.R r ∧ ([] : List Box) = [])))))))))) ∧ ((a0 == (3 : Int)) = false → ((a0 == (3 : Int)) = false ∧ ((a0 == (3 : Int)) = false ∧ (false = false ∧ (U ∧ (U ∧ (U ∧ ((U) ∧ (U) ∧ (.tup [.one (.sc (.int .u32 (0 : Int))), .one (.err (some (22 : Int)))] : Tm) = status_Of.R r ∧ ([] : List Box) = [])))))))))))))))))))) ∧ ((a0 == (1 : Int)) = false → ((a0 == (1 : Int)) = false ∧ ((a0 == (1 : Int)) = false ∧ (false = false ∧ (U) ∧ (((a0 == (2 : Int)) = true → ((a0 == (2 : Int)) = true ∧ (∃ t17 : Bool, (Fun cfg 85 [.one (.sc (.int .i64 a1))] [] (status_signal.R t17) [] ∧ U) ∧ ((a0 == (2 : Int)) = true ∧ ((t17 = true → (U ∧ (U) ∧ (0 ≤ (8 : Int)) ∧ (U) ∧ (U ∧ ((U) ∧ (U) ∧ (.tup [.one (.sc (.int .u32 (bits .or .u32 (shl .u32 (IntKind.wrap .u32 (a1)) (8 : Int)) (127 : Int)))), .one (.err none)] : Tm) = status_Of.R r ∧ ([] : List Box) = [])))) ∧ (t17 = false → (U) ∧ (((a0 == (3 : Int)) = true → ((a0 == (3 : Int)) = true ∧ (∃ t20 : Bool, (Fun cfg 85 [.one (.sc (.int .i64 a1))] [] (status_signal.R t20) [] ∧ U) ∧ ((a0 == (3 : Int)) = true ∧ ((t20 = true → (U ∧ (U) ∧ (U) ∧ (0 ≤ (8 : Int)) ∧ (U) ∧ (U ∧ ((U) ∧ (U) ∧ (.tup [.one (.sc (.int .u32 (bits .or .u32 (shl .u32 (IntKind.wrap .u32 ((bits .or .i64 a1 (128 : Int)))) (8 : Int)) (127 : Int)))), .one (.err none)] : Tm) = status_Of.R r ∧ ([] : List Box) = [])))) ∧ (t20 = false → (U ∧ (U ∧ (U ∧ ((U) ∧ (U) ∧ (.tup [.one (.sc (.int .u32 (0 : Int))), .one (.err (some (22 : Int)))] : Tm) = status_Of.R r ∧ ([] : List Box) = [])))))))))) ∧ ((a0 == (3 : Int)) = false → ((a0 == (3 : Int)) = false ∧ ((a0 == (3 : Int)) = false ∧ (false = false ∧ (U ∧ (U ∧ (U ∧ ((U) ∧ (U) ∧ (.tup [.one (.sc (.int .u32 (0 : Int))), .one (.err (some (22 : Int)))] : Tm) = status_Of.R r ∧ ([] : List Box) = []))))))))))))))) ∧ ((a0 == (2 : Int)) = false → ((a0 == (2 : Int)) = false ∧ ((a0 == (2 : Int)) = false ∧ (false = false ∧ (U) ∧ (((a0 == (3 : Int)) = true → ((a0 == (3 : Int)) = true ∧ (∃ t23 : Bool, (Fun cfg 85 [.one (.sc (.int .i64 a1))] [] (status_signal.R t23) [] ∧ U) ∧ ((a0 == (3 : Int)) = true ∧ ((t23 = true → (U ∧ (U) ∧ (U) ∧ (0 ≤ (8 : Int)) ∧ (U) ∧ (U ∧ ((U) ∧ (U) ∧ (.tup [.one (.sc (.int .u32 (bits .or .u32 (shl .u32 (IntKind.wrap .u32 ((bits .or .i64 a1 (128 : Int)))) (8 : Int)) (127 : Int)))), .one (.err none)] : Tm) = status_Of.R r ∧ ([] : List Box) = [])))) ∧ (t23 = false → (U ∧ (U ∧ (U ∧ ((U) ∧ (U) ∧ (.tup [.one (.sc (.int .u32 (0 : Int))), .one (.err (some (22 : Int)))] : Tm) = status_Of.R r ∧ ([] : List Box) = [])))))))))) ∧ ((a0 == (3 : Int)) = false → ((a0 == (3 : Int)) = false ∧ ((a0 == (3 : Int)) = false ∧ (false = false ∧ (U ∧ (U ∧ (U ∧ ((U) ∧ (U) ∧ (.tup [.one (.sc (.int .u32 (0 : Int))), .one (.err (some (22 : Int)))] : Tm) = status_Of.R r ∧ ([] : List Box) = [])))))))))))))))))))))))) ∧ ((decide (a1 ≥ (0 : Int))) = false → ((decide (a1 ≥ (0 : Int))) = false ∧ ((decide (a1 ≥ (0 : Int))) = false ∧ (false = false ∧ (U) ∧ (((a0 == (1 : Int)) = true → ((a0 == (1 : Int)) = true ∧ (∃ t26 : Bool, (Fun cfg 85 [.one (.sc (.int .i64 a1))] [] (status_signal.R t26) [] ∧ U) ∧ ((a0 == (1 : Int)) = true ∧ ((t26 = true → (U ∧ (U) ∧ (U ∧ ((U) ∧ (U) ∧ (.tup [.one (.sc (.int .u32 (IntKind.wrap .u32 (a1)))), .one (.err none)] : Tm) = status_Of.R r ∧ ([] : List Box) = [])))) ∧ (t26 = false → (U) ∧ (((a0 == (2 : Int)) = true → ((a0 == (2 : Int)) = true ∧ (∃ t29 : Bool, (Fun cfg 85 [.one (.sc (.int .i64 a1))] [] (status_signal.R t29) [] ∧ U) ∧ ((a0 == (2 : Int)) = true ∧ ((t29 = true → (U ∧ (U) ∧ (0 ≤ (8 : Int)) ∧ (U) ∧ (U ∧ ((U) ∧ (U) ∧ (.tup [.one (.sc (.int .u32 (bits .or .u32 (shl .u32 (IntKind.wrap .u32 (a1)) (8 : Int)) (127 : Int)))), .one (.err none)] : Tm) = status_Of.R r ∧ ([] : List Box) = [])))) ∧ (t29 = false → (U) ∧ (((a0 == (3 : Int)) = true → ((a0 == (3 : Int)) = true ∧ (∃ t32 : Bool, (Fun cfg 85 [.one (.sc (.int .i64 a1))] [] (status_signal.R t32) [] ∧ U) ∧ ((a0 == (3 : Int)) = true ∧ ((t32 = true → (U ∧ (U) ∧ (U) ∧ (0 ≤ (8 : Int)) ∧ (U) ∧ (U ∧ ((U) ∧ (U) ∧ (.tup [.one (.sc (.int .u32 (bits .or .u32 (shl .u32 (IntKind.wrap .u32 ((bits .or .i64 a1 (128 : Int)))) (8 : Int)) (127 : Int)))), .one (.err none)] : Tm) = status_Of.R r ∧ ([] : List Box) = [])))) ∧ (t32 = false → (U ∧ (U ∧ (U ∧ ((U) ∧ (U) ∧ (.tup [.one (.sc (.int .u32 (0 : Int))), .one (.err (some (22 : Int)))] : Tm) = status_Of.R r ∧ ([] : List Box) = [])))))))))) ∧ ((a0 == (3 : Int)) = false → ((a0 == (3 : Int)) = false ∧ ((a0 == (3 : Int)) = false ∧ (false = false ∧ (U ∧ (U ∧ (U ∧ ((U) ∧ (U) ∧ (.tup [.one (.sc (.int .u32 (0 : Int))), .one (.err (some (22 : Int)))] : Tm) = status_Of.R r ∧ ([] : List Box) = []))))))))))))))) ∧ ((a0 == (2 : Int)) = false → ((a0 == (2 : Int)) = false ∧ ((a0 == (2 : Int)) = false ∧ (false = false ∧ (U) ∧ (((a0 == (3 : Int)) = true → ((a0 == (3 : Int)) = true ∧ (∃ t35 : Bool, (Fun cfg 85 [.one (.sc (.int .i64 a1))] [] (status_signal.R t35) [] ∧ U) ∧ ((a0 == (3 : Int)) = true ∧ ((t35 = true → (U ∧ (U) ∧ (U) ∧ (0 ≤ (8 : Int)) ∧ (U) ∧ (U ∧ ((U) ∧ (U) ∧ (.tup [.one (.sc (.int .u32 (bits .or .u32 (shl .u32 (IntKind.wrap .u32 ((bits .or .i64 a1 (128 : Int)))) (8 : Int)) (127 : Int)))), .one (.err none)] : Tm) = status_Of.R r ∧ ([] : List Box) = [])))) ∧ (t35 = false → (U ∧ (U ∧ (U ∧ ((U) ∧ (U) ∧ (.tup [.one (.sc (.int .u32 (0 : Int))), .one (.err (some (22 : Int)))] : Tm) = status_Of.R r ∧ ([] : List Box) = [])))))))))) ∧ ((a0 == (3 : Int)) = false → ((a0 == (3 : Int)) = false ∧ ((a0 == (3 : Int)) = false ∧ (false = false ∧ (U ∧ (U ∧ (U ∧ ((U) ∧ (U) ∧ (.tup [.one (.sc (.int .u32 (0 : Int))), .one (.err (some (22 : Int)))] : Tm) = status_Of.R r ∧ ([] : List Box) = [])))))))))))))))))))) ∧ ((a0 == (1 : Int)) = false → ((a0 == (1 : Int)) = false ∧ ((a0 == (1 : Int)) = false ∧ (false = false ∧ (U) ∧ (((a0 == (2 : Int)) = true → ((a0 == (2 : Int)) = true ∧ (∃ t38 : Bool, (Fun cfg 85 [.one (.sc (.int .i64 a1))] [] (status_signal.R t38) [] ∧ U) ∧ ((a0 == (2 : Int)) = true ∧ ((t38 = true → (U ∧ (U) ∧ (0 ≤ (8 : Int)) ∧ (U) ∧ (U ∧ ((U) ∧ (U) ∧ (.tup [.one (.sc (.int .u32 (bits .or .u32 (shl .u32 (IntKind.wrap .u32 (a1)) (8 : Int)) (127 : Int)))), .one (.err none)] : Tm) = status_Of.R r ∧ ([] : List Box) = [])))) ∧ (t38 = false → (U) ∧ (((a0 == (3 : Int)) = true → ((a0 == (3 : Int)) = true ∧ (∃ t41 : Bool, (Fun cfg 85 [.one (.sc (.int .i64 a1))] [] (status_signal.R t41) [] ∧ U) ∧ ((a0 == (3 : Int)) = true ∧ ((t41 = true → (U ∧ (U) ∧ (U) ∧ (0 ≤ (8 : Int)) ∧ (U) ∧ (U ∧ ((U) ∧ (U) ∧ (.tup [.one (.sc (.int .u32 (bits .or .u32 (shl .u32 (IntKind.wrap .u32 ((bits .or .i64 a1 (128 : Int)))) (8 : Int)) (127 : Int)))), .one (.err none)] : Tm) = status_Of.R r ∧ ([] : List Box) = [])))) ∧ (t41 = false → (U ∧ (U ∧ (U ∧ ((U) ∧ (U) ∧ (.tup [.one (.sc (.int .u32 (0 : Int))), .one (.err (some (22 : Int)))] : Tm) = status_Of.R r ∧ ([] : List Box) = [])))))))))) ∧ ((a0 == (3 : Int)) = false → ((a0 == (3 : Int)) = false ∧ ((a0 == (3 : Int)) = false ∧ (false = false ∧ (U ∧ (U ∧ (U ∧ ((U) ∧ (U) ∧ (.tup [.one (.sc (.int .u32 (0 : Int))), .one (.err (some (22 : Int)))] : Tm) = status_Of.R r ∧ ([] : List Box) = []))))))))))))))) ∧ ((a0 == (2 : Int)) = false → ((a0 == (2 : Int)) = false ∧ ((a0 == (2 : Int)) = false ∧ (false = false ∧ (U) ∧ (((a0 == (3 : Int)) = true → ((a0 == (3 : Int)) = true ∧ (∃ t44 : Bool, (Fun cfg 85 [.one (.sc (.int .i64 a1))] [] (status_signal.R t44) [] ∧ U) ∧ ((a0 == (3 : Int)) = true ∧ ((t44 = true → (U ∧ (U) ∧ (U) ∧ (0 ≤ (8 : Int)) ∧ (U) ∧ (U ∧ ((U) ∧ (U) ∧ (.tup [.one (.sc (.int .u32 (bits .or .u32 (shl .u32 (IntKind.wrap .u32 ((bits .or .i64 a1 (128 : Int)))) (8 : Int)) (127 : Int)))), .one (.err none)] : Tm) = status_Of.R r ∧ ([] : List Box) = [])))) ∧ (t44 = false → (U ∧ (U ∧ (U ∧ ((U) ∧ (U) ∧ (.tup [.one (.sc (.int .u32 (0 : Int))), .one (.err (some (22 : Int)))] : Tm) = status_Of.R r ∧ ([] : List Box) = [])))))))))) ∧ ((a0 == (3 : Int)) = false → ((a0 == (3 : Int)) = false ∧ ((a0 == (3 : Int)) = false ∧ (false = false ∧ (U ∧ (U ∧ (U ∧ ((U) ∧ (U) ∧ (.tup [.one (.sc (.int .u32 (0 : Int))), .one (.err (some (22 : Int)))] : Tm) = status_Of.R r ∧ ([] : List Box) = []))))))))))))))))))))))))))) ∧ ((a0 == (0 : Int)) = false → ((a0 == (0 : Int)) = false ∧ ((a0 == (0 : Int)) = false ∧ (false = false ∧ (false = false ∧ (false = false ∧ (false = false ∧ (U) ∧ (((a0 == (1 : Int)) = true → ((a0 == (1 : Int)) = true ∧ (∃ t47 : Bool, (Fun cfg 85 [.one (.sc (.int .i64 a1))] [] (status_signal.R t47) [] ∧ U) ∧ ((a0 == (1 : Int)) = true ∧ ((t47 = true → (U ∧ (U) ∧ (U ∧ ((U) ∧ (U) ∧ (.tup [.one (.sc (.int .u32 (IntKind.wrap .u32 (a1)))), .one (.err none)] : Tm) = status_Of.R r ∧ ([] : List Box) = [])))) ∧ (t47 = false → (U) ∧ (((a0 == (2 : Int)) = true → ((a0 == (2 : Int)) = true ∧ (∃ t50 : Bool, (Fun cfg 85 [.one (.sc (.int .i64 a1))] [] (status_signal.R t50) [] ∧ U) ∧ ((a0 == (2 : Int)) = true ∧ ((t50 = true → (U ∧ (U) ∧ (0 ≤ (8 : Int)) ∧ (U) ∧ (U ∧ ((U) ∧ (U) ∧ (.tup [.one (.sc (.int .u32 (bits .or .u32 (shl .u32 (IntKind.wrap .u32 (a1)) (8 : Int)) (127 : Int)))), .one (.err none)] : Tm) = status_Of.R r ∧ ([] : List Box) = [])))) ∧ (t50 = false → (U) ∧ (((a0 == (3 : Int)) = true → ((a0 == (3 : Int)) = true ∧ (∃ t53 : Bool, (Fun cfg 85 [.one (.sc (.int .i64 a1))] [] (status_signal.R t53) [] ∧ U) ∧ ((a0 == (3 : Int)) = true ∧ ((t53 = true → (U ∧ (U) ∧ (U) ∧ (0 ≤ (8 : Int)) ∧ (U) ∧ (U ∧ ((U) ∧ (U) ∧ (.tup [.one (.sc (.int .u32 (bits .or .u32 (shl .u32 (IntKind.wrap .u32 ((bits .or .i64 a1 (128 : Int)))) (8 : Int)) (127 : Int)))), .one (.err none)] : Tm) = status_Of.R r ∧ ([] : List Box) = [])))) ∧ (t53 = false → (U ∧ (U ∧ (U ∧ ((U) ∧ (U) ∧ (.tup [.one (.sc (.int .u32 (0 : Int))), .one (.err (some (22 : Int)))] : Tm) = status_Of.R r ∧ ([] : List Box) = [])))))))))) ∧ ((a0 == (3 : Int)) = false → ((a0 == (3 : Int)) = false ∧ ((a0 == (3 : Int)) = false ∧ (false = false ∧ (U ∧ (U ∧ (U ∧ ((U) ∧ (U) ∧ (.tup [.one (.sc (.int .u32 (0 : Int))), .one (.err (some (22 : Int)))] : Tm) = status_Of.R r ∧ ([] : List Box) = []))))))))))))))) ∧ ((a0 == (2 : Int)) = false → ((a0 == (2 : Int)) = false ∧ ((a0 == (2 : Int)) = false ∧ (false = false ∧ (U) ∧ (((a0 == (3 : Int)) = true → ((a0 == (3 : Int)) = true ∧ (∃ t56 : Bool, (Fun cfg 85 [.one (.sc (.int .i64 a1))] [] (status_signal.R t56) [] ∧ U) ∧ ((a0 == (3 : Int)) = true ∧ ((t56 = true → (U ∧ (U) ∧ (U) ∧ (0 ≤ (8 : Int)) ∧ (U) ∧ (U ∧ ((U) ∧ (U) ∧ (.tup [.one (.sc (.int .u32 (bits .or .u32 (shl .u32 (IntKind.wrap .u32 ((bits .or .i64 a1 (128 : Int)))) (8 : Int)) (127 : Int)))), .one (.err none)] : Tm) = status_Of.R r ∧ ([] : List Box) = [])))) ∧ (t56 = false → (U ∧ (U ∧ (U ∧ ((U) ∧ (U) ∧ (.tup [.one (.sc (.int .u32 (0 : Int))), .one (.err (some (22 : Int)))] : Tm) = status_Of.R r ∧ ([] : List Box) = [])))))))))) ∧ ((a0 == (3 : Int)) = false → ((a0 == (3 : Int)) = false ∧ ((a0 == (3 : Int)) = false ∧ (false = false ∧ (U ∧ (U ∧ (U ∧ ((U) ∧ (U) ∧ (.tup [.one (.sc (.int .u32 (0 : Int))), .one (.err (some (22 : Int)))] : Tm) = status_Of.R r ∧ ([] : List Box) = [])))))))))))))))))))) ∧ ((a0 == (1 : Int)) = false → ((a0 == (1 : Int)) = false ∧ ((a0 == (1 : Int)) = false ∧ (false = false ∧ (U) ∧ (((a0 == (2 : Int)) = true → ((a0 == (2 : Int)) = true ∧ (∃ t59 : Bool, (Fun cfg 85 [.one (.sc (.int .i64 a1))] [] (status_signal.R t59) [] ∧ U) ∧ ((a0 == (2 : Int)) = true ∧ ((t59 = true → (U ∧ (U) ∧ (0 ≤ (8 : Int)) ∧ (U) ∧ (U ∧ ((U) ∧ (U) ∧ (.tup [.one (.sc (.int .u32 (bits .or .u32 (shl .u32 (IntKind.wrap .u32 (a1)) (8 : Int)) (127 : Int)))), .one (.err none)] : Tm) = status_Of.R r ∧ ([] : List Box) = [])))) ∧ (t59 = false → (U) ∧ (((a0 == (3 : Int)) = true → ((a0 == (3 : Int)) = true ∧ (∃ t62 : Bool, (Fun cfg 85 [.one (.sc (.int .i64 a1))] [] (status_signal.R t62) [] ∧ U) ∧ ((a0 == (3 : Int)) = true ∧ ((t62 = true → (U ∧ (U) ∧ (U) ∧ (0 ≤ (8 : Int)) ∧ (U) ∧ (U ∧ ((U) ∧ (U) ∧ (.tup [.one (.sc (.int .u32 (bits .or .u32 (shl .u32 (IntKind.wrap .u32 ((bits .or .i64 a1 (128 : Int)))) (8 : Int)) (127 : Int)))), .one (.err none)] : Tm) = status_Of.R r ∧ ([] : List Box) = [])))) ∧ (t62 = false → (U ∧ (U ∧ (U ∧ ((U) ∧ (U) ∧ (.tup [.one (.sc (.int .u32 (0 : Int))), .one (.err (some (22 : Int)))] : Tm) = status_Of.R r ∧ ([] : List Box) = [])))))))))) ∧ ((a0 == (3 : Int)) = false → ((a0 == (3 : Int)) = false ∧ ((a0 == (3 : Int)) = false ∧ (false = false ∧ (U ∧ (U ∧ (U ∧ ((U) ∧ (U) ∧ (.tup [.one (.sc (.int .u32 (0 : Int))), .one (.err (some (22 : Int)))] : Tm) = status_Of.R r ∧ ([] : List Box) = []))))))))))))))) ∧ ((a0 == (2 : Int)) = false → ((a0 == (2 : Int)) = false ∧ ((a0 == (2 : Int)) = false ∧ (false = false ∧ (U) ∧ (((a0 == (3 : Int)) = true → ((a0 == (3 : Int)) = true ∧ (∃ t65 : Bool, (Fun cfg 85 [.one (.sc (.int .i64 a1))] [] (status_signal.R t65) [] ∧ U) ∧ ((a0 == (3 : Int)) = true ∧ ((t65 = true → (U ∧ (U) ∧ (U) ∧ (0 ≤ (8 : Int)) ∧ (U) ∧ (U ∧ ((U) ∧ (U) ∧ (.tup [.one (.sc (.int .u32 (bits .or .u32 (shl .u32 (IntKind.wrap .u32 ((bits .or .i64 a1 (128 : Int)))) (8 : Int)) (127 : Int)))), .one (.err none)] : Tm) = status_Of.R r ∧ ([] : List Box) = [])))) ∧ (t65 = false → (U ∧ (U ∧ (U ∧ ((U) ∧ (U) ∧ (.tup [.one (.sc (.int .u32 (0 : Int))), .one (.err (some (22 : Int)))] : Tm) = status_Of.R r ∧ ([] : List Box) = [])))))))))) ∧ ((a0 == (3 : Int)) = false → ((a0 == (3 : Int)) = false ∧ ((a0 == (3 : Int)) = false ∧ (false = false ∧ (U ∧ (U ∧ (U ∧ ((U) ∧ (U) ∧ (.tup [.one (.sc (.int .u32 (0 : Int))), .one (.err (some (22 : Int)))] : Tm) = status_Of.R r ∧ ([] : List Box) = [])))))))))))))))))))))))))))) (by kernel_rfl) ?_)
  refine tI ?_
  refine ⟨fun b1 => ?_, fun b1 => ?_⟩
  · rw [if_pos (beq_t b1)] at h
    refine ⟨b1, ?_⟩
    refine tI ?_
    refine ⟨b1, ?_⟩
    refine ⟨fun b2 => ?_, fun b2 => ?_⟩
    · rw [if_pos (dT_ b2)] at h
      refine ⟨b2, ?_⟩
      refine tI ?_
      refine ⟨b2, ?_⟩
      refine ⟨fun b3 => ?_, fun b3 => ?_⟩
      · rw [if_pos (dT_ b3)] at h
        refine ⟨T, T, ?_⟩
        refine ⟨(by decide), ?_⟩
        refine tI ?_
        obtain rfl := oi h
        exact ⟨T, T, rfl, rfl⟩
      · rw [if_neg (dF_ b3)] at h
        refine tI ?_
        refine ⟨fun b4 => ?_, fun b4 => ?_⟩
        · rw [if_pos (beq_t b4)] at h
          refine ⟨b4, ?_⟩
          obtain ⟨t5, ht5, h⟩ := of_bind h
          refine ⟨t5, ⟨status_signal.fun_ ht5, T⟩, ?_⟩
          refine ⟨b4, ?_⟩
          refine ⟨fun b6 => ?_, fun b6 => ?_⟩
          · rw [if_pos b6] at h
            refine ⟨T, T, T, ?_⟩
            obtain rfl := oi h
            exact ⟨T, T, rfl, rfl⟩
          · rw [if_neg (ff b6)] at h
            refine tI ?_
            refine ⟨fun b7 => ?_, fun b7 => ?_⟩
            · rw [if_pos (beq_t b7)] at h
              refine ⟨b7, ?_⟩
              obtain ⟨t8, ht8, h⟩ := of_bind h
              refine ⟨t8, ⟨status_signal.fun_ ht8, T⟩, ?_⟩
              refine ⟨b7, ?_⟩
              refine ⟨fun b9 => ?_, fun b9 => ?_⟩
              · rw [if_pos b9] at h
                refine ⟨T, T, ?_⟩
                refine ⟨(by decide), ?_⟩
                refine ⟨T, T, ?_⟩
                obtain rfl := oi h
                exact ⟨T, T, rfl, rfl⟩
              · rw [if_neg (ff b9)] at h
                refine tI ?_
                refine ⟨fun b10 => ?_, fun b10 => ?_⟩
                · rw [if_pos (beq_t b10)] at h
                  refine ⟨b10, ?_⟩
                  obtain ⟨t11, ht11, h⟩ := of_bind h
                  refine ⟨t11, ⟨status_signal.fun_ ht11, T⟩, ?_⟩
                  refine ⟨b10, ?_⟩
                  refine ⟨fun b12 => ?_, fun b12 => ?_⟩
                  · rw [if_pos b12] at h
                    refine ⟨T, T, T, ?_⟩
                    refine ⟨(by decide), ?_⟩
                    refine ⟨T, T, ?_⟩
                    obtain rfl := oi h
                    exact ⟨T, T, rfl, rfl⟩
                  · rw [if_neg (ff b12)] at h
                    refine ⟨T, T, T, ?_⟩
                    obtain rfl := oi h
                    exact ⟨T, T, rfl, rfl⟩
                · rw [if_neg (beq_f b10)] at h
                  refine ⟨b10, ?_⟩
                  refine ⟨b10, ?_⟩
                  refine ⟨rfl, T, T, T, ?_⟩
                  obtain rfl := oi h
                  exact ⟨T, T, rfl, rfl⟩
            · rw [if_neg (beq_f b7)] at h
              refine ⟨b7, ?_⟩
              refine ⟨b7, ?_⟩
              refine ⟨rfl, T, ?_⟩
              refine ⟨fun b13 => ?_, fun b13 => ?_⟩
              · rw [if_pos (beq_t b13)] at h
                refine ⟨b13, ?_⟩
                obtain ⟨t14, ht14, h⟩ := of_bind h
                refine ⟨t14, ⟨status_signal.fun_ ht14, T⟩, ?_⟩
                refine ⟨b13, ?_⟩
                refine ⟨fun b15 => ?_, fun b15 => ?_⟩
                · rw [if_pos b15] at h
                  refine ⟨T, T, T, ?_⟩
                  refine ⟨(by decide), ?_⟩
                  refine ⟨T, T, ?_⟩
                  obtain rfl := oi h
                  exact ⟨T, T, rfl, rfl⟩
                · rw [if_neg (ff b15)] at h
                  refine ⟨T, T, T, ?_⟩
                  obtain rfl := oi h
                  exact ⟨T, T, rfl, rfl⟩
              · rw [if_neg (beq_f b13)] at h
                refine ⟨b13, ?_⟩
                refine ⟨b13, ?_⟩
                refine ⟨rfl, T, T, T, ?_⟩
                obtain rfl := oi h
                exact ⟨T, T, rfl, rfl⟩
        · rw [if_neg (beq_f b4)] at h
          refine ⟨b4, ?_⟩
          refine ⟨b4, ?_⟩
          refine ⟨rfl, T, ?_⟩
          refine ⟨fun b16 => ?_, fun b16 => ?_⟩
          · rw [if_pos (beq_t b16)] at h
            refine ⟨b16, ?_⟩
            obtain ⟨t17, ht17, h⟩ := of_bind h
            refine ⟨t17, ⟨status_signal.fun_ ht17, T⟩, ?_⟩
            refine ⟨b16, ?_⟩
            refine ⟨fun b18 => ?_, fun b18 => ?_⟩
            · rw [if_pos b18] at h
              refine ⟨T, T, ?_⟩
              refine ⟨(by decide), ?_⟩
              refine ⟨T, T, ?_⟩
              obtain rfl := oi h
              exact ⟨T, T, rfl, rfl⟩
            · rw [if_neg (ff b18)] at h
              refine tI ?_
              refine ⟨fun b19 => ?_, fun b19 => ?_⟩
              · rw [if_pos (beq_t b19)] at h
                refine ⟨b19, ?_⟩
                obtain ⟨t20, ht20, h⟩ := of_bind h
                refine ⟨t20, ⟨status_signal.fun_ ht20, T⟩, ?_⟩
                refine ⟨b19, ?_⟩
                refine ⟨fun b21 => ?_, fun b21 => ?_⟩
                · rw [if_pos b21] at h
                  refine ⟨T, T, T, ?_⟩
                  refine ⟨(by decide), ?_⟩
                  refine ⟨T, T, ?_⟩
                  obtain rfl := oi h
                  exact ⟨T, T, rfl, rfl⟩
                · rw [if_neg (ff b21)] at h
                  refine ⟨T, T, T, ?_⟩
                  obtain rfl := oi h
                  exact ⟨T, T, rfl, rfl⟩
              · rw [if_neg (beq_f b19)] at h
                refine ⟨b19, ?_⟩
                refine ⟨b19, ?_⟩
                refine ⟨rfl, T, T, T, ?_⟩
                obtain rfl := oi h
                exact ⟨T, T, rfl, rfl⟩
          · rw [if_neg (beq_f b16)] at h
            refine ⟨b16, ?_⟩
            refine ⟨b16, ?_⟩
            refine ⟨rfl, T, ?_⟩
            refine ⟨fun b22 => ?_, fun b22 => ?_⟩
            · rw [if_pos (beq_t b22)] at h
              refine ⟨b22, ?_⟩
              obtain ⟨t23, ht23, h⟩ := of_bind h
              refine ⟨t23, ⟨status_signal.fun_ ht23, T⟩, ?_⟩
              refine ⟨b22, ?_⟩
              refine ⟨fun b24 => ?_, fun b24 => ?_⟩
              · rw [if_pos b24] at h
                refine ⟨T, T, T, ?_⟩
                refine ⟨(by decide), ?_⟩
                refine ⟨T, T, ?_⟩
                obtain rfl := oi h
                exact ⟨T, T, rfl, rfl⟩
              · rw [if_neg (ff b24)] at h
                refine ⟨T, T, T, ?_⟩
                obtain rfl := oi h
                exact ⟨T, T, rfl, rfl⟩
            · rw [if_neg (beq_f b22)] at h
              refine ⟨b22, ?_⟩
              refine ⟨b22, ?_⟩
              refine ⟨rfl, T, T, T, ?_⟩
              obtain rfl := oi h
              exact ⟨T, T, rfl, rfl⟩
    · rw [if_neg (dF_ b2)] at h
      refine ⟨b2, ?_⟩
      refine ⟨b2, ?_⟩
      refine ⟨rfl, T, ?_⟩
      refine ⟨fun b25 => ?_, fun b25 => ?_⟩
      · rw [if_pos (beq_t b25)] at h
        refine ⟨b25, ?_⟩
        obtain ⟨t26, ht26, h⟩ := of_bind h
        refine ⟨t26, ⟨status_signal.fun_ ht26, T⟩, ?_⟩
        refine ⟨b25, ?_⟩
        refine ⟨fun b27 => ?_, fun b27 => ?_⟩
        · rw [if_pos b27] at h
          refine ⟨T, T, T, ?_⟩
          obtain rfl := oi h
          exact ⟨T, T, rfl, rfl⟩
        · rw [if_neg (ff b27)] at h
          refine tI ?_
          refine ⟨fun b28 => ?_, fun b28 => ?_⟩
          · rw [if_pos (beq_t b28)] at h
            refine ⟨b28, ?_⟩
            obtain ⟨t29, ht29, h⟩ := of_bind h
            refine ⟨t29, ⟨status_signal.fun_ ht29, T⟩, ?_⟩
            refine ⟨b28, ?_⟩
            refine ⟨fun b30 => ?_, fun b30 => ?_⟩
            · rw [if_pos b30] at h
              refine ⟨T, T, ?_⟩
              refine ⟨(by decide), ?_⟩
              refine ⟨T, T, ?_⟩
              obtain rfl := oi h
              exact ⟨T, T, rfl, rfl⟩
            · rw [if_neg (ff b30)] at h
              refine tI ?_
              refine ⟨fun b31 => ?_, fun b31 => ?_⟩
              · rw [if_pos (beq_t b31)] at h
                refine ⟨b31, ?_⟩
                obtain ⟨t32, ht32, h⟩ := of_bind h
                refine ⟨t32, ⟨status_signal.fun_ ht32, T⟩, ?_⟩
                refine ⟨b31, ?_⟩
                refine ⟨fun b33 => ?_, fun b33 => ?_⟩
                · rw [if_pos b33] at h
                  refine ⟨T, T, T, ?_⟩
                  refine ⟨(by decide), ?_⟩
                  refine ⟨T, T, ?_⟩
                  obtain rfl := oi h
                  exact ⟨T, T, rfl, rfl⟩
                · rw [if_neg (ff b33)] at h
                  refine ⟨T, T, T, ?_⟩
                  obtain rfl := oi h
                  exact ⟨T, T, rfl, rfl⟩
              · rw [if_neg (beq_f b31)] at h
                refine ⟨b31, ?_⟩
                refine ⟨b31, ?_⟩
                refine ⟨rfl, T, T, T, ?_⟩
                obtain rfl := oi h
                exact ⟨T, T, rfl, rfl⟩
          · rw [if_neg (beq_f b28)] at h
            refine ⟨b28, ?_⟩
            refine ⟨b28, ?_⟩
            refine ⟨rfl, T, ?_⟩
            refine ⟨fun b34 => ?_, fun b34 => ?_⟩
            · rw [if_pos (beq_t b34)] at h
              refine ⟨b34, ?_⟩
              obtain ⟨t35, ht35, h⟩ := of_bind h
              refine ⟨t35, ⟨status_signal.fun_ ht35, T⟩, ?_⟩
              refine ⟨b34, ?_⟩
              refine ⟨fun b36 => ?_, fun b36 => ?_⟩
              · rw [if_pos b36] at h
                refine ⟨T, T, T, ?_⟩
                refine ⟨(by decide), ?_⟩
                refine ⟨T, T, ?_⟩
                obtain rfl := oi h
                exact ⟨T, T, rfl, rfl⟩
              · rw [if_neg (ff b36)] at h
                refine ⟨T, T, T, ?_⟩
                obtain rfl := oi h
                exact ⟨T, T, rfl, rfl⟩
            · rw [if_neg (beq_f b34)] at h
              refine ⟨b34, ?_⟩
              refine ⟨b34, ?_⟩
              refine ⟨rfl, T, T, T, ?_⟩
              obtain rfl := oi h
              exact ⟨T, T, rfl, rfl⟩
      · rw [if_neg (beq_f b25)] at h
        refine ⟨b25, ?_⟩
        refine ⟨b25, ?_⟩
        refine ⟨rfl, T, ?_⟩
        refine ⟨fun b37 => ?_, fun b37 => ?_⟩
        · rw [if_pos (beq_t b37)] at h
          refine ⟨b37, ?_⟩
          obtain ⟨t38, ht38, h⟩ := of_bind h
          refine ⟨t38, ⟨status_signal.fun_ ht38, T⟩, ?_⟩
          refine ⟨b37, ?_⟩
          refine ⟨fun b39 => ?_, fun b39 => ?_⟩
          · rw [if_pos b39] at h
            refine ⟨T, T, ?_⟩
            refine ⟨(by decide), ?_⟩
            refine ⟨T, T, ?_⟩
            obtain rfl := oi h
            exact ⟨T, T, rfl, rfl⟩
          · rw [if_neg (ff b39)] at h
            refine tI ?_
            refine ⟨fun b40 => ?_, fun b40 => ?_⟩
            · rw [if_pos (beq_t b40)] at h
              refine ⟨b40, ?_⟩
              obtain ⟨t41, ht41, h⟩ := of_bind h
              refine ⟨t41, ⟨status_signal.fun_ ht41, T⟩, ?_⟩
              refine ⟨b40, ?_⟩
              refine ⟨fun b42 => ?_, fun b42 => ?_⟩
              · rw [if_pos b42] at h
                refine ⟨T, T, T, ?_⟩
                refine ⟨(by decide), ?_⟩
                refine ⟨T, T, ?_⟩
                obtain rfl := oi h
                exact ⟨T, T, rfl, rfl⟩
              · rw [if_neg (ff b42)] at h
                refine ⟨T, T, T, ?_⟩
                obtain rfl := oi h
                exact ⟨T, T, rfl, rfl⟩
            · rw [if_neg (beq_f b40)] at h
              refine ⟨b40, ?_⟩
              refine ⟨b40, ?_⟩
              refine ⟨rfl, T, T, T, ?_⟩
              obtain rfl := oi h
              exact ⟨T, T, rfl, rfl⟩
        · rw [if_neg (beq_f b37)] at h
          refine ⟨b37, ?_⟩
          refine ⟨b37, ?_⟩
          refine ⟨rfl, T, ?_⟩
          refine ⟨fun b43 => ?_, fun b43 => ?_⟩
          · rw [if_pos (beq_t b43)] at h
            refine ⟨b43, ?_⟩
            obtain ⟨t44, ht44, h⟩ := of_bind h
            refine ⟨t44, ⟨status_signal.fun_ ht44, T⟩, ?_⟩
            refine ⟨b43, ?_⟩
            refine ⟨fun b45 => ?_, fun b45 => ?_⟩
            · rw [if_pos b45] at h
              refine ⟨T, T, T, ?_⟩
              refine ⟨(by decide), ?_⟩
              refine ⟨T, T, ?_⟩
              obtain rfl := oi h
              exact ⟨T, T, rfl, rfl⟩
            · rw [if_neg (ff b45)] at h
              refine ⟨T, T, T, ?_⟩
              obtain rfl := oi h
              exact ⟨T, T, rfl, rfl⟩
          · rw [if_neg (beq_f b43)] at h
            refine ⟨b43, ?_⟩
            refine ⟨b43, ?_⟩
            refine ⟨rfl, T, T, T, ?_⟩
            obtain rfl := oi h
            exact ⟨T, T, rfl, rfl⟩
  · rw [if_neg (beq_f b1)] at h
    refine ⟨b1, ?_⟩
    refine ⟨b1, ?_⟩
    refine ⟨rfl, rfl, rfl, rfl, T, ?_⟩
    refine ⟨fun b46 => ?_, fun b46 => ?_⟩
    · rw [if_pos (beq_t b46)] at h
      refine ⟨b46, ?_⟩
      obtain ⟨t47, ht47, h⟩ := of_bind h
      refine ⟨t47, ⟨status_signal.fun_ ht47, T⟩, ?_⟩
      refine ⟨b46, ?_⟩
      refine ⟨fun b48 => ?_, fun b48 => ?_⟩
      · rw [if_pos b48] at h
        refine ⟨T, T, T, ?_⟩
        obtain rfl := oi h
        exact ⟨T, T, rfl, rfl⟩
      · rw [if_neg (ff b48)] at h
        refine tI ?_
        refine ⟨fun b49 => ?_, fun b49 => ?_⟩
        · rw [if_pos (beq_t b49)] at h
          refine ⟨b49, ?_⟩
          obtain ⟨t50, ht50, h⟩ := of_bind h
          refine ⟨t50, ⟨status_signal.fun_ ht50, T⟩, ?_⟩
          refine ⟨b49, ?_⟩
          refine ⟨fun b51 => ?_, fun b51 => ?_⟩
          · rw [if_pos b51] at h
            refine ⟨T, T, ?_⟩
            refine ⟨(by decide), ?_⟩
            refine ⟨T, T, ?_⟩
            obtain rfl := oi h
            exact ⟨T, T, rfl, rfl⟩
          · rw [if_neg (ff b51)] at h
            refine tI ?_
            refine ⟨fun b52 => ?_, fun b52 => ?_⟩
            · rw [if_pos (beq_t b52)] at h
              refine ⟨b52, ?_⟩
              obtain ⟨t53, ht53, h⟩ := of_bind h
              refine ⟨t53, ⟨status_signal.fun_ ht53, T⟩, ?_⟩
              refine ⟨b52, ?_⟩
              refine ⟨fun b54 => ?_, fun b54 => ?_⟩
              · rw [if_pos b54] at h
                refine ⟨T, T, T, ?_⟩
                refine ⟨(by decide), ?_⟩
                refine ⟨T, T, ?_⟩
                obtain rfl := oi h
                exact ⟨T, T, rfl, rfl⟩
              · rw [if_neg (ff b54)] at h
                refine ⟨T, T, T, ?_⟩
                obtain rfl := oi h
                exact ⟨T, T, rfl, rfl⟩
            · rw [if_neg (beq_f b52)] at h
              refine ⟨b52, ?_⟩
              refine ⟨b52, ?_⟩
              refine ⟨rfl, T, T, T, ?_⟩
              obtain rfl := oi h
              exact ⟨T, T, rfl, rfl⟩
        · rw [if_neg (beq_f b49)] at h
          refine ⟨b49, ?_⟩
          refine ⟨b49, ?_⟩
          refine ⟨rfl, T, ?_⟩
          refine ⟨fun b55 => ?_, fun b55 => ?_⟩
          · rw [if_pos (beq_t b55)] at h
            refine ⟨b55, ?_⟩
            obtain ⟨t56, ht56, h⟩ := of_bind h
            refine ⟨t56, ⟨status_signal.fun_ ht56, T⟩, ?_⟩
            refine ⟨b55, ?_⟩
            refine ⟨fun b57 => ?_, fun b57 => ?_⟩
            · rw [if_pos b57] at h
              refine ⟨T, T, T, ?_⟩
              refine ⟨(by decide), ?_⟩
              refine ⟨T, T, ?_⟩
              obtain rfl := oi h
              exact ⟨T, T, rfl, rfl⟩
            · rw [if_neg (ff b57)] at h
              refine ⟨T, T, T, ?_⟩
              obtain rfl := oi h
              exact ⟨T, T, rfl, rfl⟩
          · rw [if_neg (beq_f b55)] at h
            refine ⟨b55, ?_⟩
            refine ⟨b55, ?_⟩
            refine ⟨rfl, T, T, T, ?_⟩
            obtain rfl := oi h
            exact ⟨T, T, rfl, rfl⟩
    · rw [if_neg (beq_f b46)] at h
      refine ⟨b46, ?_⟩
      refine ⟨b46, ?_⟩
      refine ⟨rfl, T, ?_⟩
      refine ⟨fun b58 => ?_, fun b58 => ?_⟩
      · rw [if_pos (beq_t b58)] at h
        refine ⟨b58, ?_⟩
        obtain ⟨t59, ht59, h⟩ := of_bind h
        refine ⟨t59, ⟨status_signal.fun_ ht59, T⟩, ?_⟩
        refine ⟨b58, ?_⟩
        refine ⟨fun b60 => ?_, fun b60 => ?_⟩
        · rw [if_pos b60] at h
          refine ⟨T, T, ?_⟩
          refine ⟨(by decide), ?_⟩
          refine ⟨T, T, ?_⟩
          obtain rfl := oi h
          exact ⟨T, T, rfl, rfl⟩
        · rw [if_neg (ff b60)] at h
          refine tI ?_
          refine ⟨fun b61 => ?_, fun b61 => ?_⟩
          · rw [if_pos (beq_t b61)] at h
            refine ⟨b61, ?_⟩
            obtain ⟨t62, ht62, h⟩ := of_bind h
            refine ⟨t62, ⟨status_signal.fun_ ht62, T⟩, ?_⟩
            refine ⟨b61, ?_⟩
            refine ⟨fun b63 => ?_, fun b63 => ?_⟩
            · rw [if_pos b63] at h
              refine ⟨T, T, T, ?_⟩
              refine ⟨(by decide), ?_⟩
              refine ⟨T, T, ?_⟩
              obtain rfl := oi h
              exact ⟨T, T, rfl, rfl⟩
            · rw [if_neg (ff b63)] at h
              refine ⟨T, T, T, ?_⟩
              obtain rfl := oi h
              exact ⟨T, T, rfl, rfl⟩
          · rw [if_neg (beq_f b61)] at h
            refine ⟨b61, ?_⟩
            refine ⟨b61, ?_⟩
            refine ⟨rfl, T, T, T, ?_⟩
            obtain rfl := oi h
            exact ⟨T, T, rfl, rfl⟩
      · rw [if_neg (beq_f b58)] at h
        refine ⟨b58, ?_⟩
        refine ⟨b58, ?_⟩
        refine ⟨rfl, T, ?_⟩
        refine ⟨fun b64 => ?_, fun b64 => ?_⟩
        · rw [if_pos (beq_t b64)] at h
          refine ⟨b64, ?_⟩
          obtain ⟨t65, ht65, h⟩ := of_bind h
          refine ⟨t65, ⟨status_signal.fun_ ht65, T⟩, ?_⟩
          refine ⟨b64, ?_⟩
          refine ⟨fun b66 => ?_, fun b66 => ?_⟩
          · rw [if_pos b66] at h
            refine ⟨T, T, T, ?_⟩
            refine ⟨(by decide), ?_⟩
            refine ⟨T, T, ?_⟩
            obtain rfl := oi h
            exact ⟨T, T, rfl, rfl⟩
          · rw [if_neg (ff b66)] at h
            refine ⟨T, T, T, ?_⟩
            obtain rfl := oi h
            exact ⟨T, T, rfl, rfl⟩
        · rw [if_neg (beq_f b64)] at h
          refine ⟨b64, ?_⟩
          refine ⟨b64, ?_⟩
          refine ⟨rfl, T, T, T, ?_⟩
          obtain rfl := oi h
          exact ⟨T, T, rfl, rfl⟩
/-! halter/status.What -/
def status_What.f (a0 : Int) : Option (Int × Int × (Option Int)) :=
  (status_kind.f a0).bind fun t1 =>
  (status_Of.f t1.1 t1.2).bind fun t2 =>
  if ¬ (t2.2 = none) then
    some ((0 : Int), (0 : Int), (some (22 : Int)))
  else
    if ¬ t2.1 = a0 then
      some ((0 : Int), (0 : Int), (some (22 : Int)))
    else
      some (t1.1, t1.2, none)
def status_What.R (r : Int × Int × (Option Int)) : Tm := .tup [.one (.sc (.int .i64 r.1)), .one (.sc (.int .i64 r.2.1)), .one (.err r.2.2)]
theorem status_What.fun_ {a0 : Int} {r : Int × Int × (Option Int)} (h : status_What.f a0 = some r) : Fun cfg 75 [.one (.sc (.int .u32 a0))] [] (status_What.R r) [] := by
  unfold status_What.f at h
  refine fun_of_run cfg_ok (f := 75) (fn := Tryz.f75) Tryz.func75 rfl (by kernel_rfl) (rs := [.tmp 2, .tmp 3, .tmp 4]) rfl (nt := 30) rfl (l := fin) (k := (.call true [] (Int × Int) status_kind.R (fun t1 => (.call true [] (Int × (Option Int)) status_Of.R (fun t2 => (.br (oT 4 (aE 3 .nil)) (oF 3 (.br (aE 3 .nil) (aE 4 .nil))))))))) (to_goal (q := (∃ t1 : Int × Int, (Fun cfg 80 [.one (.sc (.int .u32 a0))] [] (status_kind.R t1) [] ∧ U) ∧ (∃ t2 : Int × (Option Int), (Fun cfg 81 [.one (.sc (.int .i64 t1.1)), .one (.sc (.int .i64 t1.2))] [] (status_Of.R t2) [] ∧ U) ∧ (U) ∧ (((!(Option.isNone t2.2)) = false → ((!(Option.isNone t2.2)) = false ∧ ((!(Option.isNone t2.2)) = false ∧ (U) ∧ ((!(Option.isNone t2.2)) = false ∧ (((t2.1 != a0) = true → (U ∧ (U ∧ ((U) ∧ (U) ∧ (.tup [.one (.sc (.int .i64 (0 : Int))), .one (.sc (.int .i64 (0 : Int))), .one (.err (some (22 : Int)))] : Tm) = status_What.R r ∧ ([] : List Box) = [])))) ∧ ((t2.1 != a0) = false → (U ∧ (U ∧ (U ∧ ((U) ∧ (U) ∧ (.tup [.one (.sc (.int .i64 t1.1)), .one (.sc (.int .i64 t1.2)), .one (.err none)] : Tm) = status_What.R r ∧ ([] : List Box) = [])))))))))) ∧ ((!(Option.isNone t2.2)) = true → ((!(Option.isNone t2.2)) = true ∧ ((!(Option.isNone t2.2)) = true ∧ ((!(Option.isNone t2.2)) = true ∧ (true = true ∧ (U ∧ (U ∧ ((U) ∧ (U) ∧ (.tup [.one (.sc (.int .i64 (0 : Int))), .one (.sc (.int .i64 (0 : Int))), .one (.err (some (22 : Int)))] : Tm) = status_What.R r ∧ ([] : List Box) = [])))))))))))) (by kernel_rfl) ?_)
  obtain ⟨t1, ht1, h⟩ := of_bind h
  refine ⟨t1, ⟨status_kind.fun_ ht1, T⟩, ?_⟩
  obtain ⟨t2, ht2, h⟩ := of_bind h
  refine ⟨t2, ⟨status_Of.fun_ ht2, T⟩, ?_⟩
  refine tI ?_
  refine ⟨fun b3 => ?_, fun b3 => ?_⟩
  · rw [if_neg (not_not_intro (none_t (not_f b3)))] at h
    refine ⟨b3, ?_⟩
    refine ⟨b3, ?_⟩
    refine tI ?_
    refine ⟨b3, ?_⟩
    refine ⟨fun b4 => ?_, fun b4 => ?_⟩
    · rw [if_pos (bne_t b4)] at h
      refine ⟨T, T, ?_⟩
      obtain rfl := oi h
      exact ⟨T, T, rfl, rfl⟩
    · rw [if_neg (not_not_intro (bne_f b4))] at h
      refine ⟨T, T, T, ?_⟩
      obtain rfl := oi h
      exact ⟨T, T, rfl, rfl⟩
  · rw [if_pos (none_f (not_t b3))] at h
    refine ⟨b3, ?_⟩
    refine ⟨b3, ?_⟩
    refine ⟨b3, ?_⟩
    refine ⟨rfl, T, T, ?_⟩
    obtain rfl := oi h
    exact ⟨T, T, rfl, rfl⟩
/-! halter/trace.report -/
def trace_report.f (a0 : Int) : Option Bool :=
  (status_What.f a0).bind fun t1 =>
  if t1.2.2 = none then
    if t1.1 = (2 : Int) then
      some true
    else
      some (t1.1 == (3 : Int))
  else
    some false
def trace_report.R (r : Bool) : Tm := .v (.one (.sc (.bool r)))
theorem trace_report.fun_ {a0 : Int} {r : Bool} (h : trace_report.f a0 = some r) : Fun cfg 61 [.one (.sc (.int .u32 a0))] [] (trace_report.R r) [] := by
  unfold trace_report.f at h
  refine fun_of_run cfg_ok (f := 61) (fn := Tryz.f61) Tryz.func61 rfl (by kernel_rfl) (rs := [.tmp 2]) rfl (nt := 22) rfl (l := fin) (k := (.call true [] (Int × Int × (Option Int)) status_What.R (fun t1 => (.br (oT 2 (.br (oT 4 (aE 2 .nil)) (.one false (.one true (.one false (.one true (aE 2 .nil))))))) (oF 4 (aE 2 .nil)))))) (to_goal (q := (∃ t1 : Int × Int × (Option Int), (Fun cfg 75 [.one (.sc (.int .u32 a0))] [] (status_What.R t1) [] ∧ U) ∧ (U) ∧ (((Option.isNone (z2 t1)) = true → ((Option.isNone (z2 t1)) = true ∧ (U) ∧ ((Option.isNone (z2 t1)) = true ∧ (((t1.1 == (2 : Int)) = false → ((t1.1 == (2 : Int)) = false ∧ (U) ∧ ((Option.isNone (z2 t1)) = true ∧ ((t1.1 == (2 : Int)) = false ∧ ((Option.isNone (z2 t1)) = true ∧ (U ∧ ((U) ∧ (U) ∧ (.v (.one (.sc (.bool (t1.1 == (3 : Int))))) : Tm) = trace_report.R r ∧ ([] : List Box) = []))))))) ∧ ((t1.1 == (2 : Int)) = true → ((t1.1 == (2 : Int)) = true ∧ ((Option.isNone (z2 t1)) = true ∧ ((t1.1 == (2 : Int)) = true ∧ ((Option.isNone (z2 t1)) = true ∧ (U ∧ ((U) ∧ (U) ∧ (.v (.one (.sc (.bool true))) : Tm) = trace_report.R r ∧ ([] : List Box) = []))))))))))) ∧ ((Option.isNone (z2 t1)) = false → ((Option.isNone (z2 t1)) = false ∧ ((Option.isNone (z2 t1)) = false ∧ ((Option.isNone (z2 t1)) = false ∧ ((Option.isNone (z2 t1)) = false ∧ (U ∧ ((U) ∧ (U) ∧ (.v (.one (.sc (.bool false))) : Tm) = trace_report.R r ∧ ([] : List Box) = [])))))))))) (by kernel_rfl) ?_)
  obtain ⟨t1, ht1, h⟩ := of_bind h
  refine ⟨t1, ⟨status_What.fun_ ht1, T⟩, ?_⟩
  refine tI ?_
  refine ⟨fun b2 => ?_, fun b2 => ?_⟩
  · rw [if_pos (none_t b2)] at h
    refine ⟨b2, ?_⟩
    refine tI ?_
    refine ⟨b2, ?_⟩
    refine ⟨fun b3 => ?_, fun b3 => ?_⟩
    · rw [if_neg (beq_f b3)] at h
      refine ⟨b3, ?_⟩
      refine tI ?_
      refine ⟨b2, ?_⟩
      refine ⟨b3, ?_⟩
      refine ⟨b2, ?_⟩
      refine tI ?_
      obtain rfl := oi h
      exact ⟨T, T, rfl, rfl⟩
    · rw [if_pos (beq_t b3)] at h
      refine ⟨b3, ?_⟩
      refine ⟨b2, ?_⟩
      refine ⟨b3, ?_⟩
      refine ⟨b2, ?_⟩
      refine tI ?_
      obtain rfl := oi h
      exact ⟨T, T, rfl, rfl⟩
  · rw [if_neg (none_f b2)] at h
    refine ⟨b2, ?_⟩
    refine ⟨b2, ?_⟩
    refine ⟨b2, ?_⟩
    refine ⟨b2, ?_⟩
    refine tI ?_
    obtain rfl := oi h
    exact ⟨T, T, rfl, rfl⟩
/-! halter/trace.Check -/
def trace_Check.f (a0 : Int) (a1 : Bool) (a2 : Int) (a3 : Int) (a4 : Int) (a5 : Bool) : Option (Option Int) :=
  if a0 = (0 : Int) then
    if ¬ ((a0 = (0 : Int) ∧ (a1 = false ∧ (a2 = (0 : Int) ∧ (a3 = (0 : Int) ∧ (a4 = (0 : Int) ∧ a5 = false)))))) then
      some (some (22 : Int))
    else
      some none
  else
    (pids_Check.f a0).bind fun t3 =>
    if t3 = none then
      (trace_mode.f a3).bind fun t5 =>
      if t5 = true then
        (trace_signal.f a4).bind fun t7 =>
        if ¬ (t7 = true) then
          some (some (22 : Int))
        else
          if ¬ a2 = (0 : Int) then
            if ¬ (a1 = true) then
              some (some (22 : Int))
            else
              (trace_report.f a2).bind fun t11 =>
              if ¬ (t11 = true) then
                some (some (22 : Int))
              else
                if a5 = true then
                  if ¬ a3 = (2 : Int) then
                    some (some (22 : Int))
                  else
                    some none
                else
                  some none
          else
            if a5 = true then
              if ¬ a3 = (2 : Int) then
                some (some (22 : Int))
              else
                some none
            else
              some none
      else
        some (some (22 : Int))
    else
      some (some (22 : Int))
def trace_Check.R (r : (Option Int)) : Tm := .v (.one (.err r))
theorem trace_Check.fun_ {a0 : Int} {a1 : Bool} {a2 : Int} {a3 : Int} {a4 : Int} {a5 : Bool} {r : (Option Int)} (h : trace_Check.f a0 a1 a2 a3 a4 a5 = some r) : Fun cfg 39 [.agg [.c (.sc (.int .i64 a0)), .c (.sc (.bool a1)), .c (.sc (.int .u32 a2)), .c (.sc (.int .i64 a3)), .c (.sc (.int .i64 a4)), .c (.sc (.bool a5))]] [] (trace_Check.R r) [] := by
  unfold trace_Check.f at h
  refine fun_of_run cfg_ok (f := 39) (fn := Tryz.f39) Tryz.func39 rfl (by kernel_rfl) (rs := [.tmp 2]) rfl (nt := 53) rfl (l := fin) (k := (.br (.br (aE 2 (.adj [.drop 0] .nil)) (aE 3 (.adj [.drop 0] .nil))) (.call true [] ((Option Int)) pids_Check.R (fun t3 => (.br (oT 2 (.call true [] (Bool) trace_mode.R (fun t5 => (.one true (.br (oT 2 (.call true [] (Bool) trace_signal.R (fun t7 => (.one true (.br (oT 11 (aE 2 (.adj [.drop 0] .nil))) (oF 3 (.br (oT 3 (.br (oT 5 (.one false (.one true (.one false (oT 6 (aE 2 (.adj [.drop 0] .nil))))))) (oF 2 (.call true [] (Bool) trace_report.R (fun t11 => (.one false (.one true (oF 2 (.one true (.one false (.br (oT 5 (aE 2 (.adj [.drop 0] .nil))) (oF 2 (.br (oT 2 (.one false (.one true (.one false (.br (aE 2 (.adj [.drop 0] .nil)) (aE 3 (.adj [.drop 0] .nil))))))) (oF 6 (aE 3 (.adj [.drop 0] .nil)))))))))))))))) (oF 10 (.br (oT 2 (.one false (.one true (.one false (.br (aE 2 (.adj [.drop 0] .nil)) (aE 3 (.adj [.drop 0] .nil))))))) (oF 6 (aE 3 (.adj [.drop 0] .nil)))))))))))) (oF 3 (oT 12 (aE 2 (.adj [.drop 0] .nil))))))))) (oF 7 (oT 12 (aE 2 (.adj [.drop 0] .nil))))))))) (to_goal (q := (U) ∧ (U) ∧ (((a0 == (0 : Int)) = true → (U) ∧ (U) ∧ (((!((a0 == (0 : Int)) && ((a1 == false) && ((a2 == (0 : Int)) && ((a3 == (0 : Int)) && ((a4 == (0 : Int)) && ((a5 == false) && true))))))) = true → (U ∧ (U ∧ ((U) ∧ ((U) ∧ U) ∧ (.v (.one (.err (some (22 : Int)))) : Tm) = trace_Check.R r ∧ ([] : List Box) = [])))) ∧ ((!((a0 == (0 : Int)) && ((a1 == false) && ((a2 == (0 : Int)) && ((a3 == (0 : Int)) && ((a4 == (0 : Int)) && ((a5 == false) && true))))))) = false → (U ∧ (U ∧ (U ∧ ((U) ∧ ((U) ∧ U) ∧ (.v (.one (.err none)) : Tm) = trace_Check.R r ∧ ([] : List Box) = []))))))) ∧ ((a0 == (0 : Int)) = false → (U) ∧ (∃ t3 : (Option Int), (Fun cfg 24 [.one (.sc (.int .i64 a0))] [] (pids_Check.R t3) [] ∧ U) ∧ (U) ∧ (((Option.isNone t3) = true → ((Option.isNone t3) = true ∧ (U) ∧ ((Option.isNone t3) = true ∧ (∃ t5 : Bool, (Fun cfg 59 [.one (.sc (.int .i64 a3))] [] (trace_mode.R t5) [] ∧ U) ∧ ((Option.isNone t3) = true ∧ ((t5 = true → (t5 = true ∧ (U) ∧ (t5 = true ∧ (∃ t7 : Bool, (Fun cfg 60 [.one (.sc (.int .i64 a4))] [] (trace_signal.R t7) [] ∧ U) ∧ (t5 = true ∧ (((!t7) = false → ((!t7) = false ∧ (U) ∧ ((!t7) = false ∧ (U) ∧ ((!t7) = false ∧ (((a2 != (0 : Int)) = true → ((a2 != (0 : Int)) = true ∧ (U) ∧ ((a2 != (0 : Int)) = true ∧ ((a2 != (0 : Int)) = true ∧ (((!a1) = false → ((!a1) = false ∧ (U) ∧ ((!a1) = false ∧ (∃ t11 : Bool, (Fun cfg 61 [.one (.sc (.int .u32 a2))] [] (trace_report.R t11) [] ∧ U) ∧ ((!a1) = false ∧ ((a2 != (0 : Int)) = true ∧ ((!a1) = false ∧ ((!t7) = false ∧ ((a2 != (0 : Int)) = true ∧ ((!t7) = false ∧ (((!t11) = false → ((!t11) = false ∧ (U) ∧ ((!t11) = false ∧ ((a5 = true → (a5 = true ∧ (U) ∧ (a5 = true ∧ (U) ∧ ((!t11) = false ∧ (a5 = true ∧ ((!t11) = false ∧ (((a3 != (2 : Int)) = true → (U ∧ (U ∧ ((U) ∧ ((U) ∧ U) ∧ (.v (.one (.err (some (22 : Int)))) : Tm) = trace_Check.R r ∧ ([] : List Box) = [])))) ∧ ((a3 != (2 : Int)) = false → (U ∧ (U ∧ (U ∧ ((U) ∧ ((U) ∧ U) ∧ (.v (.one (.err none)) : Tm) = trace_Check.R r ∧ ([] : List Box) = [])))))))))))) ∧ (a5 = false → (a5 = false ∧ (a5 = false ∧ ((!t11) = false ∧ (a5 = false ∧ ((!t11) = false ∧ (false = false ∧ (U ∧ (U ∧ (U ∧ ((U) ∧ ((U) ∧ U) ∧ (.v (.one (.err none)) : Tm) = trace_Check.R r ∧ ([] : List Box) = []))))))))))))))) ∧ ((!t11) = true → ((!t11) = true ∧ ((!t11) = true ∧ ((!t11) = true ∧ ((!t11) = true ∧ (true = true ∧ (U ∧ (U ∧ ((U) ∧ ((U) ∧ U) ∧ (.v (.one (.err (some (22 : Int)))) : Tm) = trace_Check.R r ∧ ([] : List Box) = [])))))))))))))))))))) ∧ ((!a1) = true → ((!a1) = true ∧ ((!a1) = true ∧ ((!a1) = true ∧ ((a2 != (0 : Int)) = true ∧ ((!a1) = true ∧ ((!t7) = false ∧ ((a2 != (0 : Int)) = true ∧ ((!t7) = false ∧ (true = true ∧ (true = true ∧ (true = true ∧ (true = true ∧ (true = true ∧ (true = true ∧ (U ∧ (U ∧ ((U) ∧ ((U) ∧ U) ∧ (.v (.one (.err (some (22 : Int)))) : Tm) = trace_Check.R r ∧ ([] : List Box) = []))))))))))))))))))))))) ∧ ((a2 != (0 : Int)) = false → ((a2 != (0 : Int)) = false ∧ ((a2 != (0 : Int)) = false ∧ ((a2 != (0 : Int)) = false ∧ ((a2 != (0 : Int)) = false ∧ ((!t7) = false ∧ ((a2 != (0 : Int)) = false ∧ ((!t7) = false ∧ (false = false ∧ (false = false ∧ (U) ∧ (false = false ∧ ((a5 = true → (a5 = true ∧ (U) ∧ (a5 = true ∧ (U) ∧ (false = false ∧ (a5 = true ∧ (false = false ∧ (((a3 != (2 : Int)) = true → (U ∧ (U ∧ ((U) ∧ ((U) ∧ U) ∧ (.v (.one (.err (some (22 : Int)))) : Tm) = trace_Check.R r ∧ ([] : List Box) = [])))) ∧ ((a3 != (2 : Int)) = false → (U ∧ (U ∧ (U ∧ ((U) ∧ ((U) ∧ U) ∧ (.v (.one (.err none)) : Tm) = trace_Check.R r ∧ ([] : List Box) = [])))))))))))) ∧ (a5 = false → (a5 = false ∧ (a5 = false ∧ (false = false ∧ (a5 = false ∧ (false = false ∧ (false = false ∧ (U ∧ (U ∧ (U ∧ ((U) ∧ ((U) ∧ U) ∧ (.v (.one (.err none)) : Tm) = trace_Check.R r ∧ ([] : List Box) = [])))))))))))))))))))))))))))) ∧ ((!t7) = true → ((!t7) = true ∧ ((!t7) = true ∧ ((!t7) = true ∧ ((!t7) = true ∧ ((!t7) = true ∧ (true = true ∧ (true = true ∧ (true = true ∧ (true = true ∧ (true = true ∧ (true = true ∧ (U ∧ (U ∧ ((U) ∧ ((U) ∧ U) ∧ (.v (.one (.err (some (22 : Int)))) : Tm) = trace_Check.R r ∧ ([] : List Box) = []))))))))))))))))))))) ∧ (t5 = false → (t5 = false ∧ (t5 = false ∧ (t5 = false ∧ (true = true ∧ (true = true ∧ (true = true ∧ (true = true ∧ (true = true ∧ (true = true ∧ (true = true ∧ (true = true ∧ (true = true ∧ (true = true ∧ (true = true ∧ (true = true ∧ (U ∧ (U ∧ ((U) ∧ ((U) ∧ U) ∧ (.v (.one (.err (some (22 : Int)))) : Tm) = trace_Check.R r ∧ ([] : List Box) = []))))))))))))))))))))))))) ∧ ((Option.isNone t3) = false → ((Option.isNone t3) = false ∧ ((Option.isNone t3) = false ∧ ((Option.isNone t3) = false ∧ (false = false ∧ (false = false ∧ (false = false ∧ (false = false ∧ (true = true ∧ (true = true ∧ (true = true ∧ (true = true ∧ (true = true ∧ (true = true ∧ (true = true ∧ (true = true ∧ (true = true ∧ (true = true ∧ (true = true ∧ (true = true ∧ (U ∧ (U ∧ ((U) ∧ ((U) ∧ U) ∧ (.v (.one (.err (some (22 : Int)))) : Tm) = trace_Check.R r ∧ ([] : List Box) = [])))))))))))))))))))))))))))) (by kernel_rfl) ?_)
  refine ⟨T, T, ?_⟩
  refine ⟨fun b1 => ?_, fun b1 => ?_⟩
  · rw [if_pos (beq_t b1)] at h
    refine ⟨T, T, ?_⟩
    refine ⟨fun b2 => ?_, fun b2 => ?_⟩
    · rw [if_pos (and_f (fun h => (beq_f h)) (fun h => (and_f (fun h => (bb_f h)) (fun h => (and_f (fun h => (beq_f h)) (fun h => (and_f (fun h => (beq_f h)) (fun h => (and_f (fun h => (beq_f h)) (fun h => (bb_f (and_l0 h))) h)) h)) h)) h)) (not_t b2))] at h
      refine ⟨T, T, ?_⟩
      obtain rfl := oi h
      exact ⟨T, ⟨T, T⟩, rfl, rfl⟩
    · rw [if_neg (not_not_intro (and_t (fun h => (beq_t h)) (fun h => (and_t (fun h => (bb_t h)) (fun h => (and_t (fun h => (beq_t h)) (fun h => (and_t (fun h => (beq_t h)) (fun h => (and_t (fun h => (beq_t h)) (fun h => (bb_t (and_l h))) h)) h)) h)) h)) (not_f b2)))] at h
      refine ⟨T, T, T, ?_⟩
      obtain rfl := oi h
      exact ⟨T, ⟨T, T⟩, rfl, rfl⟩
  · rw [if_neg (beq_f b1)] at h
    refine tI ?_
    obtain ⟨t3, ht3, h⟩ := of_bind h
    refine ⟨t3, ⟨pids_Check.fun_ ht3, T⟩, ?_⟩
    refine tI ?_
    refine ⟨fun b4 => ?_, fun b4 => ?_⟩
    · rw [if_pos (none_t b4)] at h
      refine ⟨b4, ?_⟩
      refine tI ?_
      refine ⟨b4, ?_⟩
      obtain ⟨t5, ht5, h⟩ := of_bind h
      refine ⟨t5, ⟨trace_mode.fun_ ht5, T⟩, ?_⟩
      refine ⟨b4, ?_⟩
      refine ⟨fun b6 => ?_, fun b6 => ?_⟩
      · rw [if_pos b6] at h
        refine ⟨b6, ?_⟩
        refine tI ?_
        refine ⟨b6, ?_⟩
        obtain ⟨t7, ht7, h⟩ := of_bind h
        refine ⟨t7, ⟨trace_signal.fun_ ht7, T⟩, ?_⟩
        refine ⟨b6, ?_⟩
        refine ⟨fun b8 => ?_, fun b8 => ?_⟩
        · rw [if_neg (not_not_intro (not_f b8))] at h
          refine ⟨b8, ?_⟩
          refine tI ?_
          refine ⟨b8, ?_⟩
          refine tI ?_
          refine ⟨b8, ?_⟩
          refine ⟨fun b9 => ?_, fun b9 => ?_⟩
          · rw [if_pos (bne_t b9)] at h
            refine ⟨b9, ?_⟩
            refine tI ?_
            refine ⟨b9, ?_⟩
            refine ⟨b9, ?_⟩
            refine ⟨fun b10 => ?_, fun b10 => ?_⟩
            · rw [if_neg (not_not_intro (not_f b10))] at h
              refine ⟨b10, ?_⟩
              refine tI ?_
              refine ⟨b10, ?_⟩
              obtain ⟨t11, ht11, h⟩ := of_bind h
              refine ⟨t11, ⟨trace_report.fun_ ht11, T⟩, ?_⟩
              refine ⟨b10, ?_⟩
              refine ⟨b9, ?_⟩
              refine ⟨b10, ?_⟩
              refine ⟨b8, ?_⟩
              refine ⟨b9, ?_⟩
              refine ⟨b8, ?_⟩
              refine ⟨fun b12 => ?_, fun b12 => ?_⟩
              · rw [if_neg (not_not_intro (not_f b12))] at h
                refine ⟨b12, ?_⟩
                refine tI ?_
                refine ⟨b12, ?_⟩
                refine ⟨fun b13 => ?_, fun b13 => ?_⟩
                · rw [if_pos b13] at h
                  refine ⟨b13, ?_⟩
                  refine tI ?_
                  refine ⟨b13, ?_⟩
                  refine tI ?_
                  refine ⟨b12, ?_⟩
                  refine ⟨b13, ?_⟩
                  refine ⟨b12, ?_⟩
                  refine ⟨fun b14 => ?_, fun b14 => ?_⟩
                  · rw [if_pos (bne_t b14)] at h
                    refine ⟨T, T, ?_⟩
                    obtain rfl := oi h
                    exact ⟨T, ⟨T, T⟩, rfl, rfl⟩
                  · rw [if_neg (not_not_intro (bne_f b14))] at h
                    refine ⟨T, T, T, ?_⟩
                    obtain rfl := oi h
                    exact ⟨T, ⟨T, T⟩, rfl, rfl⟩
                · rw [if_neg (ff b13)] at h
                  refine ⟨b13, ?_⟩
                  refine ⟨b13, ?_⟩
                  refine ⟨b12, ?_⟩
                  refine ⟨b13, ?_⟩
                  refine ⟨b12, ?_⟩
                  refine ⟨rfl, T, T, T, ?_⟩
                  obtain rfl := oi h
                  exact ⟨T, ⟨T, T⟩, rfl, rfl⟩
              · rw [if_pos (ff (not_t b12))] at h
                refine ⟨b12, ?_⟩
                refine ⟨b12, ?_⟩
                refine ⟨b12, ?_⟩
                refine ⟨b12, ?_⟩
                refine ⟨rfl, T, T, ?_⟩
                obtain rfl := oi h
                exact ⟨T, ⟨T, T⟩, rfl, rfl⟩
            · rw [if_pos (ff (not_t b10))] at h
              refine ⟨b10, ?_⟩
              refine ⟨b10, ?_⟩
              refine ⟨b10, ?_⟩
              refine ⟨b9, ?_⟩
              refine ⟨b10, ?_⟩
              refine ⟨b8, ?_⟩
              refine ⟨b9, ?_⟩
              refine ⟨b8, ?_⟩
              refine ⟨rfl, rfl, rfl, rfl, rfl, rfl, T, T, ?_⟩
              obtain rfl := oi h
              exact ⟨T, ⟨T, T⟩, rfl, rfl⟩
          · rw [if_neg (not_not_intro (bne_f b9))] at h
            refine ⟨b9, ?_⟩
            refine ⟨b9, ?_⟩
            refine ⟨b9, ?_⟩
            refine ⟨b9, ?_⟩
            refine ⟨b8, ?_⟩
            refine ⟨b9, ?_⟩
            refine ⟨b8, ?_⟩
            refine ⟨rfl, rfl, T, rfl, ?_⟩
            refine ⟨fun b15 => ?_, fun b15 => ?_⟩
            · rw [if_pos b15] at h
              refine ⟨b15, ?_⟩
              refine tI ?_
              refine ⟨b15, ?_⟩
              refine ⟨T, rfl, ?_⟩
              refine ⟨b15, ?_⟩
              refine ⟨rfl, ?_⟩
              refine ⟨fun b16 => ?_, fun b16 => ?_⟩
              · rw [if_pos (bne_t b16)] at h
                refine ⟨T, T, ?_⟩
                obtain rfl := oi h
                exact ⟨T, ⟨T, T⟩, rfl, rfl⟩
              · rw [if_neg (not_not_intro (bne_f b16))] at h
                refine ⟨T, T, T, ?_⟩
                obtain rfl := oi h
                exact ⟨T, ⟨T, T⟩, rfl, rfl⟩
            · rw [if_neg (ff b15)] at h
              refine ⟨b15, ?_⟩
              refine ⟨b15, ?_⟩
              refine ⟨rfl, ?_⟩
              refine ⟨b15, ?_⟩
              refine ⟨rfl, rfl, T, T, T, ?_⟩
              obtain rfl := oi h
              exact ⟨T, ⟨T, T⟩, rfl, rfl⟩
        · rw [if_pos (ff (not_t b8))] at h
          refine ⟨b8, ?_⟩
          refine ⟨b8, ?_⟩
          refine ⟨b8, ?_⟩
          refine ⟨b8, ?_⟩
          refine ⟨b8, ?_⟩
          refine ⟨rfl, rfl, rfl, rfl, rfl, rfl, T, T, ?_⟩
          obtain rfl := oi h
          exact ⟨T, ⟨T, T⟩, rfl, rfl⟩
      · rw [if_neg (ff b6)] at h
        refine ⟨b6, ?_⟩
        refine ⟨b6, ?_⟩
        refine ⟨b6, ?_⟩
        refine ⟨rfl, rfl, rfl, rfl, rfl, rfl, rfl, rfl, rfl, rfl, rfl, rfl, T, T, ?_⟩
        obtain rfl := oi h
        exact ⟨T, ⟨T, T⟩, rfl, rfl⟩
    · rw [if_neg (none_f b4)] at h
      refine ⟨b4, ?_⟩
      refine ⟨b4, ?_⟩
      refine ⟨b4, ?_⟩
      refine ⟨rfl, rfl, rfl, rfl, rfl, rfl, rfl, rfl, rfl, rfl, rfl, rfl, rfl, rfl, rfl, rfl, T, T, ?_⟩
      obtain rfl := oi h
      exact ⟨T, ⟨T, T⟩, rfl, rfl⟩
/-! halter/proc.Check -/
def proc_Check.c0 (a0 : Int) (a1 : Int) (a2 : ByteArray) (a3 : (List Int)) (a4 : Int) (a5 : Int) (a6 : (List Int)) (a7 : (List Int)) (a8 : Int) (a9 : Int) (a10 : (List Int)) (a11 : Int) (a12 : Bool) (a13 : Int) (a14 : Int) (a15 : Int) (a16 : Bool) (a17 : Bool) (a18 : Bool) (a19 : Int) (a20 : Int) : Box := .ex false [.c (.sc (.int .i64 a0)), .c (.sc (.int .i64 a1)), .c (.sc (.string a2)), .row 16 (.int .u32) a3, .c (.sc (.int .u32 a4)), .c (.sc (.int .u32 a5)), .row 4 (.int .u64) a6, .row 8 (.int .i64) a7, .c (.sc (.int .u32 a8)), .c (.sc (.int .u32 a9)), .row 32 (.int .u32) a10, .c (.sc (.int .i64 a11)), .c (.sc (.bool a12)), .c (.sc (.int .u32 a13)), .c (.sc (.int .i64 a14)), .c (.sc (.int .i64 a15)), .c (.sc (.bool a16)), .c (.sc (.bool a17)), .c (.sc (.bool a18)), .c (.sc (.int .i64 a19)), .c (.sc (.int .i64 a20))] 46
def proc_Check.j0 (a0 : Int) (a1 : Int) (a2 : ByteArray) (a3 : (List Int)) (a4 : Int) (a5 : Int) (a6 : (List Int)) (a7 : (List Int)) (a8 : Int) (a9 : Int) (a10 : (List Int)) (a11 : Int) (a12 : Bool) (a13 : Int) (a14 : Int) (a15 : Int) (a16 : Bool) (a17 : Bool) (a18 : Bool) (a19 : Int) (a20 : Int) : Option Bool :=
  (pids_Check.f a0).bind fun t8 =>
  if t8 = none then
    (cred_Check.f a1).bind fun t10 =>
    if t10 = none then
      (path_Check.f a2).bind fun t12 =>
      some (Option.isNone t12)
    else
      some false
  else
    some false
def proc_Check.j0_S (a0 : Int) (a1 : Int) (a2 : ByteArray) (a3 : (List Int)) (a4 : Int) (a5 : Int) (a6 : (List Int)) (a7 : (List Int)) (a8 : Int) (a9 : Int) (a10 : (List Int)) (a11 : Int) (a12 : Bool) (a13 : Int) (a14 : Int) (a15 : Int) (a16 : Bool) (a17 : Bool) (a18 : Bool) (a19 : Int) (a20 : Int) : St := ⟨[A, .v (.one (.ptr 0 ⟨0, 0, 0, 0⟩)), A, A, A, A, A, A, A, A, A, A, A, A, A, A, A, A, A, A, A, A, A, A, A, A, A, A, A, A, A, A, A, A, A, A, A, A, A, A, A, A, A, A, A, A, A, A, A, A, A, A, A, A, A, A, A, A, A, A, A, A, A, A, A, A, A, A, A, A, A, A, A, A, A, A, A, A, A, A, A, A], [.ex false [.c (.sc (.int .i64 a0)), .c (.sc (.int .i64 a1)), .c (.sc (.string a2)), .row 16 (.int .u32) a3, .c (.sc (.int .u32 a4)), .c (.sc (.int .u32 a5)), .row 4 (.int .u64) a6, .row 8 (.int .i64) a7, .c (.sc (.int .u32 a8)), .c (.sc (.int .u32 a9)), .row 32 (.int .u32) a10, .c (.sc (.int .i64 a11)), .c (.sc (.bool a12)), .c (.sc (.int .u32 a13)), .c (.sc (.int .i64 a14)), .c (.sc (.int .i64 a15)), .c (.sc (.bool a16)), .c (.sc (.bool a17)), .c (.sc (.bool a18)), .c (.sc (.int .i64 a19)), .c (.sc (.int .i64 a20))] 46], 0⟩
def proc_Check.j0_Q (a0 : Int) (a1 : Int) (a2 : ByteArray) (a3 : (List Int)) (a4 : Int) (a5 : Int) (a6 : (List Int)) (a7 : (List Int)) (a8 : Int) (a9 : Int) (a10 : (List Int)) (a11 : Int) (a12 : Bool) (a13 : Int) (a14 : Int) (a15 : Int) (a16 : Bool) (a17 : Bool) (a18 : Bool) (a19 : Int) (a20 : Int) (t : Bool) : Exit → St → Prop := fun e s => e = .normal ∧ s = ⟨[A, .v (.one (.ptr 0 ⟨0, 0, 0, 0⟩)), A, .v (.one (.sc (.bool t))), A, A, A, A, A, A, A, A, A, A, A, A, A, A, A, A, A, A, A, A, A, A, A, A, A, A, A, A, A, A, A, A, A, A, A, A, A, A, A, A, A, A, A, A, A, A, A, A, A, A, A, A, A, A, A, A, A, A, A, A, A, A, A, A, A, A, A, A, A, A, A, A, A, A, A, A, A, A], [.ex false [.c (.sc (.int .i64 a0)), .c (.sc (.int .i64 a1)), .c (.sc (.string a2)), .row 16 (.int .u32) a3, .c (.sc (.int .u32 a4)), .c (.sc (.int .u32 a5)), .row 4 (.int .u64) a6, .row 8 (.int .i64) a7, .c (.sc (.int .u32 a8)), .c (.sc (.int .u32 a9)), .row 32 (.int .u32) a10, .c (.sc (.int .i64 a11)), .c (.sc (.bool a12)), .c (.sc (.int .u32 a13)), .c (.sc (.int .i64 a14)), .c (.sc (.int .i64 a15)), .c (.sc (.bool a16)), .c (.sc (.bool a17)), .c (.sc (.bool a18)), .c (.sc (.int .i64 a19)), .c (.sc (.int .i64 a20))] 46], 0⟩
theorem proc_Check.j0_ok (a0 : Int) (a1 : Int) (a2 : ByteArray) (a3 : (List Int)) (a4 : Int) (a5 : Int) (a6 : (List Int)) (a7 : (List Int)) (a8 : Int) (a9 : Int) (a10 : (List Int)) (a11 : Int) (a12 : Bool) (a13 : Int) (a14 : Int) (a15 : Int) (a16 : Bool) (a17 : Bool) (a18 : Bool) (a19 : Int) (a20 : Int) (r : Bool) (h : proc_Check.j0 a0 a1 a2 a3 a4 a5 a6 a7 a8 a9 a10 a11 a12 a13 a14 a15 a16 a17 a18 a19 a20 = some r) : Trip cfg (cpath (Tryz.f20.body.getD .skip) [1, 0]) (proc_Check.j0_S a0 a1 a2 a3 a4 a5 a6 a7 a8 a9 a10 a11 a12 a13 a14 a15 a16 a17 a18 a19 a20) (proc_Check.j0_Q a0 a1 a2 a3 a4 a5 a6 a7 a8 a9 a10 a11 a12 a13 a14 a15 a16 a17 a18 a19 a20 r) := by
  unfold proc_Check.j0 at h
  refine Trip.of_run cfg_ok (k := (.call true [] ((Option Int)) pids_Check.R (fun t8 => (.br (oT 2 (.call true [] ((Option Int)) cred_Check.R (fun t10 => (oT 2 (.br (oT 2 (.call true [] ((Option Int)) path_Check.R (fun t12 => (oT 2 (.adj [.keep [1, 3], .drop 1] .nil))))) (oF 4 (.adj [.keep [1, 3], .drop 1] .nil))))))) (oF 9 (.adj [.keep [1, 3], .drop 1] .nil)))))) (to_goal (q := (U) ∧ (∃ t8 : (Option Int), (Fun cfg 24 [.one (.sc (.int .i64 a0))] [] (pids_Check.R t8) [] ∧ U) ∧ (U) ∧ (((Option.isNone t8) = true → ((Option.isNone t8) = true ∧ (U) ∧ ((Option.isNone t8) = true ∧ (∃ t10 : (Option Int), (Fun cfg 34 [.one (.sc (.int .i64 a1))] [] (cred_Check.R t10) [] ∧ U) ∧ ((Option.isNone t8) = true ∧ (U) ∧ ((Option.isNone t8) = true ∧ (((Option.isNone t10) = true → ((Option.isNone t10) = true ∧ (U) ∧ ((Option.isNone t10) = true ∧ (∃ t12 : (Option Int), (Fun cfg 35 [.one (.sc (.string a2))] [] (path_Check.R t12) [] ∧ U) ∧ ((Option.isNone t10) = true ∧ (U) ∧ ((Option.isNone t10) = true ∧ (((U) ∧ (U) ∧ U) ∧ proc_Check.j0_Q a0 a1 a2 a3 a4 a5 a6 a7 a8 a9 a10 a11 a12 a13 a14 a15 a16 a17 a18 a19 a20 r .normal ⟨[A, .v (.one (.ptr 0 ⟨0, 0, 0, 0⟩)), A, .v (.one (.sc (.bool (Option.isNone t12)))), A, A, A, A, A, A, A, A, A, A, A, A, A, A, A, A, A, A, A, A, A, A, A, A, A, A, A, A, A, A, A, A, A, A, A, A, A, A, A, A, A, A, A, A, A, A, A, A, A, A, A, A, A, A, A, A, A, A, A, A, A, A, A, A, A, A, A, A, A, A, A, A, A, A, A, A, A, A], [(proc_Check.c0 a0 a1 a2 a3 a4 a5 a6 a7 a8 a9 a10 a11 a12 a13 a14 a15 a16 a17 a18 a19 a20)], 0⟩))))))) ∧ ((Option.isNone t10) = false → ((Option.isNone t10) = false ∧ ((Option.isNone t10) = false ∧ ((Option.isNone t10) = false ∧ ((Option.isNone t10) = false ∧ (((U) ∧ (U) ∧ U) ∧ proc_Check.j0_Q a0 a1 a2 a3 a4 a5 a6 a7 a8 a9 a10 a11 a12 a13 a14 a15 a16 a17 a18 a19 a20 r .normal ⟨[A, .v (.one (.ptr 0 ⟨0, 0, 0, 0⟩)), A, .v (.one (.sc (.bool false))), A, A, A, A, A, A, A, A, A, A, A, A, A, A, A, A, A, A, A, A, A, A, A, A, A, A, A, A, A, A, A, A, A, A, A, A, A, A, A, A, A, A, A, A, A, A, A, A, A, A, A, A, A, A, A, A, A, A, A, A, A, A, A, A, A, A, A, A, A, A, A, A, A, A, A, A, A, A], [(proc_Check.c0 a0 a1 a2 a3 a4 a5 a6 a7 a8 a9 a10 a11 a12 a13 a14 a15 a16 a17 a18 a19 a20)], 0⟩))))))))))))) ∧ ((Option.isNone t8) = false → ((Option.isNone t8) = false ∧ ((Option.isNone t8) = false ∧ ((Option.isNone t8) = false ∧ ((Option.isNone t8) = false ∧ (false = false ∧ (false = false ∧ (false = false ∧ (false = false ∧ (false = false ∧ (((U) ∧ (U) ∧ U) ∧ proc_Check.j0_Q a0 a1 a2 a3 a4 a5 a6 a7 a8 a9 a10 a11 a12 a13 a14 a15 a16 a17 a18 a19 a20 r .normal ⟨[A, .v (.one (.ptr 0 ⟨0, 0, 0, 0⟩)), A, .v (.one (.sc (.bool false))), A, A, A, A, A, A, A, A, A, A, A, A, A, A, A, A, A, A, A, A, A, A, A, A, A, A, A, A, A, A, A, A, A, A, A, A, A, A, A, A, A, A, A, A, A, A, A, A, A, A, A, A, A, A, A, A, A, A, A, A, A, A, A, A, A, A, A, A, A, A, A, A, A, A, A, A, A, A], [(proc_Check.c0 a0 a1 a2 a3 a4 a5 a6 a7 a8 a9 a10 a11 a12 a13 a14 a15 a16 a17 a18 a19 a20)], 0⟩)))))))))))))) (by kernel_rfl) ?_)
  refine tI ?_
  obtain ⟨t8, ht8, h⟩ := of_bind h
  refine ⟨t8, ⟨pids_Check.fun_ ht8, T⟩, ?_⟩
  refine tI ?_
  refine ⟨fun b9 => ?_, fun b9 => ?_⟩
  · rw [if_pos (none_t b9)] at h
    refine ⟨b9, ?_⟩
    refine tI ?_
    refine ⟨b9, ?_⟩
    obtain ⟨t10, ht10, h⟩ := of_bind h
    refine ⟨t10, ⟨cred_Check.fun_ ht10, T⟩, ?_⟩
    refine ⟨b9, ?_⟩
    refine tI ?_
    refine ⟨b9, ?_⟩
    refine ⟨fun b11 => ?_, fun b11 => ?_⟩
    · rw [if_pos (none_t b11)] at h
      refine ⟨b11, ?_⟩
      refine tI ?_
      refine ⟨b11, ?_⟩
      obtain ⟨t12, ht12, h⟩ := of_bind h
      refine ⟨t12, ⟨path_Check.fun_ ht12, T⟩, ?_⟩
      refine ⟨b11, ?_⟩
      refine tI ?_
      refine ⟨b11, ?_⟩
      obtain rfl := oi h
      exact ⟨⟨T, T, T⟩, rfl, rfl⟩
    · rw [if_neg (none_f b11)] at h
      refine ⟨b11, ?_⟩
      refine ⟨b11, ?_⟩
      refine ⟨b11, ?_⟩
      refine ⟨b11, ?_⟩
      obtain rfl := oi h
      exact ⟨⟨T, T, T⟩, rfl, rfl⟩
  · rw [if_neg (none_f b9)] at h
    refine ⟨b9, ?_⟩
    refine ⟨b9, ?_⟩
    refine ⟨b9, ?_⟩
    refine ⟨b9, ?_⟩
    refine ⟨rfl, rfl, rfl, rfl, rfl, ?_⟩
    obtain rfl := oi h
    exact ⟨⟨T, T, T⟩, rfl, rfl⟩
def proc_Check.j1 (t7 : Bool) (a0 : Int) (a1 : Int) (a2 : ByteArray) (a3 : (List Int)) (a4 : Int) (a5 : Int) (a6 : (List Int)) (a7 : (List Int)) (a8 : Int) (a9 : Int) (a10 : (List Int)) (a11 : Int) (a12 : Bool) (a13 : Int) (a14 : Int) (a15 : Int) (a16 : Bool) (a17 : Bool) (a18 : Bool) (a19 : Int) (a20 : Int) : Option Bool :=
  (regs_Check.f a3 a4 a5 a6).bind fun t24 =>
  if t24 = none then
    (fds_Check.f a7).bind fun t26 =>
    if t26 = none then
      (sig_Check.f a8 a9 a10).bind fun t28 =>
      if t28 = none then
        (trace_Check.f a11 a12 a13 a14 a15 a16).bind fun t30 =>
        some (Option.isNone t30)
      else
        some false
    else
      some false
  else
    some false
def proc_Check.j1_S (t7 : Bool) (a0 : Int) (a1 : Int) (a2 : ByteArray) (a3 : (List Int)) (a4 : Int) (a5 : Int) (a6 : (List Int)) (a7 : (List Int)) (a8 : Int) (a9 : Int) (a10 : (List Int)) (a11 : Int) (a12 : Bool) (a13 : Int) (a14 : Int) (a15 : Int) (a16 : Bool) (a17 : Bool) (a18 : Bool) (a19 : Int) (a20 : Int) : St := ⟨[A, .v (.one (.ptr 0 ⟨0, 0, 0, 0⟩)), A, .v (.one (.sc (.bool t7))), A, A, A, A, A, A, A, A, A, A, A, A, A, A, A, A, A, A, A, A, A, A, A, A, A, A, A, A, A, A, A, A, A, A, A, A, A, A, A, A, A, A, A, A, A, A, A, A, A, A, A, A, A, A, A, A, A, A, A, A, A, A, A, A, A, A, A, A, A, A, A, A, A, A, A, A, A, A], [.ex false [.c (.sc (.int .i64 a0)), .c (.sc (.int .i64 a1)), .c (.sc (.string a2)), .row 16 (.int .u32) a3, .c (.sc (.int .u32 a4)), .c (.sc (.int .u32 a5)), .row 4 (.int .u64) a6, .row 8 (.int .i64) a7, .c (.sc (.int .u32 a8)), .c (.sc (.int .u32 a9)), .row 32 (.int .u32) a10, .c (.sc (.int .i64 a11)), .c (.sc (.bool a12)), .c (.sc (.int .u32 a13)), .c (.sc (.int .i64 a14)), .c (.sc (.int .i64 a15)), .c (.sc (.bool a16)), .c (.sc (.bool a17)), .c (.sc (.bool a18)), .c (.sc (.int .i64 a19)), .c (.sc (.int .i64 a20))] 46], 0⟩
def proc_Check.j1_Q (t7 : Bool) (a0 : Int) (a1 : Int) (a2 : ByteArray) (a3 : (List Int)) (a4 : Int) (a5 : Int) (a6 : (List Int)) (a7 : (List Int)) (a8 : Int) (a9 : Int) (a10 : (List Int)) (a11 : Int) (a12 : Bool) (a13 : Int) (a14 : Int) (a15 : Int) (a16 : Bool) (a17 : Bool) (a18 : Bool) (a19 : Int) (a20 : Int) (t : Bool) : Exit → St → Prop := fun e s => e = .normal ∧ s = ⟨[A, .v (.one (.ptr 0 ⟨0, 0, 0, 0⟩)), A, .v (.one (.sc (.bool t7))), .v (.one (.sc (.bool t))), A, A, A, A, A, A, A, A, A, A, A, A, A, A, A, A, A, A, A, A, A, A, A, A, A, A, A, A, A, A, A, A, A, A, A, A, A, A, A, A, A, A, A, A, A, A, A, A, A, A, A, A, A, A, A, A, A, A, A, A, A, A, A, A, A, A, A, A, A, A, A, A, A, A, A, A, A], [.ex false [.c (.sc (.int .i64 a0)), .c (.sc (.int .i64 a1)), .c (.sc (.string a2)), .row 16 (.int .u32) a3, .c (.sc (.int .u32 a4)), .c (.sc (.int .u32 a5)), .row 4 (.int .u64) a6, .row 8 (.int .i64) a7, .c (.sc (.int .u32 a8)), .c (.sc (.int .u32 a9)), .row 32 (.int .u32) a10, .c (.sc (.int .i64 a11)), .c (.sc (.bool a12)), .c (.sc (.int .u32 a13)), .c (.sc (.int .i64 a14)), .c (.sc (.int .i64 a15)), .c (.sc (.bool a16)), .c (.sc (.bool a17)), .c (.sc (.bool a18)), .c (.sc (.int .i64 a19)), .c (.sc (.int .i64 a20))] 46], 0⟩
theorem proc_Check.j1_ok (t7 : Bool) (a0 : Int) (a1 : Int) (a2 : ByteArray) (a3 : (List Int)) (a4 : Int) (a5 : Int) (a6 : (List Int)) (a7 : (List Int)) (a8 : Int) (a9 : Int) (a10 : (List Int)) (a11 : Int) (a12 : Bool) (a13 : Int) (a14 : Int) (a15 : Int) (a16 : Bool) (a17 : Bool) (a18 : Bool) (a19 : Int) (a20 : Int) (r : Bool) (h : proc_Check.j1 t7 a0 a1 a2 a3 a4 a5 a6 a7 a8 a9 a10 a11 a12 a13 a14 a15 a16 a17 a18 a19 a20 = some r) : Trip cfg (cpath (Tryz.f20.body.getD .skip) [1, 1, 0]) (proc_Check.j1_S t7 a0 a1 a2 a3 a4 a5 a6 a7 a8 a9 a10 a11 a12 a13 a14 a15 a16 a17 a18 a19 a20) (proc_Check.j1_Q t7 a0 a1 a2 a3 a4 a5 a6 a7 a8 a9 a10 a11 a12 a13 a14 a15 a16 a17 a18 a19 a20 r) := by
  unfold proc_Check.j1 at h
  refine Trip.of_run cfg_ok (k := (.call true [] ((Option Int)) regs_Check.R (fun t24 => (.br (oT 2 (.call true [] ((Option Int)) fds_Check.R (fun t26 => (oT 2 (.br (oT 2 (.call true [] ((Option Int)) sig_Check.R (fun t28 => (oT 2 (.br (oT 2 (.call true [] ((Option Int)) trace_Check.R (fun t30 => (oT 2 (.adj [.keep [1, 3, 4], .drop 1] .nil))))) (oF 4 (.adj [.keep [1, 3, 4], .drop 1] .nil))))))) (oF 9 (.adj [.keep [1, 3, 4], .drop 1] .nil))))))) (oF 14 (.adj [.keep [1, 3, 4], .drop 1] .nil)))))) (to_goal (q := (U) ∧ (∃ t24 : (Option Int), (Fun cfg 36 [.agg [.row 16 (.int .u32) a3, .c (.sc (.int .u32 a4)), .c (.sc (.int .u32 a5)), .row 4 (.int .u64) a6]] [] (regs_Check.R t24) [] ∧ U) ∧ (U) ∧ (((Option.isNone t24) = true → ((Option.isNone t24) = true ∧ (U) ∧ ((Option.isNone t24) = true ∧ (∃ t26 : (Option Int), (Fun cfg 37 [.agg [.row 8 (.int .i64) a7]] [] (fds_Check.R t26) [] ∧ U) ∧ ((Option.isNone t24) = true ∧ (U) ∧ ((Option.isNone t24) = true ∧ (((Option.isNone t26) = true → ((Option.isNone t26) = true ∧ (U) ∧ ((Option.isNone t26) = true ∧ (∃ t28 : (Option Int), (Fun cfg 38 [.agg [.c (.sc (.int .u32 a8)), .c (.sc (.int .u32 a9)), .row 32 (.int .u32) a10]] [] (sig_Check.R t28) [] ∧ U) ∧ ((Option.isNone t26) = true ∧ (U) ∧ ((Option.isNone t26) = true ∧ (((Option.isNone t28) = true → ((Option.isNone t28) = true ∧ (U) ∧ ((Option.isNone t28) = true ∧ (∃ t30 : (Option Int), (Fun cfg 39 [.agg [.c (.sc (.int .i64 a11)), .c (.sc (.bool a12)), .c (.sc (.int .u32 a13)), .c (.sc (.int .i64 a14)), .c (.sc (.int .i64 a15)), .c (.sc (.bool a16))]] [] (trace_Check.R t30) [] ∧ U) ∧ ((Option.isNone t28) = true ∧ (U) ∧ ((Option.isNone t28) = true ∧ (((U) ∧ (U) ∧ U) ∧ proc_Check.j1_Q t7 a0 a1 a2 a3 a4 a5 a6 a7 a8 a9 a10 a11 a12 a13 a14 a15 a16 a17 a18 a19 a20 r .normal ⟨[A, .v (.one (.ptr 0 ⟨0, 0, 0, 0⟩)), A, .v (.one (.sc (.bool t7))), .v (.one (.sc (.bool (Option.isNone t30)))), A, A, A, A, A, A, A, A, A, A, A, A, A, A, A, A, A, A, A, A, A, A, A, A, A, A, A, A, A, A, A, A, A, A, A, A, A, A, A, A, A, A, A, A, A, A, A, A, A, A, A, A, A, A, A, A, A, A, A, A, A, A, A, A, A, A, A, A, A, A, A, A, A, A, A, A, A], [(proc_Check.c0 a0 a1 a2 a3 a4 a5 a6 a7 a8 a9 a10 a11 a12 a13 a14 a15 a16 a17 a18 a19 a20)], 0⟩))))))) ∧ ((Option.isNone t28) = false → ((Option.isNone t28) = false ∧ ((Option.isNone t28) = false ∧ ((Option.isNone t28) = false ∧ ((Option.isNone t28) = false ∧ (((U) ∧ (U) ∧ U) ∧ proc_Check.j1_Q t7 a0 a1 a2 a3 a4 a5 a6 a7 a8 a9 a10 a11 a12 a13 a14 a15 a16 a17 a18 a19 a20 r .normal ⟨[A, .v (.one (.ptr 0 ⟨0, 0, 0, 0⟩)), A, .v (.one (.sc (.bool t7))), .v (.one (.sc (.bool false))), A, A, A, A, A, A, A, A, A, A, A, A, A, A, A, A, A, A, A, A, A, A, A, A, A, A, A, A, A, A, A, A, A, A, A, A, A, A, A, A, A, A, A, A, A, A, A, A, A, A, A, A, A, A, A, A, A, A, A, A, A, A, A, A, A, A, A, A, A, A, A, A, A, A, A, A, A], [(proc_Check.c0 a0 a1 a2 a3 a4 a5 a6 a7 a8 a9 a10 a11 a12 a13 a14 a15 a16 a17 a18 a19 a20)], 0⟩))))))))))))) ∧ ((Option.isNone t26) = false → ((Option.isNone t26) = false ∧ ((Option.isNone t26) = false ∧ ((Option.isNone t26) = false ∧ ((Option.isNone t26) = false ∧ (false = false ∧ (false = false ∧ (false = false ∧ (false = false ∧ (false = false ∧ (((U) ∧ (U) ∧ U) ∧ proc_Check.j1_Q t7 a0 a1 a2 a3 a4 a5 a6 a7 a8 a9 a10 a11 a12 a13 a14 a15 a16 a17 a18 a19 a20 r .normal ⟨[A, .v (.one (.ptr 0 ⟨0, 0, 0, 0⟩)), A, .v (.one (.sc (.bool t7))), .v (.one (.sc (.bool false))), A, A, A, A, A, A, A, A, A, A, A, A, A, A, A, A, A, A, A, A, A, A, A, A, A, A, A, A, A, A, A, A, A, A, A, A, A, A, A, A, A, A, A, A, A, A, A, A, A, A, A, A, A, A, A, A, A, A, A, A, A, A, A, A, A, A, A, A, A, A, A, A, A, A, A, A, A], [(proc_Check.c0 a0 a1 a2 a3 a4 a5 a6 a7 a8 a9 a10 a11 a12 a13 a14 a15 a16 a17 a18 a19 a20)], 0⟩)))))))))))))))))) ∧ ((Option.isNone t24) = false → ((Option.isNone t24) = false ∧ ((Option.isNone t24) = false ∧ ((Option.isNone t24) = false ∧ ((Option.isNone t24) = false ∧ (false = false ∧ (false = false ∧ (false = false ∧ (false = false ∧ (false = false ∧ (false = false ∧ (false = false ∧ (false = false ∧ (false = false ∧ (false = false ∧ (((U) ∧ (U) ∧ U) ∧ proc_Check.j1_Q t7 a0 a1 a2 a3 a4 a5 a6 a7 a8 a9 a10 a11 a12 a13 a14 a15 a16 a17 a18 a19 a20 r .normal ⟨[A, .v (.one (.ptr 0 ⟨0, 0, 0, 0⟩)), A, .v (.one (.sc (.bool t7))), .v (.one (.sc (.bool false))), A, A, A, A, A, A, A, A, A, A, A, A, A, A, A, A, A, A, A, A, A, A, A, A, A, A, A, A, A, A, A, A, A, A, A, A, A, A, A, A, A, A, A, A, A, A, A, A, A, A, A, A, A, A, A, A, A, A, A, A, A, A, A, A, A, A, A, A, A, A, A, A, A, A, A, A, A], [(proc_Check.c0 a0 a1 a2 a3 a4 a5 a6 a7 a8 a9 a10 a11 a12 a13 a14 a15 a16 a17 a18 a19 a20)], 0⟩))))))))))))))))))) (by kernel_rfl) ?_)
  refine tI ?_
  obtain ⟨t24, ht24, h⟩ := of_bind h
  refine ⟨t24, ⟨regs_Check.fun_ ht24, T⟩, ?_⟩
  refine tI ?_
  refine ⟨fun b25 => ?_, fun b25 => ?_⟩
  · rw [if_pos (none_t b25)] at h
    refine ⟨b25, ?_⟩
    refine tI ?_
    refine ⟨b25, ?_⟩
    obtain ⟨t26, ht26, h⟩ := of_bind h
    refine ⟨t26, ⟨fds_Check.fun_ ht26, T⟩, ?_⟩
    refine ⟨b25, ?_⟩
    refine tI ?_
    refine ⟨b25, ?_⟩
    refine ⟨fun b27 => ?_, fun b27 => ?_⟩
    · rw [if_pos (none_t b27)] at h
      refine ⟨b27, ?_⟩
      refine tI ?_
      refine ⟨b27, ?_⟩
      obtain ⟨t28, ht28, h⟩ := of_bind h
      refine ⟨t28, ⟨sig_Check.fun_ ht28, T⟩, ?_⟩
      refine ⟨b27, ?_⟩
      refine tI ?_
      refine ⟨b27, ?_⟩
      refine ⟨fun b29 => ?_, fun b29 => ?_⟩
      · rw [if_pos (none_t b29)] at h
        refine ⟨b29, ?_⟩
        refine tI ?_
        refine ⟨b29, ?_⟩
        obtain ⟨t30, ht30, h⟩ := of_bind h
        refine ⟨t30, ⟨trace_Check.fun_ ht30, T⟩, ?_⟩
        refine ⟨b29, ?_⟩
        refine tI ?_
        refine ⟨b29, ?_⟩
        obtain rfl := oi h
        exact ⟨⟨T, T, T⟩, rfl, rfl⟩
      · rw [if_neg (none_f b29)] at h
        refine ⟨b29, ?_⟩
        refine ⟨b29, ?_⟩
        refine ⟨b29, ?_⟩
        refine ⟨b29, ?_⟩
        obtain rfl := oi h
        exact ⟨⟨T, T, T⟩, rfl, rfl⟩
    · rw [if_neg (none_f b27)] at h
      refine ⟨b27, ?_⟩
      refine ⟨b27, ?_⟩
      refine ⟨b27, ?_⟩
      refine ⟨b27, ?_⟩
      refine ⟨rfl, rfl, rfl, rfl, rfl, ?_⟩
      obtain rfl := oi h
      exact ⟨⟨T, T, T⟩, rfl, rfl⟩
  · rw [if_neg (none_f b25)] at h
    refine ⟨b25, ?_⟩
    refine ⟨b25, ?_⟩
    refine ⟨b25, ?_⟩
    refine ⟨b25, ?_⟩
    refine ⟨rfl, rfl, rfl, rfl, rfl, rfl, rfl, rfl, rfl, rfl, ?_⟩
    obtain rfl := oi h
    exact ⟨⟨T, T, T⟩, rfl, rfl⟩
def proc_Check.j2 (t7 : Bool) (t23 : Bool) (a0 : Int) (a1 : Int) (a2 : ByteArray) (a3 : (List Int)) (a4 : Int) (a5 : Int) (a6 : (List Int)) (a7 : (List Int)) (a8 : Int) (a9 : Int) (a10 : (List Int)) (a11 : Int) (a12 : Bool) (a13 : Int) (a14 : Int) (a15 : Int) (a16 : Bool) (a17 : Bool) (a18 : Bool) (a19 : Int) (a20 : Int) : Option Bool :=
  if a19 ≥ (0 : Int) then
    if a19 < (30 : Int) then
      if a20 ≥ (0 : Int) then
        if a20 ≤ (4080 : Int) then
          if a17 = true then
            some true
          else
            some (!a18)
        else
          some false
      else
        some false
    else
      some false
  else
    some false
def proc_Check.j2_S (t7 : Bool) (t23 : Bool) (a0 : Int) (a1 : Int) (a2 : ByteArray) (a3 : (List Int)) (a4 : Int) (a5 : Int) (a6 : (List Int)) (a7 : (List Int)) (a8 : Int) (a9 : Int) (a10 : (List Int)) (a11 : Int) (a12 : Bool) (a13 : Int) (a14 : Int) (a15 : Int) (a16 : Bool) (a17 : Bool) (a18 : Bool) (a19 : Int) (a20 : Int) : St := ⟨[A, .v (.one (.ptr 0 ⟨0, 0, 0, 0⟩)), A, .v (.one (.sc (.bool t7))), .v (.one (.sc (.bool t23))), A, A, A, A, A, A, A, A, A, A, A, A, A, A, A, A, A, A, A, A, A, A, A, A, A, A, A, A, A, A, A, A, A, A, A, A, A, A, A, A, A, A, A, A, A, A, A, A, A, A, A, A, A, A, A, A, A, A, A, A, A, A, A, A, A, A, A, A, A, A, A, A, A, A, A, A, A], [.ex false [.c (.sc (.int .i64 a0)), .c (.sc (.int .i64 a1)), .c (.sc (.string a2)), .row 16 (.int .u32) a3, .c (.sc (.int .u32 a4)), .c (.sc (.int .u32 a5)), .row 4 (.int .u64) a6, .row 8 (.int .i64) a7, .c (.sc (.int .u32 a8)), .c (.sc (.int .u32 a9)), .row 32 (.int .u32) a10, .c (.sc (.int .i64 a11)), .c (.sc (.bool a12)), .c (.sc (.int .u32 a13)), .c (.sc (.int .i64 a14)), .c (.sc (.int .i64 a15)), .c (.sc (.bool a16)), .c (.sc (.bool a17)), .c (.sc (.bool a18)), .c (.sc (.int .i64 a19)), .c (.sc (.int .i64 a20))] 46], 0⟩
def proc_Check.j2_Q (t7 : Bool) (t23 : Bool) (a0 : Int) (a1 : Int) (a2 : ByteArray) (a3 : (List Int)) (a4 : Int) (a5 : Int) (a6 : (List Int)) (a7 : (List Int)) (a8 : Int) (a9 : Int) (a10 : (List Int)) (a11 : Int) (a12 : Bool) (a13 : Int) (a14 : Int) (a15 : Int) (a16 : Bool) (a17 : Bool) (a18 : Bool) (a19 : Int) (a20 : Int) (t : Bool) : Exit → St → Prop := fun e s => e = .normal ∧ s = ⟨[A, A, A, .v (.one (.sc (.bool t7))), .v (.one (.sc (.bool t23))), .v (.one (.sc (.bool t))), A, A, A, A, A, A, A, A, A, A, A, A, A, A, A, A, A, A, A, A, A, A, A, A, A, A, A, A, A, A, A, A, A, A, A, A, A, A, A, A, A, A, A, A, A, A, A, A, A, A, A, A, A, A, A, A, A, A, A, A, A, A, A, A, A, A, A, A, A, A, A, A, A, A, A, A], [.ex false [.c (.sc (.int .i64 a0)), .c (.sc (.int .i64 a1)), .c (.sc (.string a2)), .row 16 (.int .u32) a3, .c (.sc (.int .u32 a4)), .c (.sc (.int .u32 a5)), .row 4 (.int .u64) a6, .row 8 (.int .i64) a7, .c (.sc (.int .u32 a8)), .c (.sc (.int .u32 a9)), .row 32 (.int .u32) a10, .c (.sc (.int .i64 a11)), .c (.sc (.bool a12)), .c (.sc (.int .u32 a13)), .c (.sc (.int .i64 a14)), .c (.sc (.int .i64 a15)), .c (.sc (.bool a16)), .c (.sc (.bool a17)), .c (.sc (.bool a18)), .c (.sc (.int .i64 a19)), .c (.sc (.int .i64 a20))] 46], 0⟩
theorem proc_Check.j2_ok (t7 : Bool) (t23 : Bool) (a0 : Int) (a1 : Int) (a2 : ByteArray) (a3 : (List Int)) (a4 : Int) (a5 : Int) (a6 : (List Int)) (a7 : (List Int)) (a8 : Int) (a9 : Int) (a10 : (List Int)) (a11 : Int) (a12 : Bool) (a13 : Int) (a14 : Int) (a15 : Int) (a16 : Bool) (a17 : Bool) (a18 : Bool) (a19 : Int) (a20 : Int) (r : Bool) (h : proc_Check.j2 t7 t23 a0 a1 a2 a3 a4 a5 a6 a7 a8 a9 a10 a11 a12 a13 a14 a15 a16 a17 a18 a19 a20 = some r) : Trip cfg (cpath (Tryz.f20.body.getD .skip) [1, 1, 1, 0]) (proc_Check.j2_S t7 t23 a0 a1 a2 a3 a4 a5 a6 a7 a8 a9 a10 a11 a12 a13 a14 a15 a16 a17 a18 a19 a20) (proc_Check.j2_Q t7 t23 a0 a1 a2 a3 a4 a5 a6 a7 a8 a9 a10 a11 a12 a13 a14 a15 a16 a17 a18 a19 a20 r) := by
  unfold proc_Check.j2 at h
  refine Trip.of_run cfg_ok (k := (.br (oT 3 (.br (oT 3 (.br (oT 3 (.br (oT 2 (.br (oT 5 (.adj [.keep [3, 4, 5], .drop 1] .nil)) (oF 2 (.one true (.one false (.one true (.adj [.keep [3, 4, 5], .drop 1] .nil))))))) (oF 4 (.adj [.keep [3, 4, 5], .drop 1] .nil)))) (oF 8 (.adj [.keep [3, 4, 5], .drop 1] .nil)))) (oF 12 (.adj [.keep [3, 4, 5], .drop 1] .nil)))) (oF 16 (.adj [.keep [3, 4, 5], .drop 1] .nil)))) (to_goal (q := (U) ∧ (U) ∧ (((decide (a19 ≥ (0 : Int))) = true → ((decide (a19 ≥ (0 : Int))) = true ∧ (U) ∧ ((decide (a19 ≥ (0 : Int))) = true ∧ (U) ∧ ((decide (a19 ≥ (0 : Int))) = true ∧ (((decide (a19 < (30 : Int))) = true → ((decide (a19 < (30 : Int))) = true ∧ (U) ∧ ((decide (a19 < (30 : Int))) = true ∧ (U) ∧ ((decide (a19 < (30 : Int))) = true ∧ (((decide (a20 ≥ (0 : Int))) = true → ((decide (a20 ≥ (0 : Int))) = true ∧ (U) ∧ ((decide (a20 ≥ (0 : Int))) = true ∧ (U) ∧ ((decide (a20 ≥ (0 : Int))) = true ∧ (((decide (a20 ≤ (4080 : Int))) = true → ((decide (a20 ≤ (4080 : Int))) = true ∧ (U) ∧ ((decide (a20 ≤ (4080 : Int))) = true ∧ ((a17 = false → (a17 = false ∧ (U) ∧ (a17 = false ∧ ((decide (a20 ≤ (4080 : Int))) = true ∧ (a17 = false ∧ ((decide (a20 ≤ (4080 : Int))) = true ∧ (((U) ∧ (U) ∧ U) ∧ proc_Check.j2_Q t7 t23 a0 a1 a2 a3 a4 a5 a6 a7 a8 a9 a10 a11 a12 a13 a14 a15 a16 a17 a18 a19 a20 r .normal ⟨[A, A, A, .v (.one (.sc (.bool t7))), .v (.one (.sc (.bool t23))), .v (.one (.sc (.bool (!a18)))), A, A, A, A, A, A, A, A, A, A, A, A, A, A, A, A, A, A, A, A, A, A, A, A, A, A, A, A, A, A, A, A, A, A, A, A, A, A, A, A, A, A, A, A, A, A, A, A, A, A, A, A, A, A, A, A, A, A, A, A, A, A, A, A, A, A, A, A, A, A, A, A, A, A, A, A], [(proc_Check.c0 a0 a1 a2 a3 a4 a5 a6 a7 a8 a9 a10 a11 a12 a13 a14 a15 a16 a17 a18 a19 a20)], 0⟩))))))) ∧ (a17 = true → (a17 = true ∧ (a17 = true ∧ ((decide (a20 ≤ (4080 : Int))) = true ∧ (a17 = true ∧ ((decide (a20 ≤ (4080 : Int))) = true ∧ (((U) ∧ (U) ∧ U) ∧ proc_Check.j2_Q t7 t23 a0 a1 a2 a3 a4 a5 a6 a7 a8 a9 a10 a11 a12 a13 a14 a15 a16 a17 a18 a19 a20 r .normal ⟨[A, A, A, .v (.one (.sc (.bool t7))), .v (.one (.sc (.bool t23))), .v (.one (.sc (.bool true))), A, A, A, A, A, A, A, A, A, A, A, A, A, A, A, A, A, A, A, A, A, A, A, A, A, A, A, A, A, A, A, A, A, A, A, A, A, A, A, A, A, A, A, A, A, A, A, A, A, A, A, A, A, A, A, A, A, A, A, A, A, A, A, A, A, A, A, A, A, A, A, A, A, A, A, A], [(proc_Check.c0 a0 a1 a2 a3 a4 a5 a6 a7 a8 a9 a10 a11 a12 a13 a14 a15 a16 a17 a18 a19 a20)], 0⟩))))))))))) ∧ ((decide (a20 ≤ (4080 : Int))) = false → ((decide (a20 ≤ (4080 : Int))) = false ∧ ((decide (a20 ≤ (4080 : Int))) = false ∧ ((decide (a20 ≤ (4080 : Int))) = false ∧ ((decide (a20 ≤ (4080 : Int))) = false ∧ (((U) ∧ (U) ∧ U) ∧ proc_Check.j2_Q t7 t23 a0 a1 a2 a3 a4 a5 a6 a7 a8 a9 a10 a11 a12 a13 a14 a15 a16 a17 a18 a19 a20 r .normal ⟨[A, A, A, .v (.one (.sc (.bool t7))), .v (.one (.sc (.bool t23))), .v (.one (.sc (.bool false))), A, A, A, A, A, A, A, A, A, A, A, A, A, A, A, A, A, A, A, A, A, A, A, A, A, A, A, A, A, A, A, A, A, A, A, A, A, A, A, A, A, A, A, A, A, A, A, A, A, A, A, A, A, A, A, A, A, A, A, A, A, A, A, A, A, A, A, A, A, A, A, A, A, A, A, A], [(proc_Check.c0 a0 a1 a2 a3 a4 a5 a6 a7 a8 a9 a10 a11 a12 a13 a14 a15 a16 a17 a18 a19 a20)], 0⟩))))))))))) ∧ ((decide (a20 ≥ (0 : Int))) = false → ((decide (a20 ≥ (0 : Int))) = false ∧ ((decide (a20 ≥ (0 : Int))) = false ∧ ((decide (a20 ≥ (0 : Int))) = false ∧ (false = false ∧ (false = false ∧ (false = false ∧ (false = false ∧ (false = false ∧ (((U) ∧ (U) ∧ U) ∧ proc_Check.j2_Q t7 t23 a0 a1 a2 a3 a4 a5 a6 a7 a8 a9 a10 a11 a12 a13 a14 a15 a16 a17 a18 a19 a20 r .normal ⟨[A, A, A, .v (.one (.sc (.bool t7))), .v (.one (.sc (.bool t23))), .v (.one (.sc (.bool false))), A, A, A, A, A, A, A, A, A, A, A, A, A, A, A, A, A, A, A, A, A, A, A, A, A, A, A, A, A, A, A, A, A, A, A, A, A, A, A, A, A, A, A, A, A, A, A, A, A, A, A, A, A, A, A, A, A, A, A, A, A, A, A, A, A, A, A, A, A, A, A, A, A, A, A, A], [(proc_Check.c0 a0 a1 a2 a3 a4 a5 a6 a7 a8 a9 a10 a11 a12 a13 a14 a15 a16 a17 a18 a19 a20)], 0⟩))))))))))))))) ∧ ((decide (a19 < (30 : Int))) = false → ((decide (a19 < (30 : Int))) = false ∧ ((decide (a19 < (30 : Int))) = false ∧ ((decide (a19 < (30 : Int))) = false ∧ (false = false ∧ (false = false ∧ (false = false ∧ (false = false ∧ (false = false ∧ (false = false ∧ (false = false ∧ (false = false ∧ (false = false ∧ (((U) ∧ (U) ∧ U) ∧ proc_Check.j2_Q t7 t23 a0 a1 a2 a3 a4 a5 a6 a7 a8 a9 a10 a11 a12 a13 a14 a15 a16 a17 a18 a19 a20 r .normal ⟨[A, A, A, .v (.one (.sc (.bool t7))), .v (.one (.sc (.bool t23))), .v (.one (.sc (.bool false))), A, A, A, A, A, A, A, A, A, A, A, A, A, A, A, A, A, A, A, A, A, A, A, A, A, A, A, A, A, A, A, A, A, A, A, A, A, A, A, A, A, A, A, A, A, A, A, A, A, A, A, A, A, A, A, A, A, A, A, A, A, A, A, A, A, A, A, A, A, A, A, A, A, A, A, A], [(proc_Check.c0 a0 a1 a2 a3 a4 a5 a6 a7 a8 a9 a10 a11 a12 a13 a14 a15 a16 a17 a18 a19 a20)], 0⟩))))))))))))))))))) ∧ ((decide (a19 ≥ (0 : Int))) = false → ((decide (a19 ≥ (0 : Int))) = false ∧ ((decide (a19 ≥ (0 : Int))) = false ∧ ((decide (a19 ≥ (0 : Int))) = false ∧ (false = false ∧ (false = false ∧ (false = false ∧ (false = false ∧ (false = false ∧ (false = false ∧ (false = false ∧ (false = false ∧ (false = false ∧ (false = false ∧ (false = false ∧ (false = false ∧ (false = false ∧ (((U) ∧ (U) ∧ U) ∧ proc_Check.j2_Q t7 t23 a0 a1 a2 a3 a4 a5 a6 a7 a8 a9 a10 a11 a12 a13 a14 a15 a16 a17 a18 a19 a20 r .normal ⟨[A, A, A, .v (.one (.sc (.bool t7))), .v (.one (.sc (.bool t23))), .v (.one (.sc (.bool false))), A, A, A, A, A, A, A, A, A, A, A, A, A, A, A, A, A, A, A, A, A, A, A, A, A, A, A, A, A, A, A, A, A, A, A, A, A, A, A, A, A, A, A, A, A, A, A, A, A, A, A, A, A, A, A, A, A, A, A, A, A, A, A, A, A, A, A, A, A, A, A, A, A, A, A, A], [(proc_Check.c0 a0 a1 a2 a3 a4 a5 a6 a7 a8 a9 a10 a11 a12 a13 a14 a15 a16 a17 a18 a19 a20)], 0⟩)))))))))))))))))))) (by kernel_rfl) ?_)
  refine ⟨T, T, ?_⟩
  refine ⟨fun b40 => ?_, fun b40 => ?_⟩
  · rw [if_pos (dT_ b40)] at h
    refine ⟨b40, ?_⟩
    refine tI ?_
    refine ⟨b40, ?_⟩
    refine tI ?_
    refine ⟨b40, ?_⟩
    refine ⟨fun b41 => ?_, fun b41 => ?_⟩
    · rw [if_pos (dT_ b41)] at h
      refine ⟨b41, ?_⟩
      refine tI ?_
      refine ⟨b41, ?_⟩
      refine tI ?_
      refine ⟨b41, ?_⟩
      refine ⟨fun b42 => ?_, fun b42 => ?_⟩
      · rw [if_pos (dT_ b42)] at h
        refine ⟨b42, ?_⟩
        refine tI ?_
        refine ⟨b42, ?_⟩
        refine tI ?_
        refine ⟨b42, ?_⟩
        refine ⟨fun b43 => ?_, fun b43 => ?_⟩
        · rw [if_pos (dT_ b43)] at h
          refine ⟨b43, ?_⟩
          refine tI ?_
          refine ⟨b43, ?_⟩
          refine ⟨fun b44 => ?_, fun b44 => ?_⟩
          · rw [if_neg (ff b44)] at h
            refine ⟨b44, ?_⟩
            refine tI ?_
            refine ⟨b44, ?_⟩
            refine ⟨b43, ?_⟩
            refine ⟨b44, ?_⟩
            refine ⟨b43, ?_⟩
            obtain rfl := oi h
            exact ⟨⟨T, T, T⟩, rfl, rfl⟩
          · rw [if_pos b44] at h
            refine ⟨b44, ?_⟩
            refine ⟨b44, ?_⟩
            refine ⟨b43, ?_⟩
            refine ⟨b44, ?_⟩
            refine ⟨b43, ?_⟩
            obtain rfl := oi h
            exact ⟨⟨T, T, T⟩, rfl, rfl⟩
        · rw [if_neg (dF_ b43)] at h
          refine ⟨b43, ?_⟩
          refine ⟨b43, ?_⟩
          refine ⟨b43, ?_⟩
          refine ⟨b43, ?_⟩
          obtain rfl := oi h
          exact ⟨⟨T, T, T⟩, rfl, rfl⟩
      · rw [if_neg (dF_ b42)] at h
        refine ⟨b42, ?_⟩
        refine ⟨b42, ?_⟩
        refine ⟨b42, ?_⟩
        refine ⟨rfl, rfl, rfl, rfl, rfl, ?_⟩
        obtain rfl := oi h
        exact ⟨⟨T, T, T⟩, rfl, rfl⟩
    · rw [if_neg (dF_ b41)] at h
      refine ⟨b41, ?_⟩
      refine ⟨b41, ?_⟩
      refine ⟨b41, ?_⟩
      refine ⟨rfl, rfl, rfl, rfl, rfl, rfl, rfl, rfl, rfl, ?_⟩
      obtain rfl := oi h
      exact ⟨⟨T, T, T⟩, rfl, rfl⟩
  · rw [if_neg (dF_ b40)] at h
    refine ⟨b40, ?_⟩
    refine ⟨b40, ?_⟩
    refine ⟨b40, ?_⟩
    refine ⟨rfl, rfl, rfl, rfl, rfl, rfl, rfl, rfl, rfl, rfl, rfl, rfl, rfl, ?_⟩
    obtain rfl := oi h
    exact ⟨⟨T, T, T⟩, rfl, rfl⟩
def proc_Check.j3 (t7 : Bool) (t23 : Bool) (t39 : Bool) (a0 : Int) (a1 : Int) (a2 : ByteArray) (a3 : (List Int)) (a4 : Int) (a5 : Int) (a6 : (List Int)) (a7 : (List Int)) (a8 : Int) (a9 : Int) (a10 : (List Int)) (a11 : Int) (a12 : Bool) (a13 : Int) (a14 : Int) (a15 : Int) (a16 : Bool) (a17 : Bool) (a18 : Bool) (a19 : Int) (a20 : Int) : Option Bool :=
  if ¬ (t7 = true) then
    some true
  else
    if ¬ (t23 = true) then
      some true
    else
      some (!t39)
def proc_Check.j3_S (t7 : Bool) (t23 : Bool) (t39 : Bool) (a0 : Int) (a1 : Int) (a2 : ByteArray) (a3 : (List Int)) (a4 : Int) (a5 : Int) (a6 : (List Int)) (a7 : (List Int)) (a8 : Int) (a9 : Int) (a10 : (List Int)) (a11 : Int) (a12 : Bool) (a13 : Int) (a14 : Int) (a15 : Int) (a16 : Bool) (a17 : Bool) (a18 : Bool) (a19 : Int) (a20 : Int) : St := ⟨[A, A, A, .v (.one (.sc (.bool t7))), .v (.one (.sc (.bool t23))), .v (.one (.sc (.bool t39))), A, A, A, A, A, A, A, A, A, A, A, A, A, A, A, A, A, A, A, A, A, A, A, A, A, A, A, A, A, A, A, A, A, A, A, A, A, A, A, A, A, A, A, A, A, A, A, A, A, A, A, A, A, A, A, A, A, A, A, A, A, A, A, A, A, A, A, A, A, A, A, A, A, A, A, A], [.ex false [.c (.sc (.int .i64 a0)), .c (.sc (.int .i64 a1)), .c (.sc (.string a2)), .row 16 (.int .u32) a3, .c (.sc (.int .u32 a4)), .c (.sc (.int .u32 a5)), .row 4 (.int .u64) a6, .row 8 (.int .i64) a7, .c (.sc (.int .u32 a8)), .c (.sc (.int .u32 a9)), .row 32 (.int .u32) a10, .c (.sc (.int .i64 a11)), .c (.sc (.bool a12)), .c (.sc (.int .u32 a13)), .c (.sc (.int .i64 a14)), .c (.sc (.int .i64 a15)), .c (.sc (.bool a16)), .c (.sc (.bool a17)), .c (.sc (.bool a18)), .c (.sc (.int .i64 a19)), .c (.sc (.int .i64 a20))] 46], 0⟩
def proc_Check.j3_Q (t7 : Bool) (t23 : Bool) (t39 : Bool) (a0 : Int) (a1 : Int) (a2 : ByteArray) (a3 : (List Int)) (a4 : Int) (a5 : Int) (a6 : (List Int)) (a7 : (List Int)) (a8 : Int) (a9 : Int) (a10 : (List Int)) (a11 : Int) (a12 : Bool) (a13 : Int) (a14 : Int) (a15 : Int) (a16 : Bool) (a17 : Bool) (a18 : Bool) (a19 : Int) (a20 : Int) (t : Bool) : Exit → St → Prop := fun e s => e = .normal ∧ s = ⟨[A, A, A, A, A, A, A, A, A, A, A, A, A, A, A, A, A, A, A, A, A, A, A, A, A, A, A, A, A, A, A, A, A, A, A, A, A, A, A, A, A, A, A, A, A, A, A, A, A, A, A, A, A, A, A, A, A, A, A, A, A, A, A, A, A, A, A, A, A, A, A, A, A, A, A, A, A, A, A, A, .v (.one (.sc (.bool t))), A], [.ex false [.c (.sc (.int .i64 a0)), .c (.sc (.int .i64 a1)), .c (.sc (.string a2)), .row 16 (.int .u32) a3, .c (.sc (.int .u32 a4)), .c (.sc (.int .u32 a5)), .row 4 (.int .u64) a6, .row 8 (.int .i64) a7, .c (.sc (.int .u32 a8)), .c (.sc (.int .u32 a9)), .row 32 (.int .u32) a10, .c (.sc (.int .i64 a11)), .c (.sc (.bool a12)), .c (.sc (.int .u32 a13)), .c (.sc (.int .i64 a14)), .c (.sc (.int .i64 a15)), .c (.sc (.bool a16)), .c (.sc (.bool a17)), .c (.sc (.bool a18)), .c (.sc (.int .i64 a19)), .c (.sc (.int .i64 a20))] 46], 0⟩
theorem proc_Check.j3_ok (t7 : Bool) (t23 : Bool) (t39 : Bool) (a0 : Int) (a1 : Int) (a2 : ByteArray) (a3 : (List Int)) (a4 : Int) (a5 : Int) (a6 : (List Int)) (a7 : (List Int)) (a8 : Int) (a9 : Int) (a10 : (List Int)) (a11 : Int) (a12 : Bool) (a13 : Int) (a14 : Int) (a15 : Int) (a16 : Bool) (a17 : Bool) (a18 : Bool) (a19 : Int) (a20 : Int) (r : Bool) (h : proc_Check.j3 t7 t23 t39 a0 a1 a2 a3 a4 a5 a6 a7 a8 a9 a10 a11 a12 a13 a14 a15 a16 a17 a18 a19 a20 = some r) : Trip cfg (cpath (Tryz.f20.body.getD .skip) [1, 1, 1, 1, 0, 0]) (proc_Check.j3_S t7 t23 t39 a0 a1 a2 a3 a4 a5 a6 a7 a8 a9 a10 a11 a12 a13 a14 a15 a16 a17 a18 a19 a20) (proc_Check.j3_Q t7 t23 t39 a0 a1 a2 a3 a4 a5 a6 a7 a8 a9 a10 a11 a12 a13 a14 a15 a16 a17 a18 a19 a20 r) := by
  unfold proc_Check.j3 at h
  refine Trip.of_run cfg_ok (k := (.br (oT 5 (.adj [.keep [80], .drop 1] .nil)) (oF 2 (.br (oT 2 (.adj [.keep [80], .drop 1] .nil)) (oF 2 (.adj [.keep [80], .drop 1] .nil)))))) (to_goal (q := (((!t7) = false → ((!t7) = false ∧ ((!t7) = false ∧ (((!t23) = false → ((!t23) = false ∧ ((!t23) = false ∧ (((U) ∧ (U) ∧ U) ∧ proc_Check.j3_Q t7 t23 t39 a0 a1 a2 a3 a4 a5 a6 a7 a8 a9 a10 a11 a12 a13 a14 a15 a16 a17 a18 a19 a20 r .normal ⟨[A, A, A, A, A, A, A, A, A, A, A, A, A, A, A, A, A, A, A, A, A, A, A, A, A, A, A, A, A, A, A, A, A, A, A, A, A, A, A, A, A, A, A, A, A, A, A, A, A, A, A, A, A, A, A, A, A, A, A, A, A, A, A, A, A, A, A, A, A, A, A, A, A, A, A, A, A, A, A, A, .v (.one (.sc (.bool (!t39)))), A], [(proc_Check.c0 a0 a1 a2 a3 a4 a5 a6 a7 a8 a9 a10 a11 a12 a13 a14 a15 a16 a17 a18 a19 a20)], 0⟩)))) ∧ ((!t23) = true → ((!t23) = true ∧ ((!t23) = true ∧ (((U) ∧ (U) ∧ U) ∧ proc_Check.j3_Q t7 t23 t39 a0 a1 a2 a3 a4 a5 a6 a7 a8 a9 a10 a11 a12 a13 a14 a15 a16 a17 a18 a19 a20 r .normal ⟨[A, A, A, A, A, A, A, A, A, A, A, A, A, A, A, A, A, A, A, A, A, A, A, A, A, A, A, A, A, A, A, A, A, A, A, A, A, A, A, A, A, A, A, A, A, A, A, A, A, A, A, A, A, A, A, A, A, A, A, A, A, A, A, A, A, A, A, A, A, A, A, A, A, A, A, A, A, A, A, A, .v (.one (.sc (.bool true))), A], [(proc_Check.c0 a0 a1 a2 a3 a4 a5 a6 a7 a8 a9 a10 a11 a12 a13 a14 a15 a16 a17 a18 a19 a20)], 0⟩)))))))) ∧ ((!t7) = true → ((!t7) = true ∧ ((!t7) = true ∧ (true = true ∧ (true = true ∧ (true = true ∧ (((U) ∧ (U) ∧ U) ∧ proc_Check.j3_Q t7 t23 t39 a0 a1 a2 a3 a4 a5 a6 a7 a8 a9 a10 a11 a12 a13 a14 a15 a16 a17 a18 a19 a20 r .normal ⟨[A, A, A, A, A, A, A, A, A, A, A, A, A, A, A, A, A, A, A, A, A, A, A, A, A, A, A, A, A, A, A, A, A, A, A, A, A, A, A, A, A, A, A, A, A, A, A, A, A, A, A, A, A, A, A, A, A, A, A, A, A, A, A, A, A, A, A, A, A, A, A, A, A, A, A, A, A, A, A, A, .v (.one (.sc (.bool true))), A], [(proc_Check.c0 a0 a1 a2 a3 a4 a5 a6 a7 a8 a9 a10 a11 a12 a13 a14 a15 a16 a17 a18 a19 a20)], 0⟩))))))))) (by kernel_rfl) ?_)
  refine ⟨fun b51 => ?_, fun b51 => ?_⟩
  · rw [if_neg (not_not_intro (not_f b51))] at h
    refine ⟨b51, ?_⟩
    refine ⟨b51, ?_⟩
    refine ⟨fun b52 => ?_, fun b52 => ?_⟩
    · rw [if_neg (not_not_intro (not_f b52))] at h
      refine ⟨b52, ?_⟩
      refine ⟨b52, ?_⟩
      obtain rfl := oi h
      exact ⟨⟨T, T, T⟩, rfl, rfl⟩
    · rw [if_pos (ff (not_t b52))] at h
      refine ⟨b52, ?_⟩
      refine ⟨b52, ?_⟩
      obtain rfl := oi h
      exact ⟨⟨T, T, T⟩, rfl, rfl⟩
  · rw [if_pos (ff (not_t b51))] at h
    refine ⟨b51, ?_⟩
    refine ⟨b51, ?_⟩
    refine ⟨rfl, rfl, rfl, ?_⟩
    obtain rfl := oi h
    exact ⟨⟨T, T, T⟩, rfl, rfl⟩
def proc_Check.f (a0 : Int) (a1 : Int) (a2 : ByteArray) (a3 : (List Int)) (a4 : Int) (a5 : Int) (a6 : (List Int)) (a7 : (List Int)) (a8 : Int) (a9 : Int) (a10 : (List Int)) (a11 : Int) (a12 : Bool) (a13 : Int) (a14 : Int) (a15 : Int) (a16 : Bool) (a17 : Bool) (a18 : Bool) (a19 : Int) (a20 : Int) : Option (Option Int) :=
  (proc_Check.j0 a0 a1 a2 a3 a4 a5 a6 a7 a8 a9 a10 a11 a12 a13 a14 a15 a16 a17 a18 a19 a20).bind fun t7 =>
  (proc_Check.j1 t7 a0 a1 a2 a3 a4 a5 a6 a7 a8 a9 a10 a11 a12 a13 a14 a15 a16 a17 a18 a19 a20).bind fun t23 =>
  (proc_Check.j2 t7 t23 a0 a1 a2 a3 a4 a5 a6 a7 a8 a9 a10 a11 a12 a13 a14 a15 a16 a17 a18 a19 a20).bind fun t39 =>
  (proc_Check.j3 t7 t23 t39 a0 a1 a2 a3 a4 a5 a6 a7 a8 a9 a10 a11 a12 a13 a14 a15 a16 a17 a18 a19 a20).bind fun t50 =>
  if t50 = true then
    some (some (22 : Int))
  else
    some none
def proc_Check.R (r : (Option Int)) : Tm := .v (.one (.err r))
theorem proc_Check.fun_ {a0 : Int} {a1 : Int} {a2 : ByteArray} {a3 : (List Int)} {a4 : Int} {a5 : Int} {a6 : (List Int)} {a7 : (List Int)} {a8 : Int} {a9 : Int} {a10 : (List Int)} {a11 : Int} {a12 : Bool} {a13 : Int} {a14 : Int} {a15 : Int} {a16 : Bool} {a17 : Bool} {a18 : Bool} {a19 : Int} {a20 : Int} {r : (Option Int)} (h : proc_Check.f a0 a1 a2 a3 a4 a5 a6 a7 a8 a9 a10 a11 a12 a13 a14 a15 a16 a17 a18 a19 a20 = some r) : Fun cfg 20 [.agg [.c (.sc (.int .i64 a0)), .c (.sc (.int .i64 a1)), .c (.sc (.string a2)), .row 16 (.int .u32) a3, .c (.sc (.int .u32 a4)), .c (.sc (.int .u32 a5)), .row 4 (.int .u64) a6, .row 8 (.int .i64) a7, .c (.sc (.int .u32 a8)), .c (.sc (.int .u32 a9)), .row 32 (.int .u32) a10, .c (.sc (.int .i64 a11)), .c (.sc (.bool a12)), .c (.sc (.int .u32 a13)), .c (.sc (.int .i64 a14)), .c (.sc (.int .i64 a15)), .c (.sc (.bool a16)), .c (.sc (.bool a17)), .c (.sc (.bool a18)), .c (.sc (.int .i64 a19)), .c (.sc (.int .i64 a20))]] [] (proc_Check.R r) [] := by
  unfold proc_Check.f at h
  refine fun_of_run cfg_ok (f := 20) (fn := Tryz.f20) Tryz.func20 rfl (by kernel_rfl) (rs := [.tmp 2]) rfl (nt := 82) rfl (l := fin) (k := (.adj [] (.adj [.keep [1]] (.blk (Bool) (fun _ => .normal) (fun t7 => ⟨[A, .v (.one (.ptr 0 ⟨0, 0, 0, 0⟩)), A, .v (.one (.sc (.bool t7))), A, A, A, A, A, A, A, A, A, A, A, A, A, A, A, A, A, A, A, A, A, A, A, A, A, A, A, A, A, A, A, A, A, A, A, A, A, A, A, A, A, A, A, A, A, A, A, A, A, A, A, A, A, A, A, A, A, A, A, A, A, A, A, A, A, A, A, A, A, A, A, A, A, A, A, A, A, A], [(proc_Check.c0 a0 a1 a2 a3 a4 a5 a6 a7 a8 a9 a10 a11 a12 a13 a14 a15 a16 a17 a18 a19 a20)], 0⟩) (fun t7 => (.adj [.keep [1, 3]] (.blk (Bool) (fun _ => .normal) (fun t23 => ⟨[A, .v (.one (.ptr 0 ⟨0, 0, 0, 0⟩)), A, .v (.one (.sc (.bool t7))), .v (.one (.sc (.bool t23))), A, A, A, A, A, A, A, A, A, A, A, A, A, A, A, A, A, A, A, A, A, A, A, A, A, A, A, A, A, A, A, A, A, A, A, A, A, A, A, A, A, A, A, A, A, A, A, A, A, A, A, A, A, A, A, A, A, A, A, A, A, A, A, A, A, A, A, A, A, A, A, A, A, A, A, A, A], [(proc_Check.c0 a0 a1 a2 a3 a4 a5 a6 a7 a8 a9 a10 a11 a12 a13 a14 a15 a16 a17 a18 a19 a20)], 0⟩) (fun t23 => (.adj [.keep [1, 3, 4]] (.blk (Bool) (fun _ => .normal) (fun t39 => ⟨[A, A, A, .v (.one (.sc (.bool t7))), .v (.one (.sc (.bool t23))), .v (.one (.sc (.bool t39))), A, A, A, A, A, A, A, A, A, A, A, A, A, A, A, A, A, A, A, A, A, A, A, A, A, A, A, A, A, A, A, A, A, A, A, A, A, A, A, A, A, A, A, A, A, A, A, A, A, A, A, A, A, A, A, A, A, A, A, A, A, A, A, A, A, A, A, A, A, A, A, A, A, A, A, A], [(proc_Check.c0 a0 a1 a2 a3 a4 a5 a6 a7 a8 a9 a10 a11 a12 a13 a14 a15 a16 a17 a18 a19 a20)], 0⟩) (fun t39 => (.adj [.keep [3, 4, 5]] (.blk (Bool) (fun _ => .normal) (fun t50 => ⟨[A, A, A, A, A, A, A, A, A, A, A, A, A, A, A, A, A, A, A, A, A, A, A, A, A, A, A, A, A, A, A, A, A, A, A, A, A, A, A, A, A, A, A, A, A, A, A, A, A, A, A, A, A, A, A, A, A, A, A, A, A, A, A, A, A, A, A, A, A, A, A, A, A, A, A, A, A, A, A, A, .v (.one (.sc (.bool t50))), A], [(proc_Check.c0 a0 a1 a2 a3 a4 a5 a6 a7 a8 a9 a10 a11 a12 a13 a14 a15 a16 a17 a18 a19 a20)], 0⟩) (fun t50 => (.br (aE 2 (.adj [.drop 0] .nil)) (aE 3 (.adj [.drop 0] .nil))))))))))))))))) (to_goal (q := (U ∧ (((U) ∧ U) ∧ (∃ t7 : Bool, Trip cfg (cpath (Tryz.f20.body.getD .skip) [1, 0]) ⟨[A, .v (.one (.ptr 0 ⟨0, 0, 0, 0⟩)), A, A, A, A, A, A, A, A, A, A, A, A, A, A, A, A, A, A, A, A, A, A, A, A, A, A, A, A, A, A, A, A, A, A, A, A, A, A, A, A, A, A, A, A, A, A, A, A, A, A, A, A, A, A, A, A, A, A, A, A, A, A, A, A, A, A, A, A, A, A, A, A, A, A, A, A, A, A, A, A], [(proc_Check.c0 a0 a1 a2 a3 a4 a5 a6 a7 a8 a9 a10 a11 a12 a13 a14 a15 a16 a17 a18 a19 a20)], 0⟩ (fun e s => e = .normal ∧ s = ⟨[A, .v (.one (.ptr 0 ⟨0, 0, 0, 0⟩)), A, .v (.one (.sc (.bool t7))), A, A, A, A, A, A, A, A, A, A, A, A, A, A, A, A, A, A, A, A, A, A, A, A, A, A, A, A, A, A, A, A, A, A, A, A, A, A, A, A, A, A, A, A, A, A, A, A, A, A, A, A, A, A, A, A, A, A, A, A, A, A, A, A, A, A, A, A, A, A, A, A, A, A, A, A, A, A], [(proc_Check.c0 a0 a1 a2 a3 a4 a5 a6 a7 a8 a9 a10 a11 a12 a13 a14 a15 a16 a17 a18 a19 a20)], 0⟩) ∧ (((U) ∧ U) ∧ (∃ t23 : Bool, Trip cfg (cpath (Tryz.f20.body.getD .skip) [1, 1, 0]) ⟨[A, .v (.one (.ptr 0 ⟨0, 0, 0, 0⟩)), A, .v (.one (.sc (.bool t7))), A, A, A, A, A, A, A, A, A, A, A, A, A, A, A, A, A, A, A, A, A, A, A, A, A, A, A, A, A, A, A, A, A, A, A, A, A, A, A, A, A, A, A, A, A, A, A, A, A, A, A, A, A, A, A, A, A, A, A, A, A, A, A, A, A, A, A, A, A, A, A, A, A, A, A, A, A, A], [(proc_Check.c0 a0 a1 a2 a3 a4 a5 a6 a7 a8 a9 a10 a11 a12 a13 a14 a15 a16 a17 a18 a19 a20)], 0⟩ (fun e s => e = .normal ∧ s = ⟨[A, .v (.one (.ptr 0 ⟨0, 0, 0, 0⟩)), A, .v (.one (.sc (.bool t7))), .v (.one (.sc (.bool t23))), A, A, A, A, A, A, A, A, A, A, A, A, A, A, A, A, A, A, A, A, A, A, A, A, A, A, A, A, A, A, A, A, A, A, A, A, A, A, A, A, A, A, A, A, A, A, A, A, A, A, A, A, A, A, A, A, A, A, A, A, A, A, A, A, A, A, A, A, A, A, A, A, A, A, A, A, A], [(proc_Check.c0 a0 a1 a2 a3 a4 a5 a6 a7 a8 a9 a10 a11 a12 a13 a14 a15 a16 a17 a18 a19 a20)], 0⟩) ∧ (((U) ∧ U) ∧ (∃ t39 : Bool, Trip cfg (cpath (Tryz.f20.body.getD .skip) [1, 1, 1, 0]) ⟨[A, .v (.one (.ptr 0 ⟨0, 0, 0, 0⟩)), A, .v (.one (.sc (.bool t7))), .v (.one (.sc (.bool t23))), A, A, A, A, A, A, A, A, A, A, A, A, A, A, A, A, A, A, A, A, A, A, A, A, A, A, A, A, A, A, A, A, A, A, A, A, A, A, A, A, A, A, A, A, A, A, A, A, A, A, A, A, A, A, A, A, A, A, A, A, A, A, A, A, A, A, A, A, A, A, A, A, A, A, A, A, A], [(proc_Check.c0 a0 a1 a2 a3 a4 a5 a6 a7 a8 a9 a10 a11 a12 a13 a14 a15 a16 a17 a18 a19 a20)], 0⟩ (fun e s => e = .normal ∧ s = ⟨[A, A, A, .v (.one (.sc (.bool t7))), .v (.one (.sc (.bool t23))), .v (.one (.sc (.bool t39))), A, A, A, A, A, A, A, A, A, A, A, A, A, A, A, A, A, A, A, A, A, A, A, A, A, A, A, A, A, A, A, A, A, A, A, A, A, A, A, A, A, A, A, A, A, A, A, A, A, A, A, A, A, A, A, A, A, A, A, A, A, A, A, A, A, A, A, A, A, A, A, A, A, A, A, A], [(proc_Check.c0 a0 a1 a2 a3 a4 a5 a6 a7 a8 a9 a10 a11 a12 a13 a14 a15 a16 a17 a18 a19 a20)], 0⟩) ∧ (((U) ∧ U) ∧ (∃ t50 : Bool, Trip cfg (cpath (Tryz.f20.body.getD .skip) [1, 1, 1, 1, 0, 0]) ⟨[A, A, A, .v (.one (.sc (.bool t7))), .v (.one (.sc (.bool t23))), .v (.one (.sc (.bool t39))), A, A, A, A, A, A, A, A, A, A, A, A, A, A, A, A, A, A, A, A, A, A, A, A, A, A, A, A, A, A, A, A, A, A, A, A, A, A, A, A, A, A, A, A, A, A, A, A, A, A, A, A, A, A, A, A, A, A, A, A, A, A, A, A, A, A, A, A, A, A, A, A, A, A, A, A], [(proc_Check.c0 a0 a1 a2 a3 a4 a5 a6 a7 a8 a9 a10 a11 a12 a13 a14 a15 a16 a17 a18 a19 a20)], 0⟩ (fun e s => e = .normal ∧ s = ⟨[A, A, A, A, A, A, A, A, A, A, A, A, A, A, A, A, A, A, A, A, A, A, A, A, A, A, A, A, A, A, A, A, A, A, A, A, A, A, A, A, A, A, A, A, A, A, A, A, A, A, A, A, A, A, A, A, A, A, A, A, A, A, A, A, A, A, A, A, A, A, A, A, A, A, A, A, A, A, A, A, .v (.one (.sc (.bool t50))), A], [(proc_Check.c0 a0 a1 a2 a3 a4 a5 a6 a7 a8 a9 a10 a11 a12 a13 a14 a15 a16 a17 a18 a19 a20)], 0⟩) ∧ ((t50 = true → (U ∧ (U ∧ ((U) ∧ ((U) ∧ U) ∧ (.v (.one (.err (some (22 : Int)))) : Tm) = proc_Check.R r ∧ ([] : List Box) = [])))) ∧ (t50 = false → (U ∧ (U ∧ (U ∧ ((U) ∧ ((U) ∧ U) ∧ (.v (.one (.err none)) : Tm) = proc_Check.R r ∧ ([] : List Box) = [])))))))))))))))) (by kernel_rfl) ?_)
  refine tI ?_
  obtain ⟨t7, ht7, h⟩ := of_bind h
  refine ⟨⟨T, T⟩, t7, proc_Check.j0_ok a0 a1 a2 a3 a4 a5 a6 a7 a8 a9 a10 a11 a12 a13 a14 a15 a16 a17 a18 a19 a20 t7 ht7, ?_⟩
  obtain ⟨t23, ht23, h⟩ := of_bind h
  refine ⟨⟨T, T⟩, t23, proc_Check.j1_ok t7 a0 a1 a2 a3 a4 a5 a6 a7 a8 a9 a10 a11 a12 a13 a14 a15 a16 a17 a18 a19 a20 t23 ht23, ?_⟩
  obtain ⟨t39, ht39, h⟩ := of_bind h
  refine ⟨⟨T, T⟩, t39, proc_Check.j2_ok t7 t23 a0 a1 a2 a3 a4 a5 a6 a7 a8 a9 a10 a11 a12 a13 a14 a15 a16 a17 a18 a19 a20 t39 ht39, ?_⟩
  obtain ⟨t50, ht50, h⟩ := of_bind h
  refine ⟨⟨T, T⟩, t50, proc_Check.j3_ok t7 t23 t39 a0 a1 a2 a3 a4 a5 a6 a7 a8 a9 a10 a11 a12 a13 a14 a15 a16 a17 a18 a19 a20 t50 ht50, ?_⟩
  refine ⟨fun b55 => ?_, fun b55 => ?_⟩
  · rw [if_pos b55] at h
    refine ⟨T, T, ?_⟩
    obtain rfl := oi h
    exact ⟨T, ⟨T, T⟩, rfl, rfl⟩
  · rw [if_neg (ff b55)] at h
    refine ⟨T, T, T, ?_⟩
    obtain rfl := oi h
    exact ⟨T, ⟨T, T⟩, rfl, rfl⟩
/-! halter/proc.First -/
def proc_First.c0 (a0 : Int) (a1 : ByteArray) (t1 : (List Int) × Int × Int × (List Int)) : AV := .agg [.c (.sc (.int .i64 a0)), .c (.sc (.int .i64 (0 : Int))), .c (.sc (.string a1)), .row 16 (.int .u32) t1.1, .c (.sc (.int .u32 t1.2.1)), .c (.sc (.int .u32 (p2 t1))), .row 4 (.int .u64) (z3 t1), .row 8 (.int .i64) (List.replicate 8 (0 : Int)), .c (.sc (.int .u32 (0 : Int))), .c (.sc (.int .u32 (0 : Int))), .row 32 (.int .u32) (List.replicate 32 (0 : Int)), .c (.sc (.int .i64 (0 : Int))), .c (.sc (.bool false)), .c (.sc (.int .u32 (0 : Int))), .c (.sc (.int .i64 (0 : Int))), .c (.sc (.int .i64 (0 : Int))), .c (.sc (.bool false)), .c (.sc (.bool false)), .c (.sc (.bool false)), .c (.sc (.int .i64 (0 : Int))), .c (.sc (.int .i64 (0 : Int)))]
def proc_First.f (a0 : Int) (a1 : ByteArray) (a2 : Int) : Option (TY1) :=
  (proc_begun.f a2).bind fun t1 =>
  (proc_Check.f a0 (0 : Int) a1 t1.1 t1.2.1 t1.2.2.1 t1.2.2.2 (List.replicate 8 (0 : Int)) (0 : Int) (0 : Int) (List.replicate 32 (0 : Int)) (0 : Int) false (0 : Int) (0 : Int) (0 : Int) false false false (0 : Int) (0 : Int)).bind fun t2 =>
  if ¬ (t2 = none) then
    some ((0 : Int), (0 : Int), ByteArray.empty, (List.replicate 16 (0 : Int)), (0 : Int), (0 : Int), (List.replicate 4 (0 : Int)), (List.replicate 8 (0 : Int)), (0 : Int), (0 : Int), (List.replicate 32 (0 : Int)), (0 : Int), false, (0 : Int), (0 : Int), (0 : Int), false, false, false, (0 : Int), (0 : Int), t2)
  else
    some (a0, (0 : Int), a1, t1.1, t1.2.1, t1.2.2.1, t1.2.2.2, (List.replicate 8 (0 : Int)), (0 : Int), (0 : Int), (List.replicate 32 (0 : Int)), (0 : Int), false, (0 : Int), (0 : Int), (0 : Int), false, false, false, (0 : Int), (0 : Int), none)
def proc_First.R (r : TY1) : Tm := .tup [.agg [.c (.sc (.int .i64 r.1)), .c (.sc (.int .i64 r.2.1)), .c (.sc (.string r.2.2.1)), .row 16 (.int .u32) r.2.2.2.1, .c (.sc (.int .u32 r.2.2.2.2.1)), .c (.sc (.int .u32 r.2.2.2.2.2.1)), .row 4 (.int .u64) r.2.2.2.2.2.2.1, .row 8 (.int .i64) r.2.2.2.2.2.2.2.1, .c (.sc (.int .u32 r.2.2.2.2.2.2.2.2.1)), .c (.sc (.int .u32 r.2.2.2.2.2.2.2.2.2.1)), .row 32 (.int .u32) r.2.2.2.2.2.2.2.2.2.2.1, .c (.sc (.int .i64 r.2.2.2.2.2.2.2.2.2.2.2.1)), .c (.sc (.bool r.2.2.2.2.2.2.2.2.2.2.2.2.1)), .c (.sc (.int .u32 r.2.2.2.2.2.2.2.2.2.2.2.2.2.1)), .c (.sc (.int .i64 r.2.2.2.2.2.2.2.2.2.2.2.2.2.2.1)), .c (.sc (.int .i64 r.2.2.2.2.2.2.2.2.2.2.2.2.2.2.2.1)), .c (.sc (.bool r.2.2.2.2.2.2.2.2.2.2.2.2.2.2.2.2.1)), .c (.sc (.bool r.2.2.2.2.2.2.2.2.2.2.2.2.2.2.2.2.2.1)), .c (.sc (.bool r.2.2.2.2.2.2.2.2.2.2.2.2.2.2.2.2.2.2.1)), .c (.sc (.int .i64 r.2.2.2.2.2.2.2.2.2.2.2.2.2.2.2.2.2.2.2.1)), .c (.sc (.int .i64 r.2.2.2.2.2.2.2.2.2.2.2.2.2.2.2.2.2.2.2.2.1))], .one (.err r.2.2.2.2.2.2.2.2.2.2.2.2.2.2.2.2.2.2.2.2.2)]
theorem proc_First.fun_ {a0 : Int} {a1 : ByteArray} {a2 : Int} {r : TY1} (h : proc_First.f a0 a1 a2 = some r) : Fun cfg 12 [.one (.sc (.int .i64 a0)), .one (.sc (.string a1)), .one (.sc (.int .u32 a2))] [] (proc_First.R r) [] := by
  unfold proc_First.f at h
  refine fun_of_run cfg_ok (f := 12) (fn := Tryz.f12) Tryz.func12 rfl (by kernel_rfl) (rs := [.cell 6 46, .tmp 7]) rfl (nt := 22) rfl (l := fin) (k := (.call true [] ((List Int) × Int × Int × (List Int)) proc_begun.R (fun t1 => (.call true [] ((Option Int)) proc_Check.R (fun t2 => (.br (aE 2 (.adj [.drop 0] .nil)) (aE 3 (.adj [.drop 0] .nil)))))))) (to_goal (q := (∃ t1 : (List Int) × Int × Int × (List Int), (Fun cfg 26 [.one (.sc (.int .u32 a2))] [] (proc_begun.R t1) [] ∧ U) ∧ (U) ∧ (U) ∧ (∃ t2 : (Option Int), (Fun cfg 20 [(proc_First.c0 a0 a1 t1)] [] (proc_Check.R t2) [] ∧ U) ∧ (U) ∧ (((!(Option.isNone t2)) = true → (U ∧ (U) ∧ (U ∧ (((U) ∧ U) ∧ ((U) ∧ U) ∧ (.tup [.agg [.c (.sc (.int .i64 (0 : Int))), .c (.sc (.int .i64 (0 : Int))), .c (.sc (.string ByteArray.empty)), .row 16 (.int .u32) (List.replicate 16 (0 : Int)), .c (.sc (.int .u32 (0 : Int))), .c (.sc (.int .u32 (0 : Int))), .row 4 (.int .u64) (List.replicate 4 (0 : Int)), .row 8 (.int .i64) (List.replicate 8 (0 : Int)), .c (.sc (.int .u32 (0 : Int))), .c (.sc (.int .u32 (0 : Int))), .row 32 (.int .u32) (List.replicate 32 (0 : Int)), .c (.sc (.int .i64 (0 : Int))), .c (.sc (.bool false)), .c (.sc (.int .u32 (0 : Int))), .c (.sc (.int .i64 (0 : Int))), .c (.sc (.int .i64 (0 : Int))), .c (.sc (.bool false)), .c (.sc (.bool false)), .c (.sc (.bool false)), .c (.sc (.int .i64 (0 : Int))), .c (.sc (.int .i64 (0 : Int)))], .one (.err t2)] : Tm) = proc_First.R r ∧ ([] : List Box) = [])))) ∧ ((!(Option.isNone t2)) = false → (U ∧ (U ∧ (U) ∧ (U) ∧ (U ∧ (((U) ∧ U) ∧ ((U) ∧ U) ∧ (.tup [(proc_First.c0 a0 a1 t1), .one (.err none)] : Tm) = proc_First.R r ∧ ([] : List Box) = []))))))))) (by kernel_rfl) ?_)
  obtain ⟨t1, ht1, h⟩ := of_bind h
  refine ⟨t1, ⟨proc_begun.fun_ ht1, T⟩, ?_⟩
  refine ⟨T, T, ?_⟩
  obtain ⟨t2, ht2, h⟩ := of_bind h
  refine ⟨t2, ⟨proc_Check.fun_ ht2, T⟩, ?_⟩
  refine tI ?_
  refine ⟨fun b3 => ?_, fun b3 => ?_⟩
  · rw [if_pos (none_f (not_t b3))] at h
    refine ⟨T, T, T, ?_⟩
    obtain rfl := oi h
    exact ⟨⟨T, T⟩, ⟨T, T⟩, rfl, rfl⟩
  · rw [if_neg (not_not_intro (none_t (not_f b3)))] at h
    refine ⟨T, T, T, T, T, ?_⟩
    obtain rfl := oi h
    exact ⟨⟨T, T⟩, ⟨T, T⟩, rfl, rfl⟩
/-! halter/proc.Answer -/
def proc_Answer.f (a0 : Int) (a1 : Int) (a2 : ByteArray) (a3 : (List Int)) (a4 : Int) (a5 : Int) (a6 : (List Int)) (a7 : (List Int)) (a8 : Int) (a9 : Int) (a10 : (List Int)) (a11 : Int) (a12 : Bool) (a13 : Int) (a14 : Int) (a15 : Int) (a16 : Bool) (a17 : Bool) (a18 : Bool) (a19 : Int) (a20 : Int) (a21 : Int) : Option (TY0) :=
  some (a0, a1, a2, (List.set a3 0 a21), a4, a5, a6, a7, a8, a9, a10, a11, a12, a13, a14, a15, a16, a17, a18, (0 : Int), a20)
def proc_Answer.R (r : TY0) : Tm := .v (.agg [.c (.sc (.int .i64 r.1)), .c (.sc (.int .i64 r.2.1)), .c (.sc (.string r.2.2.1)), .row 16 (.int .u32) r.2.2.2.1, .c (.sc (.int .u32 r.2.2.2.2.1)), .c (.sc (.int .u32 r.2.2.2.2.2.1)), .row 4 (.int .u64) r.2.2.2.2.2.2.1, .row 8 (.int .i64) r.2.2.2.2.2.2.2.1, .c (.sc (.int .u32 r.2.2.2.2.2.2.2.2.1)), .c (.sc (.int .u32 r.2.2.2.2.2.2.2.2.2.1)), .row 32 (.int .u32) r.2.2.2.2.2.2.2.2.2.2.1, .c (.sc (.int .i64 r.2.2.2.2.2.2.2.2.2.2.2.1)), .c (.sc (.bool r.2.2.2.2.2.2.2.2.2.2.2.2.1)), .c (.sc (.int .u32 r.2.2.2.2.2.2.2.2.2.2.2.2.2.1)), .c (.sc (.int .i64 r.2.2.2.2.2.2.2.2.2.2.2.2.2.2.1)), .c (.sc (.int .i64 r.2.2.2.2.2.2.2.2.2.2.2.2.2.2.2.1)), .c (.sc (.bool r.2.2.2.2.2.2.2.2.2.2.2.2.2.2.2.2.1)), .c (.sc (.bool r.2.2.2.2.2.2.2.2.2.2.2.2.2.2.2.2.2.1)), .c (.sc (.bool r.2.2.2.2.2.2.2.2.2.2.2.2.2.2.2.2.2.2.1)), .c (.sc (.int .i64 r.2.2.2.2.2.2.2.2.2.2.2.2.2.2.2.2.2.2.2.1)), .c (.sc (.int .i64 r.2.2.2.2.2.2.2.2.2.2.2.2.2.2.2.2.2.2.2.2))])
theorem proc_Answer.fun_ {a0 : Int} {a1 : Int} {a2 : ByteArray} {a3 : (List Int)} {a4 : Int} {a5 : Int} {a6 : (List Int)} {a7 : (List Int)} {a8 : Int} {a9 : Int} {a10 : (List Int)} {a11 : Int} {a12 : Bool} {a13 : Int} {a14 : Int} {a15 : Int} {a16 : Bool} {a17 : Bool} {a18 : Bool} {a19 : Int} {a20 : Int} {a21 : Int} {r : TY0} (h : proc_Answer.f a0 a1 a2 a3 a4 a5 a6 a7 a8 a9 a10 a11 a12 a13 a14 a15 a16 a17 a18 a19 a20 a21 = some r) : Fun cfg 15 [.agg [.c (.sc (.int .i64 a0)), .c (.sc (.int .i64 a1)), .c (.sc (.string a2)), .row 16 (.int .u32) a3, .c (.sc (.int .u32 a4)), .c (.sc (.int .u32 a5)), .row 4 (.int .u64) a6, .row 8 (.int .i64) a7, .c (.sc (.int .u32 a8)), .c (.sc (.int .u32 a9)), .row 32 (.int .u32) a10, .c (.sc (.int .i64 a11)), .c (.sc (.bool a12)), .c (.sc (.int .u32 a13)), .c (.sc (.int .i64 a14)), .c (.sc (.int .i64 a15)), .c (.sc (.bool a16)), .c (.sc (.bool a17)), .c (.sc (.bool a18)), .c (.sc (.int .i64 a19)), .c (.sc (.int .i64 a20))], .one (.sc (.int .u32 a21))] [] (proc_Answer.R r) [] := by
  unfold proc_Answer.f at h
  refine fun_of_run cfg_ok (f := 15) (fn := Tryz.f15) Tryz.func15 rfl (by kernel_rfl) (rs := [.cell 4 46]) rfl (nt := 11) rfl (l := fin) (k := (aE 4 (.adj [.drop 0] .nil))) (to_goal (q := (U ∧ (U ∧ (0 ≤ (0 : Int) ∧ (0 : Int) < ((16 : Nat) : Int)) ∧ (0 < 16) ∧ (U) ∧ (U ∧ (U) ∧ (U) ∧ (U ∧ (((U) ∧ U) ∧ ((U) ∧ U) ∧ (.v (.agg [.c (.sc (.int .i64 a0)), .c (.sc (.int .i64 a1)), .c (.sc (.string a2)), .row 16 (.int .u32) (List.set a3 0 a21), .c (.sc (.int .u32 a4)), .c (.sc (.int .u32 a5)), .row 4 (.int .u64) a6, .row 8 (.int .i64) a7, .c (.sc (.int .u32 a8)), .c (.sc (.int .u32 a9)), .row 32 (.int .u32) a10, .c (.sc (.int .i64 a11)), .c (.sc (.bool a12)), .c (.sc (.int .u32 a13)), .c (.sc (.int .i64 a14)), .c (.sc (.int .i64 a15)), .c (.sc (.bool a16)), .c (.sc (.bool a17)), .c (.sc (.bool a18)), .c (.sc (.int .i64 (0 : Int))), .c (.sc (.int .i64 a20))]) : Tm) = proc_Answer.R r ∧ ([] : List Box) = [])))))) (by kernel_rfl) ?_)
  refine ⟨T, T, ?_⟩
  refine ⟨(by decide), ?_⟩
  refine ⟨(by decide), ?_⟩
  refine ⟨T, T, T, T, T, ?_⟩
  obtain rfl := oi h
  exact ⟨⟨T, T⟩, ⟨T, T⟩, rfl, rfl⟩
/-! halter/sig.Fork -/
def sig_Fork.f (a0 : Int) (a1 : Int) (a2 : (List Int)) : Option (Int × Int × (List Int)) :=
  some ((0 : Int), a1, a2)
def sig_Fork.R (r : Int × Int × (List Int)) : Tm := .v (.agg [.c (.sc (.int .u32 r.1)), .c (.sc (.int .u32 r.2.1)), .row 32 (.int .u32) r.2.2])
theorem sig_Fork.fun_ {a0 : Int} {a1 : Int} {a2 : (List Int)} {r : Int × Int × (List Int)} (h : sig_Fork.f a0 a1 a2 = some r) : Fun cfg 25 [.agg [.c (.sc (.int .u32 a0)), .c (.sc (.int .u32 a1)), .row 32 (.int .u32) a2]] [] (sig_Fork.R r) [] := by
  unfold sig_Fork.f at h
  refine fun_of_run cfg_ok (f := 25) (fn := Tryz.f25) Tryz.func25 rfl (by kernel_rfl) (rs := [.cell 2 43]) rfl (nt := 5) rfl (l := fin) (k := (aE 4 (.adj [.drop 0] .nil))) (to_goal (q := (U ∧ (U ∧ (U) ∧ (U ∧ (U) ∧ (U) ∧ (U ∧ (((U) ∧ U) ∧ ((U) ∧ U) ∧ (.v (.agg [.c (.sc (.int .u32 (0 : Int))), .c (.sc (.int .u32 a1)), .row 32 (.int .u32) a2]) : Tm) = sig_Fork.R r ∧ ([] : List Box) = [])))))) (by kernel_rfl) ?_)
  refine ⟨T, T, T, T, T, T, T, ?_⟩
  obtain rfl := oi h
  exact ⟨⟨T, T⟩, ⟨T, T⟩, rfl, rfl⟩
/-! halter/proc.Child -/
def proc_Child.c0 : AV := .agg [.c (.sc (.int .i64 (0 : Int))), .c (.sc (.int .i64 (0 : Int))), .c (.sc (.string ByteArray.empty)), .row 16 (.int .u32) (List.replicate 16 (0 : Int)), .c (.sc (.int .u32 (0 : Int))), .c (.sc (.int .u32 (0 : Int))), .row 4 (.int .u64) (List.replicate 4 (0 : Int)), .row 8 (.int .i64) (List.replicate 8 (0 : Int)), .c (.sc (.int .u32 (0 : Int))), .c (.sc (.int .u32 (0 : Int))), .row 32 (.int .u32) (List.replicate 32 (0 : Int)), .c (.sc (.int .i64 (0 : Int))), .c (.sc (.bool false)), .c (.sc (.int .u32 (0 : Int))), .c (.sc (.int .i64 (0 : Int))), .c (.sc (.int .i64 (0 : Int))), .c (.sc (.bool false)), .c (.sc (.bool false)), .c (.sc (.bool false)), .c (.sc (.int .i64 (0 : Int))), .c (.sc (.int .i64 (0 : Int)))]
def proc_Child.f (a0 : Int) (a1 : Int) (a2 : ByteArray) (a3 : (List Int)) (a4 : Int) (a5 : Int) (a6 : (List Int)) (a7 : (List Int)) (a8 : Int) (a9 : Int) (a10 : (List Int)) (a11 : Int) (a12 : Bool) (a13 : Int) (a14 : Int) (a15 : Int) (a16 : Bool) (a17 : Bool) (a18 : Bool) (a19 : Int) (a20 : Int) (a21 : Int) : Option (TY1) :=
  (proc_Check.f a0 a1 a2 a3 a4 a5 a6 a7 a8 a9 a10 a11 a12 a13 a14 a15 a16 a17 a18 a19 a20).bind fun t1 =>
  if ¬ (t1 = none) then
    some ((0 : Int), (0 : Int), ByteArray.empty, (List.replicate 16 (0 : Int)), (0 : Int), (0 : Int), (List.replicate 4 (0 : Int)), (List.replicate 8 (0 : Int)), (0 : Int), (0 : Int), (List.replicate 32 (0 : Int)), (0 : Int), false, (0 : Int), (0 : Int), (0 : Int), false, false, false, (0 : Int), (0 : Int), (some (22 : Int)))
  else
    (pids_Check.f a21).bind fun t3 =>
    if ¬ (t3 = none) then
      some ((0 : Int), (0 : Int), ByteArray.empty, (List.replicate 16 (0 : Int)), (0 : Int), (0 : Int), (List.replicate 4 (0 : Int)), (List.replicate 8 (0 : Int)), (0 : Int), (0 : Int), (List.replicate 32 (0 : Int)), (0 : Int), false, (0 : Int), (0 : Int), (0 : Int), false, false, false, (0 : Int), (0 : Int), (some (22 : Int)))
    else
      (sig_Fork.f a8 a9 a10).bind fun t5 =>
      some (a21, a1, a2, (List.set a3 0 (0 : Int)), a4, a5, a6, a7, t5.1, t5.2.1, t5.2.2, (0 : Int), false, (0 : Int), (0 : Int), (0 : Int), false, false, false, (0 : Int), a20, none)
def proc_Child.R (r : TY1) : Tm := .tup [.agg [.c (.sc (.int .i64 r.1)), .c (.sc (.int .i64 r.2.1)), .c (.sc (.string r.2.2.1)), .row 16 (.int .u32) r.2.2.2.1, .c (.sc (.int .u32 r.2.2.2.2.1)), .c (.sc (.int .u32 r.2.2.2.2.2.1)), .row 4 (.int .u64) r.2.2.2.2.2.2.1, .row 8 (.int .i64) r.2.2.2.2.2.2.2.1, .c (.sc (.int .u32 r.2.2.2.2.2.2.2.2.1)), .c (.sc (.int .u32 r.2.2.2.2.2.2.2.2.2.1)), .row 32 (.int .u32) r.2.2.2.2.2.2.2.2.2.2.1, .c (.sc (.int .i64 r.2.2.2.2.2.2.2.2.2.2.2.1)), .c (.sc (.bool r.2.2.2.2.2.2.2.2.2.2.2.2.1)), .c (.sc (.int .u32 r.2.2.2.2.2.2.2.2.2.2.2.2.2.1)), .c (.sc (.int .i64 r.2.2.2.2.2.2.2.2.2.2.2.2.2.2.1)), .c (.sc (.int .i64 r.2.2.2.2.2.2.2.2.2.2.2.2.2.2.2.1)), .c (.sc (.bool r.2.2.2.2.2.2.2.2.2.2.2.2.2.2.2.2.1)), .c (.sc (.bool r.2.2.2.2.2.2.2.2.2.2.2.2.2.2.2.2.2.1)), .c (.sc (.bool r.2.2.2.2.2.2.2.2.2.2.2.2.2.2.2.2.2.2.1)), .c (.sc (.int .i64 r.2.2.2.2.2.2.2.2.2.2.2.2.2.2.2.2.2.2.2.1)), .c (.sc (.int .i64 r.2.2.2.2.2.2.2.2.2.2.2.2.2.2.2.2.2.2.2.2.1))], .one (.err r.2.2.2.2.2.2.2.2.2.2.2.2.2.2.2.2.2.2.2.2.2)]
theorem proc_Child.fun_ {a0 : Int} {a1 : Int} {a2 : ByteArray} {a3 : (List Int)} {a4 : Int} {a5 : Int} {a6 : (List Int)} {a7 : (List Int)} {a8 : Int} {a9 : Int} {a10 : (List Int)} {a11 : Int} {a12 : Bool} {a13 : Int} {a14 : Int} {a15 : Int} {a16 : Bool} {a17 : Bool} {a18 : Bool} {a19 : Int} {a20 : Int} {a21 : Int} {r : TY1} (h : proc_Child.f a0 a1 a2 a3 a4 a5 a6 a7 a8 a9 a10 a11 a12 a13 a14 a15 a16 a17 a18 a19 a20 a21 = some r) : Fun cfg 6 [.agg [.c (.sc (.int .i64 a0)), .c (.sc (.int .i64 a1)), .c (.sc (.string a2)), .row 16 (.int .u32) a3, .c (.sc (.int .u32 a4)), .c (.sc (.int .u32 a5)), .row 4 (.int .u64) a6, .row 8 (.int .i64) a7, .c (.sc (.int .u32 a8)), .c (.sc (.int .u32 a9)), .row 32 (.int .u32) a10, .c (.sc (.int .i64 a11)), .c (.sc (.bool a12)), .c (.sc (.int .u32 a13)), .c (.sc (.int .i64 a14)), .c (.sc (.int .i64 a15)), .c (.sc (.bool a16)), .c (.sc (.bool a17)), .c (.sc (.bool a18)), .c (.sc (.int .i64 a19)), .c (.sc (.int .i64 a20))], .one (.sc (.int .i64 a21))] [] (proc_Child.R r) [] := by
  unfold proc_Child.f at h
  refine fun_of_run cfg_ok (f := 6) (fn := Tryz.f6) Tryz.func6 rfl (by kernel_rfl) (rs := [.cell 4 46, .tmp 5]) rfl (nt := 31) rfl (l := fin) (k := (.call true [] ((Option Int)) proc_Check.R (fun t1 => (.br (oT 4 (aE 2 (.adj [.drop 0] .nil))) (.one false (.call true [] ((Option Int)) pids_Check.R (fun t3 => (oF 2 (.br (aE 2 (.adj [.drop 0] .nil)) (.call true [] (Int × Int × (List Int)) sig_Fork.R (fun t5 => (aE 3 (.adj [.drop 0] .nil))))))))))))) (to_goal (q := (U) ∧ (∃ t1 : (Option Int), (Fun cfg 20 [.agg [.c (.sc (.int .i64 a0)), .c (.sc (.int .i64 a1)), .c (.sc (.string a2)), .row 16 (.int .u32) a3, .c (.sc (.int .u32 a4)), .c (.sc (.int .u32 a5)), .row 4 (.int .u64) a6, .row 8 (.int .i64) a7, .c (.sc (.int .u32 a8)), .c (.sc (.int .u32 a9)), .row 32 (.int .u32) a10, .c (.sc (.int .i64 a11)), .c (.sc (.bool a12)), .c (.sc (.int .u32 a13)), .c (.sc (.int .i64 a14)), .c (.sc (.int .i64 a15)), .c (.sc (.bool a16)), .c (.sc (.bool a17)), .c (.sc (.bool a18)), .c (.sc (.int .i64 a19)), .c (.sc (.int .i64 a20))]] [] (proc_Check.R t1) [] ∧ U) ∧ (U) ∧ (((!(Option.isNone t1)) = false → ((!(Option.isNone t1)) = false ∧ (∃ t3 : (Option Int), (Fun cfg 24 [.one (.sc (.int .i64 a21))] [] (pids_Check.R t3) [] ∧ U) ∧ ((!(Option.isNone t1)) = false ∧ (U) ∧ ((!(Option.isNone t1)) = false ∧ (((!(Option.isNone t3)) = true → (U ∧ (U) ∧ (U ∧ (((U) ∧ U) ∧ ((U) ∧ U) ∧ (.tup [proc_Child.c0, .one (.err (some (22 : Int)))] : Tm) = proc_Child.R r ∧ ([] : List Box) = [])))) ∧ ((!(Option.isNone t3)) = false → (U) ∧ (∃ t5 : Int × Int × (List Int), (Fun cfg 25 [.agg [.c (.sc (.int .u32 a8)), .c (.sc (.int .u32 a9)), .row 32 (.int .u32) a10]] [] (sig_Fork.R t5) [] ∧ U) ∧ (U) ∧ (0 ≤ (0 : Int) ∧ (0 : Int) < ((16 : Nat) : Int)) ∧ (0 < 16) ∧ (U) ∧ (U) ∧ (U ∧ (U) ∧ (U) ∧ (U) ∧ (U ∧ (U) ∧ (U) ∧ (U ∧ (((U) ∧ U) ∧ ((U) ∧ U) ∧ (.tup [.agg [.c (.sc (.int .i64 a21)), .c (.sc (.int .i64 a1)), .c (.sc (.string a2)), .row 16 (.int .u32) (List.set a3 0 (0 : Int)), .c (.sc (.int .u32 a4)), .c (.sc (.int .u32 a5)), .row 4 (.int .u64) a6, .row 8 (.int .i64) a7, .c (.sc (.int .u32 t5.1)), .c (.sc (.int .u32 t5.2.1)), .row 32 (.int .u32) (z2 t5), .c (.sc (.int .i64 (0 : Int))), .c (.sc (.bool false)), .c (.sc (.int .u32 (0 : Int))), .c (.sc (.int .i64 (0 : Int))), .c (.sc (.int .i64 (0 : Int))), .c (.sc (.bool false)), .c (.sc (.bool false)), .c (.sc (.bool false)), .c (.sc (.int .i64 (0 : Int))), .c (.sc (.int .i64 a20))], .one (.err none)] : Tm) = proc_Child.R r ∧ ([] : List Box) = [])))))))))))) ∧ ((!(Option.isNone t1)) = true → ((!(Option.isNone t1)) = true ∧ ((!(Option.isNone t1)) = true ∧ ((!(Option.isNone t1)) = true ∧ (true = true ∧ (U ∧ (U) ∧ (U ∧ (((U) ∧ U) ∧ ((U) ∧ U) ∧ (.tup [proc_Child.c0, .one (.err (some (22 : Int)))] : Tm) = proc_Child.R r ∧ ([] : List Box) = []))))))))))) (by kernel_rfl) ?_)
  refine tI ?_
  obtain ⟨t1, ht1, h⟩ := of_bind h
  refine ⟨t1, ⟨proc_Check.fun_ ht1, T⟩, ?_⟩
  refine tI ?_
  refine ⟨fun b2 => ?_, fun b2 => ?_⟩
  · rw [if_neg (not_not_intro (none_t (not_f b2)))] at h
    refine ⟨b2, ?_⟩
    obtain ⟨t3, ht3, h⟩ := of_bind h
    refine ⟨t3, ⟨pids_Check.fun_ ht3, T⟩, ?_⟩
    refine ⟨b2, ?_⟩
    refine tI ?_
    refine ⟨b2, ?_⟩
    refine ⟨fun b4 => ?_, fun b4 => ?_⟩
    · rw [if_pos (none_f (not_t b4))] at h
      refine ⟨T, T, T, ?_⟩
      obtain rfl := oi h
      exact ⟨⟨T, T⟩, ⟨T, T⟩, rfl, rfl⟩
    · rw [if_neg (not_not_intro (none_t (not_f b4)))] at h
      refine tI ?_
      obtain ⟨t5, ht5, h⟩ := of_bind h
      refine ⟨t5, ⟨sig_Fork.fun_ ht5, T⟩, ?_⟩
      refine tI ?_
      refine ⟨(by decide), ?_⟩
      refine ⟨(by decide), ?_⟩
      refine ⟨T, T, T, T, T, T, T, T, T, T, ?_⟩
      obtain rfl := oi h
      exact ⟨⟨T, T⟩, ⟨T, T⟩, rfl, rfl⟩
  · rw [if_pos (none_f (not_t b2))] at h
    refine ⟨b2, ?_⟩
    refine ⟨b2, ?_⟩
    refine ⟨b2, ?_⟩
    refine ⟨rfl, T, T, T, ?_⟩
    obtain rfl := oi h
    exact ⟨⟨T, T⟩, ⟨T, T⟩, rfl, rfl⟩
/-! halter/sig.signal -/
def sig_signal.f (a0 : Int) : Option Bool :=
  if a0 ≥ (1 : Int) then
    some (decide (a0 ≤ (31 : Int)))
  else
    some false
def sig_signal.R (r : Bool) : Tm := .v (.one (.sc (.bool r)))
theorem sig_signal.fun_ {a0 : Int} {r : Bool} (h : sig_signal.f a0 = some r) : Fun cfg 46 [.one (.sc (.int .i64 a0))] [] (sig_signal.R r) [] := by
  unfold sig_signal.f at h
  refine fun_of_run cfg_ok (f := 46) (fn := Tryz.f46) Tryz.func46 rfl (by kernel_rfl) (rs := [.tmp 2]) rfl (nt := 9) rfl (l := fin) (k := (.br (oT 2 (aE 2 .nil)) (oF 2 (aE 2 .nil)))) (to_goal (q := (U) ∧ (((decide (a0 ≥ (1 : Int))) = true → ((decide (a0 ≥ (1 : Int))) = true ∧ (U) ∧ ((decide (a0 ≥ (1 : Int))) = true ∧ (U ∧ ((U) ∧ (U) ∧ (.v (.one (.sc (.bool (decide (a0 ≤ (31 : Int)))))) : Tm) = sig_signal.R r ∧ ([] : List Box) = []))))) ∧ ((decide (a0 ≥ (1 : Int))) = false → ((decide (a0 ≥ (1 : Int))) = false ∧ ((decide (a0 ≥ (1 : Int))) = false ∧ (U ∧ ((U) ∧ (U) ∧ (.v (.one (.sc (.bool false))) : Tm) = sig_signal.R r ∧ ([] : List Box) = []))))))) (by kernel_rfl) ?_)
  refine tI ?_
  refine ⟨fun b1 => ?_, fun b1 => ?_⟩
  · rw [if_pos (dT_ b1)] at h
    refine ⟨b1, ?_⟩
    refine tI ?_
    refine ⟨b1, ?_⟩
    refine tI ?_
    obtain rfl := oi h
    exact ⟨T, T, rfl, rfl⟩
  · rw [if_neg (dF_ b1)] at h
    refine ⟨b1, ?_⟩
    refine ⟨b1, ?_⟩
    refine tI ?_
    obtain rfl := oi h
    exact ⟨T, T, rfl, rfl⟩
/-! halter/sigset.One -/
def sigset_One.f (a0 : Int) : Option Int :=
  if a0 < (1 : Int) then
    some (0 : Int)
  else
    if a0 > (31 : Int) then
      some (0 : Int)
    else
      if 0 ≤ (IntKind.wrap .i64 (a0 - (1 : Int))) then
        some (shl .u32 (1 : Int) (IntKind.wrap .i64 (a0 - (1 : Int))))
      else none
def sigset_One.R (r : Int) : Tm := vi .u32 r
theorem sigset_One.fun_ {a0 : Int} {r : Int} (h : sigset_One.f a0 = some r) : Fun cfg 63 [.one (.sc (.int .i64 a0))] [] (sigset_One.R r) [] := by
  unfold sigset_One.f at h
  refine fun_of_run cfg_ok (f := 63) (fn := Tryz.f63) Tryz.func63 rfl (by kernel_rfl) (rs := [.tmp 2]) rfl (nt := 12) rfl (l := fin) (k := (.br (oT 3 (aE 3 .nil)) (oF 2 (.br (aE 3 .nil) (aE 4 .nil))))) (to_goal (q := (U) ∧ (((decide (a0 < (1 : Int))) = false → ((decide (a0 < (1 : Int))) = false ∧ (U) ∧ ((decide (a0 < (1 : Int))) = false ∧ (((decide (a0 > (31 : Int))) = true → (U ∧ (U ∧ ((U) ∧ (U) ∧ (vi .u32 (0 : Int) : Tm) = sigset_One.R r ∧ ([] : List Box) = [])))) ∧ ((decide (a0 > (31 : Int))) = false → (U ∧ (U ∧ (U) ∧ (0 ≤ (IntKind.wrap .i64 (a0 - (1 : Int)))) ∧ (U ∧ ((U) ∧ (U) ∧ (vi .u32 (shl .u32 (1 : Int) (IntKind.wrap .i64 (a0 - (1 : Int)))) : Tm) = sigset_One.R r ∧ ([] : List Box) = []))))))))) ∧ ((decide (a0 < (1 : Int))) = true → ((decide (a0 < (1 : Int))) = true ∧ ((decide (a0 < (1 : Int))) = true ∧ (true = true ∧ (U ∧ (U ∧ ((U) ∧ (U) ∧ (vi .u32 (0 : Int) : Tm) = sigset_One.R r ∧ ([] : List Box) = []))))))))) (by kernel_rfl) ?_)
  refine tI ?_
  refine ⟨fun b1 => ?_, fun b1 => ?_⟩
  · rw [if_neg (dF_ b1)] at h
    refine ⟨b1, ?_⟩
    refine tI ?_
    refine ⟨b1, ?_⟩
    refine ⟨fun b2 => ?_, fun b2 => ?_⟩
    · rw [if_pos (dT_ b2)] at h
      refine ⟨T, T, ?_⟩
      obtain rfl := oi h
      exact ⟨T, T, rfl, rfl⟩
    · rw [if_neg (dF_ b2)] at h
      refine ⟨T, T, T, ?_⟩
      obtain ⟨g3, h⟩ := of_guard h
      refine ⟨g3, ?_⟩
      refine tI ?_
      obtain rfl := oi h
      exact ⟨T, T, rfl, rfl⟩
  · rw [if_pos (dT_ b1)] at h
    refine ⟨b1, ?_⟩
    refine ⟨b1, ?_⟩
    refine ⟨rfl, T, T, ?_⟩
    obtain rfl := oi h
    exact ⟨T, T, rfl, rfl⟩
/-! halter/sigset.Add -/
def sigset_Add.f (a0 : Int) (a1 : Int) : Option Int :=
  (sigset_One.f a1).bind fun t1 =>
  some (bits .or .u32 (bits .and .u32 a0 (2147483647 : Int)) t1)
def sigset_Add.R (r : Int) : Tm := vi .u32 r
theorem sigset_Add.fun_ {a0 : Int} {a1 : Int} {r : Int} (h : sigset_Add.f a0 a1 = some r) : Fun cfg 49 [.one (.sc (.int .u32 a0)), .one (.sc (.int .i64 a1))] [] (sigset_Add.R r) [] := by
  unfold sigset_Add.f at h
  refine fun_of_run cfg_ok (f := 49) (fn := Tryz.f49) Tryz.func49 rfl (by kernel_rfl) (rs := [.tmp 4]) rfl (nt := 10) rfl (l := fin) (k := (.call true [] (Int) sigset_One.R (fun t1 => (aE 2 .nil)))) (to_goal (q := (U) ∧ (∃ t1 : Int, (Fun cfg 63 [.one (.sc (.int .i64 a1))] [] (sigset_One.R t1) [] ∧ U) ∧ (U) ∧ (U ∧ ((U) ∧ (U) ∧ (vi .u32 (bits .or .u32 (bits .and .u32 a0 (2147483647 : Int)) t1) : Tm) = sigset_Add.R r ∧ ([] : List Box) = [])))) (by kernel_rfl) ?_)
  refine tI ?_
  obtain ⟨t1, ht1, h⟩ := of_bind h
  refine ⟨t1, ⟨sigset_One.fun_ ht1, T⟩, ?_⟩
  refine ⟨T, T, ?_⟩
  obtain rfl := oi h
  exact ⟨T, T, rfl, rfl⟩
/-! halter/sig.against -/
def sig_against.f (a0 : Int) : Option Int :=
  if a0 = (18 : Int) then
    (sigset_One.f (19 : Int)).bind fun t2 =>
    (sigset_Add.f t2 (20 : Int)).bind fun t3 =>
    some t3
  else
    if a0 = (19 : Int) then
      (sigset_One.f (18 : Int)).bind fun t5 =>
      some t5
    else
      if a0 = (20 : Int) then
        (sigset_One.f (18 : Int)).bind fun t7 =>
        some t7
      else
        some (0 : Int)
def sig_against.R (r : Int) : Tm := vi .u32 r
theorem sig_against.fun_ {a0 : Int} {r : Int} (h : sig_against.f a0 = some r) : Fun cfg 47 [.one (.sc (.int .i64 a0))] [] (sig_against.R r) [] := by
  unfold sig_against.f at h
  refine fun_of_run cfg_ok (f := 47) (fn := Tryz.f47) Tryz.func47 rfl (by kernel_rfl) (rs := [.tmp 2]) rfl (nt := 12) rfl (l := fin) (k := (.br (.call true [] (Int) sigset_One.R (fun t2 => (.call true [] (Int) sigset_Add.R (fun t3 => (aE 2 .nil))))) (.br (.one true (.call true [] (Int) sigset_One.R (fun t5 => (aE 2 .nil)))) (.br (.call true [] (Int) sigset_One.R (fun t7 => (aE 2 .nil))) (aE 4 .nil))))) (to_goal (q := (U) ∧ (((a0 == (18 : Int)) = true → (∃ t2 : Int, (Fun cfg 63 [.one (.sc (.int .i64 (19 : Int)))] [] (sigset_One.R t2) [] ∧ U) ∧ (∃ t3 : Int, (Fun cfg 49 [.one (.sc (.int .u32 t2)), .one (.sc (.int .i64 (20 : Int)))] [] (sigset_Add.R t3) [] ∧ U) ∧ (U ∧ ((U) ∧ (U) ∧ (vi .u32 t3 : Tm) = sig_against.R r ∧ ([] : List Box) = []))))) ∧ ((a0 == (18 : Int)) = false → (U) ∧ (((a0 == (19 : Int)) = true → ((a0 == (19 : Int)) = true ∧ (∃ t5 : Int, (Fun cfg 63 [.one (.sc (.int .i64 (18 : Int)))] [] (sigset_One.R t5) [] ∧ U) ∧ (U ∧ ((U) ∧ (U) ∧ (vi .u32 t5 : Tm) = sig_against.R r ∧ ([] : List Box) = []))))) ∧ ((a0 == (19 : Int)) = false → (U) ∧ (((a0 == (20 : Int)) = true → (∃ t7 : Int, (Fun cfg 63 [.one (.sc (.int .i64 (18 : Int)))] [] (sigset_One.R t7) [] ∧ U) ∧ (U ∧ ((U) ∧ (U) ∧ (vi .u32 t7 : Tm) = sig_against.R r ∧ ([] : List Box) = [])))) ∧ ((a0 == (20 : Int)) = false → (U ∧ (U ∧ (U ∧ ((U) ∧ (U) ∧ (vi .u32 (0 : Int) : Tm) = sig_against.R r ∧ ([] : List Box) = []))))))))))) (by kernel_rfl) ?_)
  refine tI ?_
  refine ⟨fun b1 => ?_, fun b1 => ?_⟩
  · rw [if_pos (beq_t b1)] at h
    obtain ⟨t2, ht2, h⟩ := of_bind h
    refine ⟨t2, ⟨sigset_One.fun_ ht2, T⟩, ?_⟩
    obtain ⟨t3, ht3, h⟩ := of_bind h
    refine ⟨t3, ⟨sigset_Add.fun_ ht3, T⟩, ?_⟩
    refine tI ?_
    obtain rfl := oi h
    exact ⟨T, T, rfl, rfl⟩
  · rw [if_neg (beq_f b1)] at h
    refine tI ?_
    refine ⟨fun b4 => ?_, fun b4 => ?_⟩
    · rw [if_pos (beq_t b4)] at h
      refine ⟨b4, ?_⟩
      obtain ⟨t5, ht5, h⟩ := of_bind h
      refine ⟨t5, ⟨sigset_One.fun_ ht5, T⟩, ?_⟩
      refine tI ?_
      obtain rfl := oi h
      exact ⟨T, T, rfl, rfl⟩
    · rw [if_neg (beq_f b4)] at h
      refine tI ?_
      refine ⟨fun b6 => ?_, fun b6 => ?_⟩
      · rw [if_pos (beq_t b6)] at h
        obtain ⟨t7, ht7, h⟩ := of_bind h
        refine ⟨t7, ⟨sigset_One.fun_ ht7, T⟩, ?_⟩
        refine tI ?_
        obtain rfl := oi h
        exact ⟨T, T, rfl, rfl⟩
      · rw [if_neg (beq_f b6)] at h
        refine ⟨T, T, T, ?_⟩
        obtain rfl := oi h
        exact ⟨T, T, rfl, rfl⟩
/-! halter/sigset.Has -/
def sigset_Has.f (a0 : Int) (a1 : Int) : Option Bool :=
  (sigset_One.f a1).bind fun t1 =>
  some ((bits .and .u32 a0 t1) != (0 : Int))
def sigset_Has.R (r : Bool) : Tm := .v (.one (.sc (.bool r)))
theorem sigset_Has.fun_ {a0 : Int} {a1 : Int} {r : Bool} (h : sigset_Has.f a0 a1 = some r) : Fun cfg 44 [.one (.sc (.int .u32 a0)), .one (.sc (.int .i64 a1))] [] (sigset_Has.R r) [] := by
  unfold sigset_Has.f at h
  refine fun_of_run cfg_ok (f := 44) (fn := Tryz.f44) Tryz.func44 rfl (by kernel_rfl) (rs := [.tmp 4]) rfl (nt := 10) rfl (l := fin) (k := (.call true [] (Int) sigset_One.R (fun t1 => (aE 2 .nil)))) (to_goal (q := (∃ t1 : Int, (Fun cfg 63 [.one (.sc (.int .i64 a1))] [] (sigset_One.R t1) [] ∧ U) ∧ (U) ∧ (U) ∧ (U ∧ ((U) ∧ (U) ∧ (.v (.one (.sc (.bool ((bits .and .u32 a0 t1) != (0 : Int))))) : Tm) = sigset_Has.R r ∧ ([] : List Box) = [])))) (by kernel_rfl) ?_)
  obtain ⟨t1, ht1, h⟩ := of_bind h
  refine ⟨t1, ⟨sigset_One.fun_ ht1, T⟩, ?_⟩
  refine ⟨T, T, T, ?_⟩
  obtain rfl := oi h
  exact ⟨T, T, rfl, rfl⟩
/-! halter/sig.plain -/
def sig_plain.f (a0 : Int) : Option Int :=
  if a0 = (17 : Int) then
    some (0 : Int)
  else
    if a0 = (18 : Int) then
      some (3 : Int)
    else
      if a0 = (19 : Int) then
        some (2 : Int)
      else
        if a0 = (20 : Int) then
          some (2 : Int)
        else
          some (1 : Int)
def sig_plain.R (r : Int) : Tm := vi .i64 r
theorem sig_plain.fun_ {a0 : Int} {r : Int} (h : sig_plain.f a0 = some r) : Fun cfg 65 [.one (.sc (.int .i64 a0))] [] (sig_plain.R r) [] := by
  unfold sig_plain.f at h
  refine fun_of_run cfg_ok (f := 65) (fn := Tryz.f65) Tryz.func65 rfl (by kernel_rfl) (rs := [.tmp 2]) rfl (nt := 11) rfl (l := fin) (k := (.br (aE 3 .nil) (.br (aE 3 .nil) (.br (.one true (aE 3 .nil)) (.br (aE 3 .nil) (aE 4 .nil)))))) (to_goal (q := (U) ∧ (((a0 == (17 : Int)) = true → (U ∧ (U ∧ ((U) ∧ (U) ∧ (vi .i64 (0 : Int) : Tm) = sig_plain.R r ∧ ([] : List Box) = [])))) ∧ ((a0 == (17 : Int)) = false → (U) ∧ (((a0 == (18 : Int)) = true → (U ∧ (U ∧ ((U) ∧ (U) ∧ (vi .i64 (3 : Int) : Tm) = sig_plain.R r ∧ ([] : List Box) = [])))) ∧ ((a0 == (18 : Int)) = false → (U) ∧ (((a0 == (19 : Int)) = true → ((a0 == (19 : Int)) = true ∧ (U ∧ (U ∧ ((U) ∧ (U) ∧ (vi .i64 (2 : Int) : Tm) = sig_plain.R r ∧ ([] : List Box) = []))))) ∧ ((a0 == (19 : Int)) = false → (U) ∧ (((a0 == (20 : Int)) = true → (U ∧ (U ∧ ((U) ∧ (U) ∧ (vi .i64 (2 : Int) : Tm) = sig_plain.R r ∧ ([] : List Box) = [])))) ∧ ((a0 == (20 : Int)) = false → (U ∧ (U ∧ (U ∧ ((U) ∧ (U) ∧ (vi .i64 (1 : Int) : Tm) = sig_plain.R r ∧ ([] : List Box) = []))))))))))))) (by kernel_rfl) ?_)
  refine tI ?_
  refine ⟨fun b1 => ?_, fun b1 => ?_⟩
  · rw [if_pos (beq_t b1)] at h
    refine ⟨T, T, ?_⟩
    obtain rfl := oi h
    exact ⟨T, T, rfl, rfl⟩
  · rw [if_neg (beq_f b1)] at h
    refine tI ?_
    refine ⟨fun b2 => ?_, fun b2 => ?_⟩
    · rw [if_pos (beq_t b2)] at h
      refine ⟨T, T, ?_⟩
      obtain rfl := oi h
      exact ⟨T, T, rfl, rfl⟩
    · rw [if_neg (beq_f b2)] at h
      refine tI ?_
      refine ⟨fun b3 => ?_, fun b3 => ?_⟩
      · rw [if_pos (beq_t b3)] at h
        refine ⟨b3, ?_⟩
        refine ⟨T, T, ?_⟩
        obtain rfl := oi h
        exact ⟨T, T, rfl, rfl⟩
      · rw [if_neg (beq_f b3)] at h
        refine tI ?_
        refine ⟨fun b4 => ?_, fun b4 => ?_⟩
        · rw [if_pos (beq_t b4)] at h
          refine ⟨T, T, ?_⟩
          obtain rfl := oi h
          exact ⟨T, T, rfl, rfl⟩
        · rw [if_neg (beq_f b4)] at h
          refine ⟨T, T, T, ?_⟩
          obtain rfl := oi h
          exact ⟨T, T, rfl, rfl⟩
/-! halter/sig.What -/
def sig_What.f (a0 : Int) (a1 : Int) (a2 : (List Int)) (a3 : Int) : Option Int :=
  (sig_signal.f a3).bind fun t1 =>
  if ¬ (t1 = true) then
    some (0 : Int)
  else
    if a3 = (9 : Int) then
      (sig_plain.f a3).bind fun t4 =>
      some t4
    else
      if a3 = (19 : Int) then
        (sig_plain.f a3).bind fun t6 =>
        some t6
      else
        if 0 ≤ a3 ∧ a3 < ((32 : Nat) : Int) then
          if (Int.toNat a3) < 32 then
            if (List.getD a2 (Int.toNat a3) (0 : Int)) = (0 : Int) then
              (sig_plain.f a3).bind fun t8 =>
              some t8
            else
              if 0 ≤ a3 ∧ a3 < ((32 : Nat) : Int) then
                if (Int.toNat a3) < 32 then
                  if (List.getD a2 (Int.toNat a3) (0 : Int)) > (1 : Int) then
                    some (4 : Int)
                  else
                    if a3 = (18 : Int) then
                      some (3 : Int)
                    else
                      some (0 : Int)
                else none
              else none
          else none
        else none
def sig_What.R (r : Int) : Tm := vi .i64 r
theorem sig_What.fun_ {a0 : Int} {a1 : Int} {a2 : (List Int)} {a3 : Int} {r : Int} (h : sig_What.f a0 a1 a2 a3 = some r) : Fun cfg 48 [.agg [.c (.sc (.int .u32 a0)), .c (.sc (.int .u32 a1)), .row 32 (.int .u32) a2], .one (.sc (.int .i64 a3))] [] (sig_What.R r) [] := by
  unfold sig_What.f at h
  refine fun_of_run cfg_ok (f := 48) (fn := Tryz.f48) Tryz.func48 rfl (by kernel_rfl) (rs := [.tmp 4]) rfl (nt := 34) rfl (l := fin) (k := (.call true [] (Bool) sig_signal.R (fun t1 => (.br (aE 2 (.adj [.drop 0] .nil)) (.br (oT 9 (.call true [] (Int) sig_plain.R (fun t4 => (.adj [] (.adj [.drop 0] .nil))))) (oF 2 (.br (oT 6 (.call true [] (Int) sig_plain.R (fun t6 => (.adj [] (.adj [.drop 0] .nil))))) (oF 5 (.br (.call true [] (Int) sig_plain.R (fun t8 => (.adj [] (.adj [.drop 0] .nil)))) (.br (aE 2 (.adj [.drop 0] .nil)) (.br (aE 2 (.adj [.drop 0] .nil)) (aE 3 (.adj [.drop 0] .nil))))))))))))) (to_goal (q := (∃ t1 : Bool, (Fun cfg 46 [.one (.sc (.int .i64 a3))] [] (sig_signal.R t1) [] ∧ U) ∧ (((!t1) = true → (U ∧ (U ∧ ((U) ∧ ((U) ∧ U) ∧ (vi .i64 (0 : Int) : Tm) = sig_What.R r ∧ ([] : List Box) = [])))) ∧ ((!t1) = false → (U) ∧ (((a3 == (9 : Int)) = false → ((a3 == (9 : Int)) = false ∧ (U) ∧ ((a3 == (9 : Int)) = false ∧ (((a3 == (19 : Int)) = false → ((a3 == (19 : Int)) = false ∧ ((a3 == (19 : Int)) = false ∧ (0 ≤ a3 ∧ a3 < ((32 : Nat) : Int)) ∧ ((a3 == (19 : Int)) = false ∧ ((Int.toNat a3) < 32) ∧ ((a3 == (19 : Int)) = false ∧ (U) ∧ ((a3 == (19 : Int)) = false ∧ ((((List.getD a2 (Int.toNat a3) (0 : Int)) == (0 : Int)) = true → (∃ t8 : Int, (Fun cfg 65 [.one (.sc (.int .i64 a3))] [] (sig_plain.R t8) [] ∧ U) ∧ (U ∧ ((U) ∧ ((U) ∧ U) ∧ (vi .i64 t8 : Tm) = sig_What.R r ∧ ([] : List Box) = [])))) ∧ (((List.getD a2 (Int.toNat a3) (0 : Int)) == (0 : Int)) = false → (0 ≤ a3 ∧ a3 < ((32 : Nat) : Int)) ∧ ((Int.toNat a3) < 32) ∧ (U) ∧ (((decide ((List.getD a2 (Int.toNat a3) (0 : Int)) > (1 : Int))) = true → (U ∧ (U ∧ ((U) ∧ ((U) ∧ U) ∧ (vi .i64 (4 : Int) : Tm) = sig_What.R r ∧ ([] : List Box) = [])))) ∧ ((decide ((List.getD a2 (Int.toNat a3) (0 : Int)) > (1 : Int))) = false → (U) ∧ (((a3 == (18 : Int)) = true → (U ∧ (U ∧ ((U) ∧ ((U) ∧ U) ∧ (vi .i64 (3 : Int) : Tm) = sig_What.R r ∧ ([] : List Box) = [])))) ∧ ((a3 == (18 : Int)) = false → (U ∧ (U ∧ (U ∧ ((U) ∧ ((U) ∧ U) ∧ (vi .i64 (0 : Int) : Tm) = sig_What.R r ∧ ([] : List Box) = [])))))))))))))))) ∧ ((a3 == (19 : Int)) = true → ((a3 == (19 : Int)) = true ∧ ((a3 == (19 : Int)) = true ∧ ((a3 == (19 : Int)) = true ∧ ((a3 == (19 : Int)) = true ∧ ((a3 == (19 : Int)) = true ∧ (true = true ∧ (∃ t6 : Int, (Fun cfg 65 [.one (.sc (.int .i64 a3))] [] (sig_plain.R t6) [] ∧ U) ∧ (U ∧ ((U) ∧ ((U) ∧ U) ∧ (vi .i64 t6 : Tm) = sig_What.R r ∧ ([] : List Box) = [])))))))))))))) ∧ ((a3 == (9 : Int)) = true → ((a3 == (9 : Int)) = true ∧ ((a3 == (9 : Int)) = true ∧ (true = true ∧ (true = true ∧ (true = true ∧ (true = true ∧ (true = true ∧ (true = true ∧ (true = true ∧ (∃ t4 : Int, (Fun cfg 65 [.one (.sc (.int .i64 a3))] [] (sig_plain.R t4) [] ∧ U) ∧ (U ∧ ((U) ∧ ((U) ∧ U) ∧ (vi .i64 t4 : Tm) = sig_What.R r ∧ ([] : List Box) = [])))))))))))))))))) (by kernel_rfl) ?_)
  obtain ⟨t1, ht1, h⟩ := of_bind h
  refine ⟨t1, ⟨sig_signal.fun_ ht1, T⟩, ?_⟩
  refine ⟨fun b2 => ?_, fun b2 => ?_⟩
  · rw [if_pos (ff (not_t b2))] at h
    refine ⟨T, T, ?_⟩
    obtain rfl := oi h
    exact ⟨T, ⟨T, T⟩, rfl, rfl⟩
  · rw [if_neg (not_not_intro (not_f b2))] at h
    refine tI ?_
    refine ⟨fun b3 => ?_, fun b3 => ?_⟩
    · rw [if_neg (beq_f b3)] at h
      refine ⟨b3, ?_⟩
      refine tI ?_
      refine ⟨b3, ?_⟩
      refine ⟨fun b5 => ?_, fun b5 => ?_⟩
      · rw [if_neg (beq_f b5)] at h
        refine ⟨b5, ?_⟩
        refine ⟨b5, ?_⟩
        obtain ⟨g14, h⟩ := of_guard h
        refine ⟨g14, ?_⟩
        refine ⟨b5, ?_⟩
        obtain ⟨g13, h⟩ := of_guard h
        refine ⟨g13, ?_⟩
        refine ⟨b5, ?_⟩
        refine tI ?_
        refine ⟨b5, ?_⟩
        refine ⟨fun b7 => ?_, fun b7 => ?_⟩
        · rw [if_pos (beq_t b7)] at h
          obtain ⟨t8, ht8, h⟩ := of_bind h
          refine ⟨t8, ⟨sig_plain.fun_ ht8, T⟩, ?_⟩
          refine tI ?_
          obtain rfl := oi h
          exact ⟨T, ⟨T, T⟩, rfl, rfl⟩
        · rw [if_neg (beq_f b7)] at h
          obtain ⟨g12, h⟩ := of_guard h
          refine ⟨g12, ?_⟩
          obtain ⟨g11, h⟩ := of_guard h
          refine ⟨g11, ?_⟩
          refine tI ?_
          refine ⟨fun b9 => ?_, fun b9 => ?_⟩
          · rw [if_pos (dT_ b9)] at h
            refine ⟨T, T, ?_⟩
            obtain rfl := oi h
            exact ⟨T, ⟨T, T⟩, rfl, rfl⟩
          · rw [if_neg (dF_ b9)] at h
            refine tI ?_
            refine ⟨fun b10 => ?_, fun b10 => ?_⟩
            · rw [if_pos (beq_t b10)] at h
              refine ⟨T, T, ?_⟩
              obtain rfl := oi h
              exact ⟨T, ⟨T, T⟩, rfl, rfl⟩
            · rw [if_neg (beq_f b10)] at h
              refine ⟨T, T, T, ?_⟩
              obtain rfl := oi h
              exact ⟨T, ⟨T, T⟩, rfl, rfl⟩
      · rw [if_pos (beq_t b5)] at h
        refine ⟨b5, ?_⟩
        refine ⟨b5, ?_⟩
        refine ⟨b5, ?_⟩
        refine ⟨b5, ?_⟩
        refine ⟨b5, ?_⟩
        refine ⟨rfl, ?_⟩
        obtain ⟨t6, ht6, h⟩ := of_bind h
        refine ⟨t6, ⟨sig_plain.fun_ ht6, T⟩, ?_⟩
        refine tI ?_
        obtain rfl := oi h
        exact ⟨T, ⟨T, T⟩, rfl, rfl⟩
    · rw [if_pos (beq_t b3)] at h
      refine ⟨b3, ?_⟩
      refine ⟨b3, ?_⟩
      refine ⟨rfl, rfl, rfl, rfl, rfl, rfl, rfl, ?_⟩
      obtain ⟨t4, ht4, h⟩ := of_bind h
      refine ⟨t4, ⟨sig_plain.fun_ ht4, T⟩, ?_⟩
      refine tI ?_
      obtain rfl := oi h
      exact ⟨T, ⟨T, T⟩, rfl, rfl⟩
/-! halter/sig.Post -/
def sig_Post.f (a0 : Int) (a1 : Int) (a2 : (List Int)) (a3 : Int) : Option (Int × Int × (List Int) × (Option Int)) :=
  (sig_Check.f a0 a1 a2).bind fun t1 =>
  if ¬ (t1 = none) then
    some ((0 : Int), (0 : Int), (List.replicate 32 (0 : Int)), (some (22 : Int)))
  else
    (sig_signal.f a3).bind fun t3 =>
    if ¬ (t3 = true) then
      some ((0 : Int), (0 : Int), (List.replicate 32 (0 : Int)), (some (22 : Int)))
    else
      (sig_against.f a3).bind fun t5 =>
      (sigset_Has.f a1 a3).bind fun t6 =>
      if t6 = true then
        (sigset_Add.f (bits .andNot .u32 a0 t5) a3).bind fun t8 =>
        some (t8, a1, a2, none)
      else
        (sig_What.f (bits .andNot .u32 a0 t5) a1 a2 a3).bind fun t9 =>
        if ¬ t9 = (0 : Int) then
          (sigset_Add.f (bits .andNot .u32 a0 t5) a3).bind fun t11 =>
          some (t11, a1, a2, none)
        else
          some ((bits .andNot .u32 a0 t5), a1, a2, none)
def sig_Post.R (r : Int × Int × (List Int) × (Option Int)) : Tm := .tup [.agg [.c (.sc (.int .u32 r.1)), .c (.sc (.int .u32 r.2.1)), .row 32 (.int .u32) r.2.2.1], .one (.err r.2.2.2)]
theorem sig_Post.fun_ {a0 : Int} {a1 : Int} {a2 : (List Int)} {a3 : Int} {r : Int × Int × (List Int) × (Option Int)} (h : sig_Post.f a0 a1 a2 a3 = some r) : Fun cfg 31 [.agg [.c (.sc (.int .u32 a0)), .c (.sc (.int .u32 a1)), .row 32 (.int .u32) a2], .one (.sc (.int .i64 a3))] [] (sig_Post.R r) [] := by
  unfold sig_Post.f at h
  refine fun_of_run cfg_ok (f := 31) (fn := Tryz.f31) Tryz.func31 rfl (by kernel_rfl) (rs := [.cell 4 43, .tmp 5]) rfl (nt := 38) rfl (l := fin) (k := (.call true [] ((Option Int)) sig_Check.R (fun t1 => (.br (oT 4 (aE 2 (.adj [.drop 0] .nil))) (.one false (.call true [] (Bool) sig_signal.R (fun t3 => (oF 2 (.br (aE 2 (.adj [.drop 0] .nil)) (.ex (Int) (fun t5 => (.dr [(0, dN), (2, dN), (3, ⟨none, .callP true [] (sig_against.R t5), false⟩), (1, dN), (4, dN), (5, dN), (6, dN)] (.call true [] (Bool) sigset_Has.R (fun t6 => (.br (oT 5 (.call true [] (Int) sigset_Add.R (fun t8 => (aE 2 (.adj [.drop 0] .nil))))) (oF 2 (.call true [] (Int) sig_What.R (fun t9 => (oF 2 (.br (.call true [] (Int) sigset_Add.R (fun t11 => (aE 2 (.adj [.drop 0] .nil)))) (aE 3 (.adj [.drop 0] .nil)))))))))))))))))))))) (to_goal (q := (U) ∧ (∃ t1 : (Option Int), (Fun cfg 38 [.agg [.c (.sc (.int .u32 a0)), .c (.sc (.int .u32 a1)), .row 32 (.int .u32) a2]] [] (sig_Check.R t1) [] ∧ U) ∧ (U) ∧ (((!(Option.isNone t1)) = false → ((!(Option.isNone t1)) = false ∧ (∃ t3 : Bool, (Fun cfg 46 [.one (.sc (.int .i64 a3))] [] (sig_signal.R t3) [] ∧ U) ∧ ((!(Option.isNone t1)) = false ∧ ((!(Option.isNone t1)) = false ∧ (((!t3) = true → (U ∧ (U) ∧ (U ∧ (((U) ∧ U) ∧ ((U) ∧ U) ∧ (.tup [.agg [.c (.sc (.int .u32 (0 : Int))), .c (.sc (.int .u32 (0 : Int))), .row 32 (.int .u32) (List.replicate 32 (0 : Int))], .one (.err (some (22 : Int)))] : Tm) = sig_Post.R r ∧ ([] : List Box) = [])))) ∧ ((!t3) = false → (∃ t5 : Int, (Fun cfg 47 [.one (.sc (.int .i64 a3))] [] (sig_against.R t5) [] ∧ U) ∧ (U) ∧ (U) ∧ (U) ∧ (U) ∧ (∃ t6 : Bool, (Fun cfg 44 [.one (.sc (.int .u32 a1)), .one (.sc (.int .i64 a3))] [] (sigset_Has.R t6) [] ∧ U) ∧ ((t6 = false → (U) ∧ (t6 = false ∧ (t6 = false ∧ (∃ t9 : Int, (Fun cfg 48 [.agg [.c (.sc (.int .u32 (bits .andNot .u32 a0 t5))), .c (.sc (.int .u32 a1)), .row 32 (.int .u32) a2], .one (.sc (.int .i64 a3))] [] (sig_What.R t9) [] ∧ U) ∧ (t6 = false ∧ (U) ∧ (t6 = false ∧ (((t9 != (0 : Int)) = true → (U) ∧ (∃ t11 : Int, (Fun cfg 49 [.one (.sc (.int .u32 (bits .andNot .u32 a0 t5))), .one (.sc (.int .i64 a3))] [] (sigset_Add.R t11) [] ∧ U) ∧ (U) ∧ (U ∧ (U) ∧ (U) ∧ (U ∧ (((U) ∧ U) ∧ ((U) ∧ U) ∧ (.tup [.agg [.c (.sc (.int .u32 t11)), .c (.sc (.int .u32 a1)), .row 32 (.int .u32) a2], .one (.err none)] : Tm) = sig_Post.R r ∧ ([] : List Box) = []))))) ∧ ((t9 != (0 : Int)) = false → (U ∧ (U ∧ (U) ∧ (U) ∧ (U ∧ (((U) ∧ U) ∧ ((U) ∧ U) ∧ (.tup [.agg [.c (.sc (.int .u32 (bits .andNot .u32 a0 t5))), .c (.sc (.int .u32 a1)), .row 32 (.int .u32) a2], .one (.err none)] : Tm) = sig_Post.R r ∧ ([] : List Box) = [])))))))))))) ∧ (t6 = true → (t6 = true ∧ (t6 = true ∧ (t6 = true ∧ (t6 = true ∧ (true = true ∧ (U) ∧ (∃ t8 : Int, (Fun cfg 49 [.one (.sc (.int .u32 (bits .andNot .u32 a0 t5))), .one (.sc (.int .i64 a3))] [] (sigset_Add.R t8) [] ∧ U) ∧ (U) ∧ (U ∧ (U) ∧ (U) ∧ (U ∧ (((U) ∧ U) ∧ ((U) ∧ U) ∧ (.tup [.agg [.c (.sc (.int .u32 t8)), .c (.sc (.int .u32 a1)), .row 32 (.int .u32) a2], .one (.err none)] : Tm) = sig_Post.R r ∧ ([] : List Box) = [])))))))))))))))))))) ∧ ((!(Option.isNone t1)) = true → ((!(Option.isNone t1)) = true ∧ ((!(Option.isNone t1)) = true ∧ ((!(Option.isNone t1)) = true ∧ (true = true ∧ (U ∧ (U) ∧ (U ∧ (((U) ∧ U) ∧ ((U) ∧ U) ∧ (.tup [.agg [.c (.sc (.int .u32 (0 : Int))), .c (.sc (.int .u32 (0 : Int))), .row 32 (.int .u32) (List.replicate 32 (0 : Int))], .one (.err (some (22 : Int)))] : Tm) = sig_Post.R r ∧ ([] : List Box) = []))))))))))) (by kernel_rfl) ?_)
  refine tI ?_
  obtain ⟨t1, ht1, h⟩ := of_bind h
  refine ⟨t1, ⟨sig_Check.fun_ ht1, T⟩, ?_⟩
  refine tI ?_
  refine ⟨fun b2 => ?_, fun b2 => ?_⟩
  · rw [if_neg (not_not_intro (none_t (not_f b2)))] at h
    refine ⟨b2, ?_⟩
    obtain ⟨t3, ht3, h⟩ := of_bind h
    refine ⟨t3, ⟨sig_signal.fun_ ht3, T⟩, ?_⟩
    refine ⟨b2, ?_⟩
    refine ⟨b2, ?_⟩
    refine ⟨fun b4 => ?_, fun b4 => ?_⟩
    · rw [if_pos (ff (not_t b4))] at h
      refine ⟨T, T, T, ?_⟩
      obtain rfl := oi h
      exact ⟨⟨T, T⟩, ⟨T, T⟩, rfl, rfl⟩
    · rw [if_neg (not_not_intro (not_f b4))] at h
      obtain ⟨t5, ht5, h⟩ := of_bind h
      refine ⟨t5, ?_⟩
      refine ⟨⟨sig_against.fun_ ht5, T⟩, T, T, T, ?_⟩
      refine tI ?_
      obtain ⟨t6, ht6, h⟩ := of_bind h
      refine ⟨t6, ⟨sigset_Has.fun_ ht6, T⟩, ?_⟩
      refine ⟨fun b7 => ?_, fun b7 => ?_⟩
      · rw [if_neg (ff b7)] at h
        refine tI ?_
        refine ⟨b7, ?_⟩
        refine ⟨b7, ?_⟩
        obtain ⟨t9, ht9, h⟩ := of_bind h
        refine ⟨t9, ⟨sig_What.fun_ ht9, T⟩, ?_⟩
        refine ⟨b7, ?_⟩
        refine tI ?_
        refine ⟨b7, ?_⟩
        refine ⟨fun b10 => ?_, fun b10 => ?_⟩
        · rw [if_pos (bne_t b10)] at h
          refine tI ?_
          obtain ⟨t11, ht11, h⟩ := of_bind h
          refine ⟨t11, ⟨sigset_Add.fun_ ht11, T⟩, ?_⟩
          refine ⟨T, T, T, T, T, ?_⟩
          obtain rfl := oi h
          exact ⟨⟨T, T⟩, ⟨T, T⟩, rfl, rfl⟩
        · rw [if_neg (not_not_intro (bne_f b10))] at h
          refine ⟨T, T, T, T, T, ?_⟩
          obtain rfl := oi h
          exact ⟨⟨T, T⟩, ⟨T, T⟩, rfl, rfl⟩
      · rw [if_pos b7] at h
        refine ⟨b7, ?_⟩
        refine ⟨b7, ?_⟩
        refine ⟨b7, ?_⟩
        refine ⟨b7, ?_⟩
        refine ⟨rfl, T, ?_⟩
        obtain ⟨t8, ht8, h⟩ := of_bind h
        refine ⟨t8, ⟨sigset_Add.fun_ ht8, T⟩, ?_⟩
        refine ⟨T, T, T, T, T, ?_⟩
        obtain rfl := oi h
        exact ⟨⟨T, T⟩, ⟨T, T⟩, rfl, rfl⟩
  · rw [if_pos (none_f (not_t b2))] at h
    refine ⟨b2, ?_⟩
    refine ⟨b2, ?_⟩
    refine ⟨b2, ?_⟩
    refine ⟨rfl, T, T, T, ?_⟩
    obtain rfl := oi h
    exact ⟨⟨T, T⟩, ⟨T, T⟩, rfl, rfl⟩
/-! halter/proc.Post -/
def proc_Post.c0 : AV := .agg [.c (.sc (.int .i64 (0 : Int))), .c (.sc (.int .i64 (0 : Int))), .c (.sc (.string ByteArray.empty)), .row 16 (.int .u32) (List.replicate 16 (0 : Int)), .c (.sc (.int .u32 (0 : Int))), .c (.sc (.int .u32 (0 : Int))), .row 4 (.int .u64) (List.replicate 4 (0 : Int)), .row 8 (.int .i64) (List.replicate 8 (0 : Int)), .c (.sc (.int .u32 (0 : Int))), .c (.sc (.int .u32 (0 : Int))), .row 32 (.int .u32) (List.replicate 32 (0 : Int)), .c (.sc (.int .i64 (0 : Int))), .c (.sc (.bool false)), .c (.sc (.int .u32 (0 : Int))), .c (.sc (.int .i64 (0 : Int))), .c (.sc (.int .i64 (0 : Int))), .c (.sc (.bool false)), .c (.sc (.bool false)), .c (.sc (.bool false)), .c (.sc (.int .i64 (0 : Int))), .c (.sc (.int .i64 (0 : Int)))]
def proc_Post.c1 (a0 : Int) (a1 : Int) (a2 : ByteArray) (a3 : (List Int)) (a4 : Int) (a5 : Int) (a6 : (List Int)) (a7 : (List Int)) (t3 : Int × Int × (List Int) × (Option Int)) (a11 : Int) (a12 : Bool) (a13 : Int) (a14 : Int) (a15 : Int) (a16 : Bool) (a19 : Int) (a20 : Int) : AV := .agg [.c (.sc (.int .i64 a0)), .c (.sc (.int .i64 a1)), .c (.sc (.string a2)), .row 16 (.int .u32) a3, .c (.sc (.int .u32 a4)), .c (.sc (.int .u32 a5)), .row 4 (.int .u64) a6, .row 8 (.int .i64) a7, .c (.sc (.int .u32 t3.1)), .c (.sc (.int .u32 t3.2.1)), .row 32 (.int .u32) (p2 t3), .c (.sc (.int .i64 a11)), .c (.sc (.bool a12)), .c (.sc (.int .u32 a13)), .c (.sc (.int .i64 a14)), .c (.sc (.int .i64 a15)), .c (.sc (.bool a16)), .c (.sc (.bool false)), .c (.sc (.bool false)), .c (.sc (.int .i64 a19)), .c (.sc (.int .i64 a20))]
def proc_Post.f (a0 : Int) (a1 : Int) (a2 : ByteArray) (a3 : (List Int)) (a4 : Int) (a5 : Int) (a6 : (List Int)) (a7 : (List Int)) (a8 : Int) (a9 : Int) (a10 : (List Int)) (a11 : Int) (a12 : Bool) (a13 : Int) (a14 : Int) (a15 : Int) (a16 : Bool) (a17 : Bool) (a18 : Bool) (a19 : Int) (a20 : Int) (a21 : Int) : Option (TY1) :=
  (proc_Check.f a0 a1 a2 a3 a4 a5 a6 a7 a8 a9 a10 a11 a12 a13 a14 a15 a16 a17 a18 a19 a20).bind fun t1 =>
  if ¬ (t1 = none) then
    some ((0 : Int), (0 : Int), ByteArray.empty, (List.replicate 16 (0 : Int)), (0 : Int), (0 : Int), (List.replicate 4 (0 : Int)), (List.replicate 8 (0 : Int)), (0 : Int), (0 : Int), (List.replicate 32 (0 : Int)), (0 : Int), false, (0 : Int), (0 : Int), (0 : Int), false, false, false, (0 : Int), (0 : Int), (some (22 : Int)))
  else
    (sig_Post.f a8 a9 a10 a21).bind fun t3 =>
    if ¬ (t3.2.2.2 = none) then
      some ((0 : Int), (0 : Int), ByteArray.empty, (List.replicate 16 (0 : Int)), (0 : Int), (0 : Int), (List.replicate 4 (0 : Int)), (List.replicate 8 (0 : Int)), (0 : Int), (0 : Int), (List.replicate 32 (0 : Int)), (0 : Int), false, (0 : Int), (0 : Int), (0 : Int), false, false, false, (0 : Int), (0 : Int), t3.2.2.2)
    else
      if a21 = (18 : Int) then
        some (a0, a1, a2, a3, a4, a5, a6, a7, t3.1, t3.2.1, t3.2.2.1, a11, a12, a13, a14, a15, a16, false, false, a19, a20, none)
      else
        if a21 = (9 : Int) then
          some (a0, a1, a2, a3, a4, a5, a6, a7, t3.1, t3.2.1, t3.2.2.1, a11, a12, a13, a14, a15, a16, false, false, a19, a20, none)
        else
          some (a0, a1, a2, a3, a4, a5, a6, a7, t3.1, t3.2.1, t3.2.2.1, a11, a12, a13, a14, a15, a16, a17, a18, a19, a20, none)
def proc_Post.R (r : TY1) : Tm := .tup [.agg [.c (.sc (.int .i64 r.1)), .c (.sc (.int .i64 r.2.1)), .c (.sc (.string r.2.2.1)), .row 16 (.int .u32) r.2.2.2.1, .c (.sc (.int .u32 r.2.2.2.2.1)), .c (.sc (.int .u32 r.2.2.2.2.2.1)), .row 4 (.int .u64) r.2.2.2.2.2.2.1, .row 8 (.int .i64) r.2.2.2.2.2.2.2.1, .c (.sc (.int .u32 r.2.2.2.2.2.2.2.2.1)), .c (.sc (.int .u32 r.2.2.2.2.2.2.2.2.2.1)), .row 32 (.int .u32) r.2.2.2.2.2.2.2.2.2.2.1, .c (.sc (.int .i64 r.2.2.2.2.2.2.2.2.2.2.2.1)), .c (.sc (.bool r.2.2.2.2.2.2.2.2.2.2.2.2.1)), .c (.sc (.int .u32 r.2.2.2.2.2.2.2.2.2.2.2.2.2.1)), .c (.sc (.int .i64 r.2.2.2.2.2.2.2.2.2.2.2.2.2.2.1)), .c (.sc (.int .i64 r.2.2.2.2.2.2.2.2.2.2.2.2.2.2.2.1)), .c (.sc (.bool r.2.2.2.2.2.2.2.2.2.2.2.2.2.2.2.2.1)), .c (.sc (.bool r.2.2.2.2.2.2.2.2.2.2.2.2.2.2.2.2.2.1)), .c (.sc (.bool r.2.2.2.2.2.2.2.2.2.2.2.2.2.2.2.2.2.2.1)), .c (.sc (.int .i64 r.2.2.2.2.2.2.2.2.2.2.2.2.2.2.2.2.2.2.2.1)), .c (.sc (.int .i64 r.2.2.2.2.2.2.2.2.2.2.2.2.2.2.2.2.2.2.2.2.1))], .one (.err r.2.2.2.2.2.2.2.2.2.2.2.2.2.2.2.2.2.2.2.2.2)]
end Go.Proofs.YtbnlochgbhcfnaaGreatDoorGProcSteps
