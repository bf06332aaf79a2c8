/- Printed by gen.py: what functions of the program compute, in plain Lean, and that they do. -/
import Derived.Test.YtbnlochgbhcfnaaDoorE15
import Derived.Test.YtbnlochgbhcfnaaDoorN
set_option linter.unusedVariables false
set_option maxRecDepth 100000
set_option maxHeartbeats 4000000
namespace Go.Proofs.YtbnlochgbhcfnaaDoorGProcLetters
open Go Go.Proofs.YtbnlochgbhcfnaaDoorE
def tiL : List (Nat × TI) := [
  (3, ⟨1, 8, false, .int .i64, [.c (.sc (.int .i64 (0 : Int)))], some (.int .i64)⟩),
  (4, ⟨1, 1, false, .bool, [.c (.sc (.bool false))], some .bool⟩),
  (5, ⟨1, 1, false, .int .u8, [.c (.sc (.int .u8 (0 : Int)))], some (.int .u8)⟩),
  (9, ⟨1, 16, false, .str, [.c (.sc (.string ByteArray.empty))], some .str⟩),
  (22, ⟨1, 4, false, .int .u32, [.c (.sc (.int .u32 (0 : Int)))], some (.int .u32)⟩),
  (23, ⟨16, 64, true, (.array 16 22), [.row 16 (.int .u32) (List.replicate 16 (0 : Int))], some (.arr 16 (.int .u32))⟩),
  (24, ⟨1, 8, false, .int .u64, [.c (.sc (.int .u64 (0 : Int)))], some (.int .u64)⟩),
  (25, ⟨4, 32, true, (.array 4 24), [.row 4 (.int .u64) (List.replicate 4 (0 : Int))], some (.arr 4 (.int .u64))⟩),
  (27, ⟨22, 104, true, (.struct [(0, 23), (16, 22), (17, 22), (18, 25)]), [.row 16 (.int .u32) (List.replicate 16 (0 : Int)), .c (.sc (.int .u32 (0 : Int))), .c (.sc (.int .u32 (0 : Int))), .row 4 (.int .u64) (List.replicate 4 (0 : Int))], some (.pair (.arr 16 (.int .u32)) (.pair (.int .u32) (.pair (.int .u32) (.arr 4 (.int .u64)))))⟩),
  (28, ⟨8, 64, true, (.array 8 3), [.row 8 (.int .i64) (List.replicate 8 (0 : Int))], some (.arr 8 (.int .i64))⟩),
  (29, ⟨32, 128, true, (.array 32 22), [.row 32 (.int .u32) (List.replicate 32 (0 : Int))], some (.arr 32 (.int .u32))⟩),
  (31, ⟨34, 136, true, (.struct [(0, 22), (1, 22), (2, 29)]), [.c (.sc (.int .u32 (0 : Int))), .c (.sc (.int .u32 (0 : Int))), .row 32 (.int .u32) (List.replicate 32 (0 : Int))], some (.pair (.int .u32) (.pair (.int .u32) (.arr 32 (.int .u32))))⟩),
  (33, ⟨6, 40, true, (.struct [(0, 3), (1, 4), (2, 22), (3, 3), (4, 3), (5, 4)]), [.c (.sc (.int .i64 (0 : Int))), .c (.sc (.bool false)), .c (.sc (.int .u32 (0 : Int))), .c (.sc (.int .i64 (0 : Int))), .c (.sc (.int .i64 (0 : Int))), .c (.sc (.bool false))], some (.pair (.int .i64) (.pair .bool (.pair (.int .u32) (.pair (.int .i64) (.pair (.int .i64) .bool)))))⟩),
  (35, ⟨77, 400, true, (.struct [(0, 3), (1, 3), (2, 9), (3, 27), (25, 28), (33, 31), (67, 33), (73, 4), (74, 4), (75, 3), (76, 3)]), [.c (.sc (.int .i64 (0 : Int))), .c (.sc (.int .i64 (0 : Int))), .c (.sc (.string ByteArray.empty)), .row 16 (.int .u32) (List.replicate 16 (0 : Int)), .c (.sc (.int .u32 (0 : Int))), .c (.sc (.int .u32 (0 : Int))), .row 4 (.int .u64) (List.replicate 4 (0 : Int)), .row 8 (.int .i64) (List.replicate 8 (0 : Int)), .c (.sc (.int .u32 (0 : Int))), .c (.sc (.int .u32 (0 : Int))), .row 32 (.int .u32) (List.replicate 32 (0 : Int)), .c (.sc (.int .i64 (0 : Int))), .c (.sc (.bool false)), .c (.sc (.int .u32 (0 : Int))), .c (.sc (.int .i64 (0 : Int))), .c (.sc (.int .i64 (0 : Int))), .c (.sc (.bool false)), .c (.sc (.bool false)), .c (.sc (.bool false)), .c (.sc (.int .i64 (0 : Int))), .c (.sc (.int .i64 (0 : Int)))], some (.pair (.int .i64) (.pair (.int .i64) (.pair .str (.pair (.pair (.arr 16 (.int .u32)) (.pair (.int .u32) (.pair (.int .u32) (.arr 4 (.int .u64))))) (.pair (.arr 8 (.int .i64)) (.pair (.pair (.int .u32) (.pair (.int .u32) (.arr 32 (.int .u32)))) (.pair (.pair (.int .i64) (.pair .bool (.pair (.int .u32) (.pair (.int .i64) (.pair (.int .i64) .bool))))) (.pair .bool (.pair .bool (.pair (.int .i64) (.int .i64)))))))))))⟩),
  (36, ⟨22, 104, true, (.struct [(0, 23), (16, 22), (17, 22), (18, 25)]), [.row 16 (.int .u32) (List.replicate 16 (0 : Int)), .c (.sc (.int .u32 (0 : Int))), .c (.sc (.int .u32 (0 : Int))), .row 4 (.int .u64) (List.replicate 4 (0 : Int))], some (.pair (.arr 16 (.int .u32)) (.pair (.int .u32) (.pair (.int .u32) (.arr 4 (.int .u64)))))⟩),
  (38, ⟨8, 64, true, (.struct [(0, 28)]), [.row 8 (.int .i64) (List.replicate 8 (0 : Int))], some (.arr 8 (.int .i64))⟩),
  (39, ⟨1, 4, false, .int .u32, [.c (.sc (.int .u32 (0 : Int)))], some (.int .u32)⟩),
  (41, ⟨34, 136, true, (.struct [(0, 39), (1, 39), (2, 29)]), [.c (.sc (.int .u32 (0 : Int))), .c (.sc (.int .u32 (0 : Int))), .row 32 (.int .u32) (List.replicate 32 (0 : Int))], some (.pair (.int .u32) (.pair (.int .u32) (.arr 32 (.int .u32))))⟩),
  (42, ⟨6, 40, true, (.struct [(0, 3), (1, 4), (2, 22), (3, 3), (4, 3), (5, 4)]), [.c (.sc (.int .i64 (0 : Int))), .c (.sc (.bool false)), .c (.sc (.int .u32 (0 : Int))), .c (.sc (.int .i64 (0 : Int))), .c (.sc (.int .i64 (0 : Int))), .c (.sc (.bool false))], some (.pair (.int .i64) (.pair .bool (.pair (.int .u32) (.pair (.int .i64) (.pair (.int .i64) .bool)))))⟩),
  (44, ⟨77, 400, true, (.struct [(0, 3), (1, 3), (2, 9), (3, 36), (25, 38), (33, 41), (67, 42), (73, 4), (74, 4), (75, 3), (76, 3)]), [.c (.sc (.int .i64 (0 : Int))), .c (.sc (.int .i64 (0 : Int))), .c (.sc (.string ByteArray.empty)), .row 16 (.int .u32) (List.replicate 16 (0 : Int)), .c (.sc (.int .u32 (0 : Int))), .c (.sc (.int .u32 (0 : Int))), .row 4 (.int .u64) (List.replicate 4 (0 : Int)), .row 8 (.int .i64) (List.replicate 8 (0 : Int)), .c (.sc (.int .u32 (0 : Int))), .c (.sc (.int .u32 (0 : Int))), .row 32 (.int .u32) (List.replicate 32 (0 : Int)), .c (.sc (.int .i64 (0 : Int))), .c (.sc (.bool false)), .c (.sc (.int .u32 (0 : Int))), .c (.sc (.int .i64 (0 : Int))), .c (.sc (.int .i64 (0 : Int))), .c (.sc (.bool false)), .c (.sc (.bool false)), .c (.sc (.bool false)), .c (.sc (.int .i64 (0 : Int))), .c (.sc (.int .i64 (0 : Int)))], some (.pair (.int .i64) (.pair (.int .i64) (.pair .str (.pair (.pair (.arr 16 (.int .u32)) (.pair (.int .u32) (.pair (.int .u32) (.arr 4 (.int .u64))))) (.pair (.arr 8 (.int .i64)) (.pair (.pair (.int .u32) (.pair (.int .u32) (.arr 32 (.int .u32)))) (.pair (.pair (.int .i64) (.pair .bool (.pair (.int .u32) (.pair (.int .i64) (.pair (.int .i64) .bool))))) (.pair .bool (.pair .bool (.pair (.int .i64) (.int .i64)))))))))))⟩),
  (50, ⟨1, 16, false, .iface, [.c (.err none)], none⟩),
  (53, ⟨1, 8, false, .int .u64, [.c (.sc (.int .u64 (0 : Int)))], some (.int .u64)⟩),
  (67, ⟨1, 8, false, .int .i64, [.c (.sc (.int .i64 (0 : Int)))], some (.int .i64)⟩),
  (74, ⟨2, 16, true, (.array 2 3), [.row 2 (.int .i64) (List.replicate 2 (0 : Int))], some (.arr 2 (.int .i64))⟩),
  (88, ⟨256, 256, true, (.array 256 4), [.row 256 .bool (List.replicate 256 false)], some (.arr 256 .bool)⟩),
  (108, ⟨32, 32, true, (.array 32 5), [.row 32 (.int .u8) (List.replicate 32 (0 : Int))], some (.arr 32 (.int .u8))⟩)]
def tab1 : List Int := [0, 1, 28, 2, 29, 14, 24, 3, 30, 22, 20, 15, 25, 17, 4, 8, 31, 27, 13, 23, 21, 19, 16, 7, 26, 12, 18, 6, 11, 5, 10, 9]
def tabs : List (Nat × IntKind × List Int) := [(1, .u8, tab1)]
noncomputable def cfg : Cfg := ⟨Tryd.prog, 67, [(⟨0, 0, none⟩, .iface 118 (.agg #[.pointer (some ⟨5, 50, none⟩)]))] ++ tabs.flatMap tabG, tiL, [44, 42, 41, 38, 36], tabs⟩
theorem cfg_ok : COk cfg := by
  refine ⟨fun p hp => ?_, by kernel_rfl, fun p hp => ?_, fun t ht => ?_, fun x hx y hy => List.mem_append_right _ (List.mem_flatMap.2 ⟨x, hx, hy⟩)⟩
  · simp only [cfg, tiL, List.mem_cons, List.not_mem_nil, or_false] at hp
    rcases hp with rfl | rfl | rfl | rfl | rfl | rfl | rfl | rfl | rfl | rfl | rfl | rfl | rfl | rfl | rfl | rfl | rfl | rfl | rfl | rfl | rfl | rfl | rfl | rfl | rfl | rfl <;> exact ⟨by kernel_rfl, by kernel_rfl, by kernel_rfl, by kernel_rfl, by kernel_rfl, by kernel_rfl⟩
  · simp only [cfg, tiL, List.mem_cons, List.not_mem_nil, or_false] at hp
    rcases hp with rfl | rfl | rfl | rfl | rfl | rfl | rfl | rfl | rfl | rfl | rfl | rfl | rfl | rfl | rfl | rfl | rfl | rfl | rfl | rfl | rfl | rfl | rfl | rfl | rfl | rfl <;> intro fs hfs bl hbl
    · cases hfs
    · cases hfs
    · cases hfs
    · cases hfs
    · cases hfs
    · cases hfs
    · cases hfs
    · cases hfs
    · cases hfs
      have e : fieldsZ cfg.L 0 [(0, 23), (16, 22), (17, 22), (18, 25)] = some [[.row 16 (.int .u32) (List.replicate 16 (0 : Int))], [.c (.sc (.int .u32 (0 : Int)))], [.c (.sc (.int .u32 (0 : Int)))], [.row 4 (.int .u64) (List.replicate 4 (0 : Int))]] := by kernel_rfl
      rw [e] at hbl
      cases hbl
      exact (by kernel_rfl : encPs (List.flatten [[.row 16 (.int .u32) (List.replicate 16 (0 : Int))], [.c (.sc (.int .u32 (0 : Int)))], [.c (.sc (.int .u32 (0 : Int)))], [.row 4 (.int .u64) (List.replicate 4 (0 : Int))]]) = encPs [.row 16 (.int .u32) (List.replicate 16 (0 : Int)), .c (.sc (.int .u32 (0 : Int))), .c (.sc (.int .u32 (0 : Int))), .row 4 (.int .u64) (List.replicate 4 (0 : Int))])
    · cases hfs
    · cases hfs
    · cases hfs
      have e : fieldsZ cfg.L 0 [(0, 22), (1, 22), (2, 29)] = some [[.c (.sc (.int .u32 (0 : Int)))], [.c (.sc (.int .u32 (0 : Int)))], [.row 32 (.int .u32) (List.replicate 32 (0 : Int))]] := by kernel_rfl
      rw [e] at hbl
      cases hbl
      exact (by kernel_rfl : encPs (List.flatten [[.c (.sc (.int .u32 (0 : Int)))], [.c (.sc (.int .u32 (0 : Int)))], [.row 32 (.int .u32) (List.replicate 32 (0 : Int))]]) = encPs [.c (.sc (.int .u32 (0 : Int))), .c (.sc (.int .u32 (0 : Int))), .row 32 (.int .u32) (List.replicate 32 (0 : Int))])
    · cases hfs
      have e : fieldsZ cfg.L 0 [(0, 3), (1, 4), (2, 22), (3, 3), (4, 3), (5, 4)] = some [[.c (.sc (.int .i64 (0 : Int)))], [.c (.sc (.bool false))], [.c (.sc (.int .u32 (0 : Int)))], [.c (.sc (.int .i64 (0 : Int)))], [.c (.sc (.int .i64 (0 : Int)))], [.c (.sc (.bool false))]] := by kernel_rfl
      rw [e] at hbl
      cases hbl
      exact (by kernel_rfl : encPs (List.flatten [[.c (.sc (.int .i64 (0 : Int)))], [.c (.sc (.bool false))], [.c (.sc (.int .u32 (0 : Int)))], [.c (.sc (.int .i64 (0 : Int)))], [.c (.sc (.int .i64 (0 : Int)))], [.c (.sc (.bool false))]]) = encPs [.c (.sc (.int .i64 (0 : Int))), .c (.sc (.bool false)), .c (.sc (.int .u32 (0 : Int))), .c (.sc (.int .i64 (0 : Int))), .c (.sc (.int .i64 (0 : Int))), .c (.sc (.bool false))])
    · cases hfs
      have e : fieldsZ cfg.L 0 [(0, 3), (1, 3), (2, 9), (3, 27), (25, 28), (33, 31), (67, 33), (73, 4), (74, 4), (75, 3), (76, 3)] = some [[.c (.sc (.int .i64 (0 : Int)))], [.c (.sc (.int .i64 (0 : Int)))], [.c (.sc (.string ByteArray.empty))], [.row 16 (.int .u32) (List.replicate 16 (0 : Int)), .c (.sc (.int .u32 (0 : Int))), .c (.sc (.int .u32 (0 : Int))), .row 4 (.int .u64) (List.replicate 4 (0 : Int))], [.row 8 (.int .i64) (List.replicate 8 (0 : Int))], [.c (.sc (.int .u32 (0 : Int))), .c (.sc (.int .u32 (0 : Int))), .row 32 (.int .u32) (List.replicate 32 (0 : Int))], [.c (.sc (.int .i64 (0 : Int))), .c (.sc (.bool false)), .c (.sc (.int .u32 (0 : Int))), .c (.sc (.int .i64 (0 : Int))), .c (.sc (.int .i64 (0 : Int))), .c (.sc (.bool false))], [.c (.sc (.bool false))], [.c (.sc (.bool false))], [.c (.sc (.int .i64 (0 : Int)))], [.c (.sc (.int .i64 (0 : Int)))]] := by kernel_rfl
      rw [e] at hbl
      cases hbl
      exact (by kernel_rfl : encPs (List.flatten [[.c (.sc (.int .i64 (0 : Int)))], [.c (.sc (.int .i64 (0 : Int)))], [.c (.sc (.string ByteArray.empty))], [.row 16 (.int .u32) (List.replicate 16 (0 : Int)), .c (.sc (.int .u32 (0 : Int))), .c (.sc (.int .u32 (0 : Int))), .row 4 (.int .u64) (List.replicate 4 (0 : Int))], [.row 8 (.int .i64) (List.replicate 8 (0 : Int))], [.c (.sc (.int .u32 (0 : Int))), .c (.sc (.int .u32 (0 : Int))), .row 32 (.int .u32) (List.replicate 32 (0 : Int))], [.c (.sc (.int .i64 (0 : Int))), .c (.sc (.bool false)), .c (.sc (.int .u32 (0 : Int))), .c (.sc (.int .i64 (0 : Int))), .c (.sc (.int .i64 (0 : Int))), .c (.sc (.bool false))], [.c (.sc (.bool false))], [.c (.sc (.bool false))], [.c (.sc (.int .i64 (0 : Int)))], [.c (.sc (.int .i64 (0 : Int)))]]) = encPs [.c (.sc (.int .i64 (0 : Int))), .c (.sc (.int .i64 (0 : Int))), .c (.sc (.string ByteArray.empty)), .row 16 (.int .u32) (List.replicate 16 (0 : Int)), .c (.sc (.int .u32 (0 : Int))), .c (.sc (.int .u32 (0 : Int))), .row 4 (.int .u64) (List.replicate 4 (0 : Int)), .row 8 (.int .i64) (List.replicate 8 (0 : Int)), .c (.sc (.int .u32 (0 : Int))), .c (.sc (.int .u32 (0 : Int))), .row 32 (.int .u32) (List.replicate 32 (0 : Int)), .c (.sc (.int .i64 (0 : Int))), .c (.sc (.bool false)), .c (.sc (.int .u32 (0 : Int))), .c (.sc (.int .i64 (0 : Int))), .c (.sc (.int .i64 (0 : Int))), .c (.sc (.bool false)), .c (.sc (.bool false)), .c (.sc (.bool false)), .c (.sc (.int .i64 (0 : Int))), .c (.sc (.int .i64 (0 : Int)))])
    · cases hfs
      have e : fieldsZ cfg.L 0 [(0, 23), (16, 22), (17, 22), (18, 25)] = some [[.row 16 (.int .u32) (List.replicate 16 (0 : Int))], [.c (.sc (.int .u32 (0 : Int)))], [.c (.sc (.int .u32 (0 : Int)))], [.row 4 (.int .u64) (List.replicate 4 (0 : Int))]] := by kernel_rfl
      rw [e] at hbl
      cases hbl
      exact (by kernel_rfl : encPs (List.flatten [[.row 16 (.int .u32) (List.replicate 16 (0 : Int))], [.c (.sc (.int .u32 (0 : Int)))], [.c (.sc (.int .u32 (0 : Int)))], [.row 4 (.int .u64) (List.replicate 4 (0 : Int))]]) = encPs [.row 16 (.int .u32) (List.replicate 16 (0 : Int)), .c (.sc (.int .u32 (0 : Int))), .c (.sc (.int .u32 (0 : Int))), .row 4 (.int .u64) (List.replicate 4 (0 : Int))])
    · cases hfs
      have e : fieldsZ cfg.L 0 [(0, 28)] = some [[.row 8 (.int .i64) (List.replicate 8 (0 : Int))]] := by kernel_rfl
      rw [e] at hbl
      cases hbl
      exact (by kernel_rfl : encPs (List.flatten [[.row 8 (.int .i64) (List.replicate 8 (0 : Int))]]) = encPs [.row 8 (.int .i64) (List.replicate 8 (0 : Int))])
    · cases hfs
    · cases hfs
      have e : fieldsZ cfg.L 0 [(0, 39), (1, 39), (2, 29)] = some [[.c (.sc (.int .u32 (0 : Int)))], [.c (.sc (.int .u32 (0 : Int)))], [.row 32 (.int .u32) (List.replicate 32 (0 : Int))]] := by kernel_rfl
      rw [e] at hbl
      cases hbl
      exact (by kernel_rfl : encPs (List.flatten [[.c (.sc (.int .u32 (0 : Int)))], [.c (.sc (.int .u32 (0 : Int)))], [.row 32 (.int .u32) (List.replicate 32 (0 : Int))]]) = encPs [.c (.sc (.int .u32 (0 : Int))), .c (.sc (.int .u32 (0 : Int))), .row 32 (.int .u32) (List.replicate 32 (0 : Int))])
    · cases hfs
      have e : fieldsZ cfg.L 0 [(0, 3), (1, 4), (2, 22), (3, 3), (4, 3), (5, 4)] = some [[.c (.sc (.int .i64 (0 : Int)))], [.c (.sc (.bool false))], [.c (.sc (.int .u32 (0 : Int)))], [.c (.sc (.int .i64 (0 : Int)))], [.c (.sc (.int .i64 (0 : Int)))], [.c (.sc (.bool false))]] := by kernel_rfl
      rw [e] at hbl
      cases hbl
      exact (by kernel_rfl : encPs (List.flatten [[.c (.sc (.int .i64 (0 : Int)))], [.c (.sc (.bool false))], [.c (.sc (.int .u32 (0 : Int)))], [.c (.sc (.int .i64 (0 : Int)))], [.c (.sc (.int .i64 (0 : Int)))], [.c (.sc (.bool false))]]) = encPs [.c (.sc (.int .i64 (0 : Int))), .c (.sc (.bool false)), .c (.sc (.int .u32 (0 : Int))), .c (.sc (.int .i64 (0 : Int))), .c (.sc (.int .i64 (0 : Int))), .c (.sc (.bool false))])
    · cases hfs
      have e : fieldsZ cfg.L 0 [(0, 3), (1, 3), (2, 9), (3, 36), (25, 38), (33, 41), (67, 42), (73, 4), (74, 4), (75, 3), (76, 3)] = some [[.c (.sc (.int .i64 (0 : Int)))], [.c (.sc (.int .i64 (0 : Int)))], [.c (.sc (.string ByteArray.empty))], [.row 16 (.int .u32) (List.replicate 16 (0 : Int)), .c (.sc (.int .u32 (0 : Int))), .c (.sc (.int .u32 (0 : Int))), .row 4 (.int .u64) (List.replicate 4 (0 : Int))], [.row 8 (.int .i64) (List.replicate 8 (0 : Int))], [.c (.sc (.int .u32 (0 : Int))), .c (.sc (.int .u32 (0 : Int))), .row 32 (.int .u32) (List.replicate 32 (0 : Int))], [.c (.sc (.int .i64 (0 : Int))), .c (.sc (.bool false)), .c (.sc (.int .u32 (0 : Int))), .c (.sc (.int .i64 (0 : Int))), .c (.sc (.int .i64 (0 : Int))), .c (.sc (.bool false))], [.c (.sc (.bool false))], [.c (.sc (.bool false))], [.c (.sc (.int .i64 (0 : Int)))], [.c (.sc (.int .i64 (0 : Int)))]] := by kernel_rfl
      rw [e] at hbl
      cases hbl
      exact (by kernel_rfl : encPs (List.flatten [[.c (.sc (.int .i64 (0 : Int)))], [.c (.sc (.int .i64 (0 : Int)))], [.c (.sc (.string ByteArray.empty))], [.row 16 (.int .u32) (List.replicate 16 (0 : Int)), .c (.sc (.int .u32 (0 : Int))), .c (.sc (.int .u32 (0 : Int))), .row 4 (.int .u64) (List.replicate 4 (0 : Int))], [.row 8 (.int .i64) (List.replicate 8 (0 : Int))], [.c (.sc (.int .u32 (0 : Int))), .c (.sc (.int .u32 (0 : Int))), .row 32 (.int .u32) (List.replicate 32 (0 : Int))], [.c (.sc (.int .i64 (0 : Int))), .c (.sc (.bool false)), .c (.sc (.int .u32 (0 : Int))), .c (.sc (.int .i64 (0 : Int))), .c (.sc (.int .i64 (0 : Int))), .c (.sc (.bool false))], [.c (.sc (.bool false))], [.c (.sc (.bool false))], [.c (.sc (.int .i64 (0 : Int)))], [.c (.sc (.int .i64 (0 : Int)))]]) = encPs [.c (.sc (.int .i64 (0 : Int))), .c (.sc (.int .i64 (0 : Int))), .c (.sc (.string ByteArray.empty)), .row 16 (.int .u32) (List.replicate 16 (0 : Int)), .c (.sc (.int .u32 (0 : Int))), .c (.sc (.int .u32 (0 : Int))), .row 4 (.int .u64) (List.replicate 4 (0 : Int)), .row 8 (.int .i64) (List.replicate 8 (0 : Int)), .c (.sc (.int .u32 (0 : Int))), .c (.sc (.int .u32 (0 : Int))), .row 32 (.int .u32) (List.replicate 32 (0 : Int)), .c (.sc (.int .i64 (0 : Int))), .c (.sc (.bool false)), .c (.sc (.int .u32 (0 : Int))), .c (.sc (.int .i64 (0 : Int))), .c (.sc (.int .i64 (0 : Int))), .c (.sc (.bool false)), .c (.sc (.bool false)), .c (.sc (.bool false)), .c (.sc (.int .i64 (0 : Int))), .c (.sc (.int .i64 (0 : Int)))])
    · cases hfs
    · cases hfs
    · cases hfs
    · cases hfs
    · cases hfs
    · cases hfs
  · simp only [cfg, List.mem_cons, List.not_mem_nil, or_false] at ht
    rcases ht with rfl | rfl | rfl | rfl | rfl <;> kernel_rfl
def fin : Scr → List Adj
  | .adj l _ => l
  | _ => []
/-! the error's number -/
def num.f (a0 : Option Int) : Option Int := some (a0.getD 0)
def num.R (r : Int) : Tm := .v (.one (.sc (.int .i64 r)))
theorem num.fun_ {a0 : Option Int} {r : Int} (h : num.f a0 = some r) : Fun cfg 24 [.one (.err a0)] [] (num.R r) [] := by
  refine Fun.of_below (f := 24) (fn := Tryd.f24) Tryd.func24 rfl (by kernel_rfl) (r := .int .i64 r) (fun X => ⟨⟨rfl, rfl⟩, rfl⟩) fun X vs hE hvs hG => ?_
  obtain ⟨v, us, rfl, hv, rfl⟩ := hvs
  have hv : v = errV X.E a0 := hv.1
  have he : errV cfg.E a0 = YtbnlochgbhcfnaaDoorN.errW a0 := by cases a0 <;> rfl
  rw [hv, hE, he]
  exact YtbnlochgbhcfnaaDoorN.num.calls a0 r X.w (hG _ (List.mem_append_left _ (List.mem_cons_self ..))) h
/-! halter/halterlaw33.giveSig -/
def halterlaw33_giveSig.f (a0 : Int) (a1 : Int) (a2 : (List Int)) : Option (Int × Int × (List Int)) :=
  some (a0, a1, a2)
def halterlaw33_giveSig.R (r : Int × Int × (List Int)) : Tm := .v (.agg [.c (.sc (.int .u32 r.1)), .c (.sc (.int .u32 r.2.1)), .row 32 (.int .u32) r.2.2])
theorem halterlaw33_giveSig.fun_ {a0 : Int} {a1 : Int} {a2 : (List Int)} {r : Int × Int × (List Int)} (h : halterlaw33_giveSig.f a0 a1 a2 = some r) : Fun cfg 15 [.agg [.c (.sc (.int .u32 a0)), .c (.sc (.int .u32 a1)), .row 32 (.int .u32) a2]] [] (halterlaw33_giveSig.R r) [] := by
  unfold halterlaw33_giveSig.f at h
  refine fun_of_run cfg_ok (f := 15) (fn := Tryd.f15) Tryd.func15 rfl (by kernel_rfl) (rs := [.cell 2 41]) rfl (nt := 10) rfl (l := fin) (k := (.adj [] (.adj [] (.adj [] (.adj [.drop 0] .nil))))) (to_goal (q := (True ∧ (True ∧ (True) ∧ (True) ∧ (True) ∧ (True) ∧ (True ∧ (((True) ∧ True) ∧ ((True) ∧ True) ∧ (.v (.agg [.c (.sc (.int .u32 a0)), .c (.sc (.int .u32 a1)), .row 32 (.int .u32) a2]) : Tm) = halterlaw33_giveSig.R r ∧ ([] : List Box) = []))))) (by kernel_rfl) ?_)
  refine ⟨trivial, ?_⟩
  refine ⟨trivial, ?_⟩
  refine ⟨trivial, ?_⟩
  refine ⟨trivial, ?_⟩
  refine ⟨trivial, ?_⟩
  refine ⟨trivial, ?_⟩
  refine ⟨trivial, ?_⟩
  obtain rfl := Option.some.inj h
  exact ⟨⟨trivial, trivial⟩, ⟨trivial, trivial⟩, rfl, rfl⟩
/-! halter/halterlaw33.giveProc -/
def halterlaw33_giveProc.f (a0 : Int) (a1 : Int) (a2 : ByteArray) (a3 : (List Int)) (a4 : Int) (a5 : Int) (a6 : (List Int)) (a7 : (List Int)) (a8 : Int) (a9 : Int) (a10 : (List Int)) (a11 : Int) (a12 : Bool) (a13 : Int) (a14 : Int) (a15 : Int) (a16 : Bool) (a17 : Bool) (a18 : Bool) (a19 : Int) (a20 : Int) : Option (Int × Int × ByteArray × (List Int) × Int × Int × (List Int) × (List Int) × Int × Int × (List Int) × Int × Bool × Int × Int × Int × Bool × Bool × Bool × Int × Int) :=
  (halterlaw33_giveSig.f a8 a9 a10).bind fun t1 =>
  some (a0, a1, a2, a3, a4, a5, a6, a7, t1.1, t1.2.1, t1.2.2, a11, a12, a13, a14, a15, a16, a17, a18, a19, a20)
def halterlaw33_giveProc.R (r : Int × Int × ByteArray × (List Int) × Int × Int × (List Int) × (List Int) × Int × Int × (List Int) × Int × Bool × Int × Int × Int × Bool × Bool × Bool × Int × Int) : Tm := .v (.agg [.c (.sc (.int .i64 r.1)), .c (.sc (.int .i64 r.2.1)), .c (.sc (.string r.2.2.1)), .row 16 (.int .u32) r.2.2.2.1, .c (.sc (.int .u32 r.2.2.2.2.1)), .c (.sc (.int .u32 r.2.2.2.2.2.1)), .row 4 (.int .u64) r.2.2.2.2.2.2.1, .row 8 (.int .i64) r.2.2.2.2.2.2.2.1, .c (.sc (.int .u32 r.2.2.2.2.2.2.2.2.1)), .c (.sc (.int .u32 r.2.2.2.2.2.2.2.2.2.1)), .row 32 (.int .u32) r.2.2.2.2.2.2.2.2.2.2.1, .c (.sc (.int .i64 r.2.2.2.2.2.2.2.2.2.2.2.1)), .c (.sc (.bool r.2.2.2.2.2.2.2.2.2.2.2.2.1)), .c (.sc (.int .u32 r.2.2.2.2.2.2.2.2.2.2.2.2.2.1)), .c (.sc (.int .i64 r.2.2.2.2.2.2.2.2.2.2.2.2.2.2.1)), .c (.sc (.int .i64 r.2.2.2.2.2.2.2.2.2.2.2.2.2.2.2.1)), .c (.sc (.bool r.2.2.2.2.2.2.2.2.2.2.2.2.2.2.2.2.1)), .c (.sc (.bool r.2.2.2.2.2.2.2.2.2.2.2.2.2.2.2.2.2.1)), .c (.sc (.bool r.2.2.2.2.2.2.2.2.2.2.2.2.2.2.2.2.2.2.1)), .c (.sc (.int .i64 r.2.2.2.2.2.2.2.2.2.2.2.2.2.2.2.2.2.2.2.1)), .c (.sc (.int .i64 r.2.2.2.2.2.2.2.2.2.2.2.2.2.2.2.2.2.2.2.2))])
theorem halterlaw33_giveProc.fun_ {a0 : Int} {a1 : Int} {a2 : ByteArray} {a3 : (List Int)} {a4 : Int} {a5 : Int} {a6 : (List Int)} {a7 : (List Int)} {a8 : Int} {a9 : Int} {a10 : (List Int)} {a11 : Int} {a12 : Bool} {a13 : Int} {a14 : Int} {a15 : Int} {a16 : Bool} {a17 : Bool} {a18 : Bool} {a19 : Int} {a20 : Int} {r : Int × Int × ByteArray × (List Int) × Int × Int × (List Int) × (List Int) × Int × Int × (List Int) × Int × Bool × Int × Int × Int × Bool × Bool × Bool × Int × Int} (h : halterlaw33_giveProc.f a0 a1 a2 a3 a4 a5 a6 a7 a8 a9 a10 a11 a12 a13 a14 a15 a16 a17 a18 a19 a20 = some r) : Fun cfg 5 [.agg [.c (.sc (.int .i64 a0)), .c (.sc (.int .i64 a1)), .c (.sc (.string a2)), .row 16 (.int .u32) a3, .c (.sc (.int .u32 a4)), .c (.sc (.int .u32 a5)), .row 4 (.int .u64) a6, .row 8 (.int .i64) a7, .c (.sc (.int .u32 a8)), .c (.sc (.int .u32 a9)), .row 32 (.int .u32) a10, .c (.sc (.int .i64 a11)), .c (.sc (.bool a12)), .c (.sc (.int .u32 a13)), .c (.sc (.int .i64 a14)), .c (.sc (.int .i64 a15)), .c (.sc (.bool a16)), .c (.sc (.bool a17)), .c (.sc (.bool a18)), .c (.sc (.int .i64 a19)), .c (.sc (.int .i64 a20))]] [] (halterlaw33_giveProc.R r) [] := by
  unfold halterlaw33_giveProc.f at h
  refine fun_of_run cfg_ok (f := 5) (fn := Tryd.f5) Tryd.func5 rfl (by kernel_rfl) (rs := [.cell 2 44]) rfl (nt := 28) rfl (l := fin) (k := (.ex (Int × Int × (List Int)) (fun t1 => (.dr [(0, ⟨none, .no, false⟩), (2, ⟨none, .no, false⟩), (4, ⟨none, .no, false⟩), (6, ⟨none, .no, false⟩), (8, ⟨none, .no, false⟩), (11, ⟨none, .no, false⟩), (14, ⟨none, .no, false⟩), (16, ⟨none, .no, false⟩), (18, ⟨none, .no, false⟩), (20, ⟨none, .no, false⟩), (22, ⟨none, .no, false⟩), (1, ⟨none, .no, false⟩), (3, ⟨none, .no, false⟩), (5, ⟨none, .no, false⟩), (7, ⟨none, .no, false⟩), (9, ⟨none, .no, false⟩), (10, ⟨none, .no, false⟩), (12, ⟨none, .no, false⟩), (13, ⟨none, .callP true [] (halterlaw33_giveSig.R t1), false⟩), (15, ⟨none, .no, false⟩), (17, ⟨none, .no, false⟩), (19, ⟨none, .no, false⟩), (21, ⟨none, .no, false⟩), (23, ⟨none, .no, false⟩), (24, ⟨none, .no, false⟩), (25, ⟨none, .no, false⟩)] (.adj [] (.adj [.drop 0] .nil)))))) (to_goal (q := (∃ t1 : Int × Int × (List Int), (True) ∧ (True) ∧ (True) ∧ (True) ∧ (True) ∧ (True) ∧ (Fun cfg 15 [.agg [.c (.sc (.int .u32 a8)), .c (.sc (.int .u32 a9)), .row 32 (.int .u32) a10]] [] (halterlaw33_giveSig.R t1) [] ∧ True) ∧ (True) ∧ (True) ∧ (True) ∧ (True) ∧ (True) ∧ (True) ∧ (True ∧ (((True) ∧ True) ∧ ((True) ∧ True) ∧ (.v (.agg [.c (.sc (.int .i64 a0)), .c (.sc (.int .i64 a1)), .c (.sc (.string a2)), .row 16 (.int .u32) a3, .c (.sc (.int .u32 a4)), .c (.sc (.int .u32 a5)), .row 4 (.int .u64) a6, .row 8 (.int .i64) a7, .c (.sc (.int .u32 t1.1)), .c (.sc (.int .u32 t1.2.1)), .row 32 (.int .u32) t1.2.2, .c (.sc (.int .i64 a11)), .c (.sc (.bool a12)), .c (.sc (.int .u32 a13)), .c (.sc (.int .i64 a14)), .c (.sc (.int .i64 a15)), .c (.sc (.bool a16)), .c (.sc (.bool a17)), .c (.sc (.bool a18)), .c (.sc (.int .i64 a19)), .c (.sc (.int .i64 a20))]) : Tm) = halterlaw33_giveProc.R r ∧ ([] : List Box) = [])))) (by kernel_rfl) ?_)
  obtain ⟨t1, ht1, h⟩ := of_bind h
  refine ⟨t1, ?_⟩
  refine ⟨trivial, trivial, trivial, trivial, trivial, trivial, ⟨halterlaw33_giveSig.fun_ ht1, trivial⟩, trivial, trivial, trivial, trivial, trivial, trivial, ?_⟩
  refine ⟨trivial, ?_⟩
  obtain rfl := Option.some.inj h
  exact ⟨⟨trivial, trivial⟩, ⟨trivial, trivial⟩, rfl, rfl⟩
/-! halter/proc.Letter -/
def proc_Letter.f (a0 : Int) (a1 : Int) (a2 : ByteArray) (a3 : (List Int)) (a4 : Int) (a5 : Int) (a6 : (List Int)) (a7 : (List Int)) (a8 : Int) (a9 : Int) (a10 : (List Int)) (a11 : Int) (a12 : Bool) (a13 : Int) (a14 : Int) (a15 : Int) (a16 : Bool) (a17 : Bool) (a18 : Bool) (a19 : Int) (a20 : Int) (a21 : Bool) : Option Int :=
  if a21 = true then
    some (90 : Int)
  else
    if a12 = true then
      some (116 : Int)
    else
      if a17 = true then
        some (84 : Int)
      else
        if ¬ a19 = (0 : Int) then
          some (83 : Int)
        else
          some (82 : Int)
def proc_Letter.R (r : Int) : Tm := .v (.one (.sc (.int .u8 r)))
theorem proc_Letter.fun_ {a0 : Int} {a1 : Int} {a2 : ByteArray} {a3 : (List Int)} {a4 : Int} {a5 : Int} {a6 : (List Int)} {a7 : (List Int)} {a8 : Int} {a9 : Int} {a10 : (List Int)} {a11 : Int} {a12 : Bool} {a13 : Int} {a14 : Int} {a15 : Int} {a16 : Bool} {a17 : Bool} {a18 : Bool} {a19 : Int} {a20 : Int} {a21 : Bool} {r : Int} (h : proc_Letter.f a0 a1 a2 a3 a4 a5 a6 a7 a8 a9 a10 a11 a12 a13 a14 a15 a16 a17 a18 a19 a20 a21 = some r) : Fun cfg 6 [.agg [.c (.sc (.int .i64 a0)), .c (.sc (.int .i64 a1)), .c (.sc (.string a2)), .row 16 (.int .u32) a3, .c (.sc (.int .u32 a4)), .c (.sc (.int .u32 a5)), .row 4 (.int .u64) a6, .row 8 (.int .i64) a7, .c (.sc (.int .u32 a8)), .c (.sc (.int .u32 a9)), .row 32 (.int .u32) a10, .c (.sc (.int .i64 a11)), .c (.sc (.bool a12)), .c (.sc (.int .u32 a13)), .c (.sc (.int .i64 a14)), .c (.sc (.int .i64 a15)), .c (.sc (.bool a16)), .c (.sc (.bool a17)), .c (.sc (.bool a18)), .c (.sc (.int .i64 a19)), .c (.sc (.int .i64 a20))], .one (.sc (.bool a21))] [] (proc_Letter.R r) [] := by
  unfold proc_Letter.f at h
  refine fun_of_run cfg_ok (f := 6) (fn := Tryd.f6) Tryd.func6 rfl (by kernel_rfl) (rs := [.tmp 4]) rfl (nt := 18) rfl (l := fin) (k := (.br (.adj [] (.adj [] (.adj [.drop 0] .nil))) (.br (.adj [] (.adj [] (.adj [.drop 0] .nil))) (.br (.adj [] (.adj [] (.adj [.drop 0] .nil))) (.br (.adj [] (.adj [] (.adj [.drop 0] .nil))) (.adj [] (.adj [] (.adj [] (.adj [.drop 0] .nil))))))))) (to_goal (q := ((a21 = true → (True ∧ (True ∧ ((True) ∧ ((True) ∧ True) ∧ (.v (.one (.sc (.int .u8 (90 : Int)))) : Tm) = proc_Letter.R r ∧ ([] : List Box) = [])))) ∧ (a21 = false → (True) ∧ ((a12 = true → (True ∧ (True ∧ ((True) ∧ ((True) ∧ True) ∧ (.v (.one (.sc (.int .u8 (116 : Int)))) : Tm) = proc_Letter.R r ∧ ([] : List Box) = [])))) ∧ (a12 = false → (True) ∧ ((a17 = true → (True ∧ (True ∧ ((True) ∧ ((True) ∧ True) ∧ (.v (.one (.sc (.int .u8 (84 : Int)))) : Tm) = proc_Letter.R r ∧ ([] : List Box) = [])))) ∧ (a17 = false → (True) ∧ (True) ∧ (((a19 != (0 : Int)) = true → (True ∧ (True ∧ ((True) ∧ ((True) ∧ True) ∧ (.v (.one (.sc (.int .u8 (83 : Int)))) : Tm) = proc_Letter.R r ∧ ([] : List Box) = [])))) ∧ ((a19 != (0 : Int)) = false → (True ∧ (True ∧ (True ∧ ((True) ∧ ((True) ∧ True) ∧ (.v (.one (.sc (.int .u8 (82 : Int)))) : Tm) = proc_Letter.R r ∧ ([] : List Box) = []))))))))))))) (by kernel_rfl) ?_)
  refine ⟨fun b1 => ?_, fun b1 => ?_⟩
  · rw [if_pos b1] at h
    refine ⟨trivial, ?_⟩
    refine ⟨trivial, ?_⟩
    obtain rfl := Option.some.inj h
    exact ⟨trivial, ⟨trivial, trivial⟩, rfl, rfl⟩
  · rw [if_neg (ff b1)] at h
    refine ⟨trivial, ?_⟩
    refine ⟨fun b2 => ?_, fun b2 => ?_⟩
    · rw [if_pos b2] at h
      refine ⟨trivial, ?_⟩
      refine ⟨trivial, ?_⟩
      obtain rfl := Option.some.inj h
      exact ⟨trivial, ⟨trivial, trivial⟩, rfl, rfl⟩
    · rw [if_neg (ff b2)] at h
      refine ⟨trivial, ?_⟩
      refine ⟨fun b3 => ?_, fun b3 => ?_⟩
      · rw [if_pos b3] at h
        refine ⟨trivial, ?_⟩
        refine ⟨trivial, ?_⟩
        obtain rfl := Option.some.inj h
        exact ⟨trivial, ⟨trivial, trivial⟩, rfl, rfl⟩
      · rw [if_neg (ff b3)] at h
        refine ⟨trivial, ?_⟩
        refine ⟨trivial, ?_⟩
        refine ⟨fun b4 => ?_, fun b4 => ?_⟩
        · rw [if_pos (bne_t b4)] at h
          refine ⟨trivial, ?_⟩
          refine ⟨trivial, ?_⟩
          obtain rfl := Option.some.inj h
          exact ⟨trivial, ⟨trivial, trivial⟩, rfl, rfl⟩
        · rw [if_neg (not_not_intro (bne_f b4))] at h
          refine ⟨trivial, ?_⟩
          refine ⟨trivial, ?_⟩
          refine ⟨trivial, ?_⟩
          obtain rfl := Option.some.inj h
          exact ⟨trivial, ⟨trivial, trivial⟩, rfl, rfl⟩
/-! halter/proc.Runs -/
def proc_Runs.f (a0 : Int) (a1 : Int) (a2 : ByteArray) (a3 : (List Int)) (a4 : Int) (a5 : Int) (a6 : (List Int)) (a7 : (List Int)) (a8 : Int) (a9 : Int) (a10 : (List Int)) (a11 : Int) (a12 : Bool) (a13 : Int) (a14 : Int) (a15 : Int) (a16 : Bool) (a17 : Bool) (a18 : Bool) (a19 : Int) (a20 : Int) : Option Bool :=
  if ¬ (a12 = true) then
    some (!a17)
  else
    some false
def proc_Runs.R (r : Bool) : Tm := .v (.one (.sc (.bool r)))
theorem proc_Runs.fun_ {a0 : Int} {a1 : Int} {a2 : ByteArray} {a3 : (List Int)} {a4 : Int} {a5 : Int} {a6 : (List Int)} {a7 : (List Int)} {a8 : Int} {a9 : Int} {a10 : (List Int)} {a11 : Int} {a12 : Bool} {a13 : Int} {a14 : Int} {a15 : Int} {a16 : Bool} {a17 : Bool} {a18 : Bool} {a19 : Int} {a20 : Int} {r : Bool} (h : proc_Runs.f a0 a1 a2 a3 a4 a5 a6 a7 a8 a9 a10 a11 a12 a13 a14 a15 a16 a17 a18 a19 a20 = some r) : Fun cfg 7 [.agg [.c (.sc (.int .i64 a0)), .c (.sc (.int .i64 a1)), .c (.sc (.string a2)), .row 16 (.int .u32) a3, .c (.sc (.int .u32 a4)), .c (.sc (.int .u32 a5)), .row 4 (.int .u64) a6, .row 8 (.int .i64) a7, .c (.sc (.int .u32 a8)), .c (.sc (.int .u32 a9)), .row 32 (.int .u32) a10, .c (.sc (.int .i64 a11)), .c (.sc (.bool a12)), .c (.sc (.int .u32 a13)), .c (.sc (.int .i64 a14)), .c (.sc (.int .i64 a15)), .c (.sc (.bool a16)), .c (.sc (.bool a17)), .c (.sc (.bool a18)), .c (.sc (.int .i64 a19)), .c (.sc (.int .i64 a20))]] [] (proc_Runs.R r) [] := by
  unfold proc_Runs.f at h
  refine fun_of_run cfg_ok (f := 7) (fn := Tryd.f7) Tryd.func7 rfl (by kernel_rfl) (rs := [.tmp 2]) rfl (nt := 12) rfl (l := fin) (k := (.br (.one true (.one true (.one true (.adj [] (.adj [.drop 0] .nil))))) (.one false (.one false (.one false (.adj [] (.adj [.drop 0] .nil))))))) (to_goal (q := (True) ∧ (((!a12) = true → ((!a12) = true ∧ (True) ∧ ((!a12) = true ∧ ((!a12) = true ∧ (True ∧ ((True) ∧ ((True) ∧ True) ∧ (.v (.one (.sc (.bool (!a17)))) : Tm) = proc_Runs.R r ∧ ([] : List Box) = [])))))) ∧ ((!a12) = false → ((!a12) = false ∧ ((!a12) = false ∧ ((!a12) = false ∧ (True ∧ ((True) ∧ ((True) ∧ True) ∧ (.v (.one (.sc (.bool false))) : Tm) = proc_Runs.R r ∧ ([] : List Box) = [])))))))) (by kernel_rfl) ?_)
  refine ⟨trivial, ?_⟩
  refine ⟨fun b1 => ?_, fun b1 => ?_⟩
  · rw [if_pos (ff (not_t b1))] at h
    refine ⟨b1, ?_⟩
    refine ⟨trivial, ?_⟩
    refine ⟨b1, ?_⟩
    refine ⟨b1, ?_⟩
    refine ⟨trivial, ?_⟩
    obtain rfl := Option.some.inj h
    exact ⟨trivial, ⟨trivial, trivial⟩, rfl, rfl⟩
  · rw [if_neg (not_not_intro (not_f b1))] at h
    refine ⟨b1, ?_⟩
    refine ⟨b1, ?_⟩
    refine ⟨b1, ?_⟩
    refine ⟨trivial, ?_⟩
    obtain rfl := Option.some.inj h
    exact ⟨trivial, ⟨trivial, trivial⟩, rfl, rfl⟩
/-! halter/proc.Answer -/
def proc_Answer.f (a0 : Int) (a1 : Int) (a2 : ByteArray) (a3 : (List Int)) (a4 : Int) (a5 : Int) (a6 : (List Int)) (a7 : (List Int)) (a8 : Int) (a9 : Int) (a10 : (List Int)) (a11 : Int) (a12 : Bool) (a13 : Int) (a14 : Int) (a15 : Int) (a16 : Bool) (a17 : Bool) (a18 : Bool) (a19 : Int) (a20 : Int) (a21 : Int) : Option (Int × Int × ByteArray × (List Int) × Int × Int × (List Int) × (List Int) × Int × Int × (List Int) × Int × Bool × Int × Int × Int × Bool × Bool × Bool × Int × Int) :=
  some (a0, a1, a2, (List.set a3 0 a21), a4, a5, a6, a7, a8, a9, a10, a11, a12, a13, a14, a15, a16, a17, a18, (0 : Int), a20)
def proc_Answer.R (r : Int × Int × ByteArray × (List Int) × Int × Int × (List Int) × (List Int) × Int × Int × (List Int) × Int × Bool × Int × Int × Int × Bool × Bool × Bool × Int × Int) : Tm := .v (.agg [.c (.sc (.int .i64 r.1)), .c (.sc (.int .i64 r.2.1)), .c (.sc (.string r.2.2.1)), .row 16 (.int .u32) r.2.2.2.1, .c (.sc (.int .u32 r.2.2.2.2.1)), .c (.sc (.int .u32 r.2.2.2.2.2.1)), .row 4 (.int .u64) r.2.2.2.2.2.2.1, .row 8 (.int .i64) r.2.2.2.2.2.2.2.1, .c (.sc (.int .u32 r.2.2.2.2.2.2.2.2.1)), .c (.sc (.int .u32 r.2.2.2.2.2.2.2.2.2.1)), .row 32 (.int .u32) r.2.2.2.2.2.2.2.2.2.2.1, .c (.sc (.int .i64 r.2.2.2.2.2.2.2.2.2.2.2.1)), .c (.sc (.bool r.2.2.2.2.2.2.2.2.2.2.2.2.1)), .c (.sc (.int .u32 r.2.2.2.2.2.2.2.2.2.2.2.2.2.1)), .c (.sc (.int .i64 r.2.2.2.2.2.2.2.2.2.2.2.2.2.2.1)), .c (.sc (.int .i64 r.2.2.2.2.2.2.2.2.2.2.2.2.2.2.2.1)), .c (.sc (.bool r.2.2.2.2.2.2.2.2.2.2.2.2.2.2.2.2.1)), .c (.sc (.bool r.2.2.2.2.2.2.2.2.2.2.2.2.2.2.2.2.2.1)), .c (.sc (.bool r.2.2.2.2.2.2.2.2.2.2.2.2.2.2.2.2.2.2.1)), .c (.sc (.int .i64 r.2.2.2.2.2.2.2.2.2.2.2.2.2.2.2.2.2.2.2.1)), .c (.sc (.int .i64 r.2.2.2.2.2.2.2.2.2.2.2.2.2.2.2.2.2.2.2.2))])
theorem proc_Answer.fun_ {a0 : Int} {a1 : Int} {a2 : ByteArray} {a3 : (List Int)} {a4 : Int} {a5 : Int} {a6 : (List Int)} {a7 : (List Int)} {a8 : Int} {a9 : Int} {a10 : (List Int)} {a11 : Int} {a12 : Bool} {a13 : Int} {a14 : Int} {a15 : Int} {a16 : Bool} {a17 : Bool} {a18 : Bool} {a19 : Int} {a20 : Int} {a21 : Int} {r : Int × Int × ByteArray × (List Int) × Int × Int × (List Int) × (List Int) × Int × Int × (List Int) × Int × Bool × Int × Int × Int × Bool × Bool × Bool × Int × Int} (h : proc_Answer.f a0 a1 a2 a3 a4 a5 a6 a7 a8 a9 a10 a11 a12 a13 a14 a15 a16 a17 a18 a19 a20 a21 = some r) : Fun cfg 8 [.agg [.c (.sc (.int .i64 a0)), .c (.sc (.int .i64 a1)), .c (.sc (.string a2)), .row 16 (.int .u32) a3, .c (.sc (.int .u32 a4)), .c (.sc (.int .u32 a5)), .row 4 (.int .u64) a6, .row 8 (.int .i64) a7, .c (.sc (.int .u32 a8)), .c (.sc (.int .u32 a9)), .row 32 (.int .u32) a10, .c (.sc (.int .i64 a11)), .c (.sc (.bool a12)), .c (.sc (.int .u32 a13)), .c (.sc (.int .i64 a14)), .c (.sc (.int .i64 a15)), .c (.sc (.bool a16)), .c (.sc (.bool a17)), .c (.sc (.bool a18)), .c (.sc (.int .i64 a19)), .c (.sc (.int .i64 a20))], .one (.sc (.int .u32 a21))] [] (proc_Answer.R r) [] := by
  unfold proc_Answer.f at h
  refine fun_of_run cfg_ok (f := 8) (fn := Tryd.f8) Tryd.func8 rfl (by kernel_rfl) (rs := [.cell 4 44]) rfl (nt := 11) rfl (l := fin) (k := (.adj [] (.adj [] (.adj [] (.adj [] (.adj [.drop 0] .nil)))))) (to_goal (q := (True ∧ (True ∧ (0 ≤ (0 : Int) ∧ (0 : Int) < ((16 : Nat) : Int)) ∧ (0 < 16) ∧ (True) ∧ (True ∧ (True) ∧ (True) ∧ (True ∧ (((True) ∧ True) ∧ ((True) ∧ True) ∧ (.v (.agg [.c (.sc (.int .i64 a0)), .c (.sc (.int .i64 a1)), .c (.sc (.string a2)), .row 16 (.int .u32) (List.set a3 0 a21), .c (.sc (.int .u32 a4)), .c (.sc (.int .u32 a5)), .row 4 (.int .u64) a6, .row 8 (.int .i64) a7, .c (.sc (.int .u32 a8)), .c (.sc (.int .u32 a9)), .row 32 (.int .u32) a10, .c (.sc (.int .i64 a11)), .c (.sc (.bool a12)), .c (.sc (.int .u32 a13)), .c (.sc (.int .i64 a14)), .c (.sc (.int .i64 a15)), .c (.sc (.bool a16)), .c (.sc (.bool a17)), .c (.sc (.bool a18)), .c (.sc (.int .i64 (0 : Int))), .c (.sc (.int .i64 a20))]) : Tm) = proc_Answer.R r ∧ ([] : List Box) = [])))))) (by kernel_rfl) ?_)
  refine ⟨trivial, ?_⟩
  refine ⟨trivial, ?_⟩
  refine ⟨(by decide), ?_⟩
  refine ⟨(by decide), ?_⟩
  refine ⟨trivial, ?_⟩
  refine ⟨trivial, ?_⟩
  refine ⟨trivial, ?_⟩
  refine ⟨trivial, ?_⟩
  refine ⟨trivial, ?_⟩
  obtain rfl := Option.some.inj h
  exact ⟨⟨trivial, trivial⟩, ⟨trivial, trivial⟩, rfl, rfl⟩
/-! halter/pids.Check -/
def pids_Check.f (a0 : Int) : Option (Option Int) :=
  if a0 < (1 : Int) then
    some (some (22 : Int))
  else
    if a0 > (99 : Int) then
      some (some (22 : Int))
    else
      some none
def pids_Check.R (r : (Option Int)) : Tm := .v (.one (.err r))
theorem pids_Check.fun_ {a0 : Int} {r : (Option Int)} (h : pids_Check.f a0 = some r) : Fun cfg 16 [.one (.sc (.int .i64 a0))] [] (pids_Check.R r) [] := by
  unfold pids_Check.f at h
  refine fun_of_run cfg_ok (f := 16) (fn := Tryd.f16) Tryd.func16 rfl (by kernel_rfl) (rs := [.tmp 2]) rfl (nt := 10) rfl (l := fin) (k := (.br (.one true (.one true (.one true (.adj [] (.adj [] (.adj [] .nil)))))) (.one false (.one false (.br (.adj [] (.adj [] (.adj [] .nil))) (.adj [] (.adj [] (.adj [] (.adj [] .nil))))))))) (to_goal (q := (True) ∧ (((decide (a0 < (1 : Int))) = false → ((decide (a0 < (1 : Int))) = false ∧ (True) ∧ ((decide (a0 < (1 : Int))) = false ∧ (((decide (a0 > (99 : Int))) = true → (True ∧ (True ∧ ((True) ∧ (True) ∧ (.v (.one (.err (some (22 : Int)))) : Tm) = pids_Check.R r ∧ ([] : List Box) = [])))) ∧ ((decide (a0 > (99 : Int))) = false → (True ∧ (True ∧ (True ∧ ((True) ∧ (True) ∧ (.v (.one (.err none)) : Tm) = pids_Check.R r ∧ ([] : List Box) = []))))))))) ∧ ((decide (a0 < (1 : Int))) = true → ((decide (a0 < (1 : Int))) = true ∧ ((decide (a0 < (1 : Int))) = true ∧ (true = true ∧ (True ∧ (True ∧ ((True) ∧ (True) ∧ (.v (.one (.err (some (22 : Int)))) : Tm) = pids_Check.R r ∧ ([] : List Box) = []))))))))) (by kernel_rfl) ?_)
  refine ⟨trivial, ?_⟩
  refine ⟨fun b1 => ?_, fun b1 => ?_⟩
  · rw [if_neg (of_decide_eq_false b1)] at h
    refine ⟨b1, ?_⟩
    refine ⟨trivial, ?_⟩
    refine ⟨b1, ?_⟩
    refine ⟨fun b2 => ?_, fun b2 => ?_⟩
    · rw [if_pos (of_decide_eq_true b2)] at h
      refine ⟨trivial, ?_⟩
      refine ⟨trivial, ?_⟩
      obtain rfl := Option.some.inj h
      exact ⟨trivial, trivial, rfl, rfl⟩
    · rw [if_neg (of_decide_eq_false b2)] at h
      refine ⟨trivial, ?_⟩
      refine ⟨trivial, ?_⟩
      refine ⟨trivial, ?_⟩
      obtain rfl := Option.some.inj h
      exact ⟨trivial, trivial, rfl, rfl⟩
  · rw [if_pos (of_decide_eq_true b1)] at h
    refine ⟨b1, ?_⟩
    refine ⟨b1, ?_⟩
    refine ⟨rfl, ?_⟩
    refine ⟨trivial, ?_⟩
    refine ⟨trivial, ?_⟩
    obtain rfl := Option.some.inj h
    exact ⟨trivial, trivial, rfl, rfl⟩
/-! halter/cred.Check -/
def cred_Check.f (a0 : Int) : Option (Option Int) :=
  if a0 < (0 : Int) then
    some (some (22 : Int))
  else
    if a0 > (65535 : Int) then
      some (some (22 : Int))
    else
      some none
def cred_Check.R (r : (Option Int)) : Tm := .v (.one (.err r))
theorem cred_Check.fun_ {a0 : Int} {r : (Option Int)} (h : cred_Check.f a0 = some r) : Fun cfg 17 [.one (.sc (.int .i64 a0))] [] (cred_Check.R r) [] := by
  unfold cred_Check.f at h
  refine fun_of_run cfg_ok (f := 17) (fn := Tryd.f17) Tryd.func17 rfl (by kernel_rfl) (rs := [.tmp 2]) rfl (nt := 10) rfl (l := fin) (k := (.br (.one true (.one true (.one true (.adj [] (.adj [] (.adj [] .nil)))))) (.one false (.one false (.br (.adj [] (.adj [] (.adj [] .nil))) (.adj [] (.adj [] (.adj [] (.adj [] .nil))))))))) (to_goal (q := (True) ∧ (((decide (a0 < (0 : Int))) = false → ((decide (a0 < (0 : Int))) = false ∧ (True) ∧ ((decide (a0 < (0 : Int))) = false ∧ (((decide (a0 > (65535 : Int))) = true → (True ∧ (True ∧ ((True) ∧ (True) ∧ (.v (.one (.err (some (22 : Int)))) : Tm) = cred_Check.R r ∧ ([] : List Box) = [])))) ∧ ((decide (a0 > (65535 : Int))) = false → (True ∧ (True ∧ (True ∧ ((True) ∧ (True) ∧ (.v (.one (.err none)) : Tm) = cred_Check.R r ∧ ([] : List Box) = []))))))))) ∧ ((decide (a0 < (0 : Int))) = true → ((decide (a0 < (0 : Int))) = true ∧ ((decide (a0 < (0 : Int))) = true ∧ (true = true ∧ (True ∧ (True ∧ ((True) ∧ (True) ∧ (.v (.one (.err (some (22 : Int)))) : Tm) = cred_Check.R r ∧ ([] : List Box) = []))))))))) (by kernel_rfl) ?_)
  refine ⟨trivial, ?_⟩
  refine ⟨fun b1 => ?_, fun b1 => ?_⟩
  · rw [if_neg (of_decide_eq_false b1)] at h
    refine ⟨b1, ?_⟩
    refine ⟨trivial, ?_⟩
    refine ⟨b1, ?_⟩
    refine ⟨fun b2 => ?_, fun b2 => ?_⟩
    · rw [if_pos (of_decide_eq_true b2)] at h
      refine ⟨trivial, ?_⟩
      refine ⟨trivial, ?_⟩
      obtain rfl := Option.some.inj h
      exact ⟨trivial, trivial, rfl, rfl⟩
    · rw [if_neg (of_decide_eq_false b2)] at h
      refine ⟨trivial, ?_⟩
      refine ⟨trivial, ?_⟩
      refine ⟨trivial, ?_⟩
      obtain rfl := Option.some.inj h
      exact ⟨trivial, trivial, rfl, rfl⟩
  · rw [if_pos (of_decide_eq_true b1)] at h
    refine ⟨b1, ?_⟩
    refine ⟨b1, ?_⟩
    refine ⟨rfl, ?_⟩
    refine ⟨trivial, ?_⟩
    refine ⟨trivial, ?_⟩
    obtain rfl := Option.some.inj h
    exact ⟨trivial, trivial, rfl, rfl⟩
/-! strings.makeASCIISet -/
def strings_makeASCIISet.l0 (a0 : ByteArray) : Nat → (List Bool) → Int → Option (((List Bool)) ⊕ ((List Bool)))
  | 0, _, _ => none
  | n + 1, x7, x8 =>
    if x8 < ((ByteArray.size a0 : Nat) : Int) then
      if 0 ≤ x8 ∧ x8 < (((ByteArray.size a0) : Nat) : Int) then
        if (bt a0 x8) ≥ (128 : Int) then
          some (.inr x7)
        else
          if 0 ≤ (bt a0 x8) ∧ (bt a0 x8) < ((256 : Nat) : Int) then
            if (Int.toNat (bt a0 x8)) < 256 then
              strings_makeASCIISet.l0 a0 n (List.set x7 (Int.toNat (bt a0 x8)) true) (IntKind.wrap .i64 (x8 + (1 : Int)))
            else none
          else none
      else none
    else
      some (.inl x7)
def strings_makeASCIISet.l0_S (a0 : ByteArray) (x7 : List Bool) (x8 : Int) : St := ⟨[.v (.one (.sc (.string a0))), .any, .v (.one (.ptr 0 ⟨0, 0, 0, 0⟩)), .any, .v (.one (.sc (.int .i64 x8))), .any, .any, .any, .any, .any, .any, .any, .any, .any, .any, .any, .any, .any, .any, .any, .any], [.ex false [.row 256 .bool x7] 88], 0⟩
def strings_makeASCIISet.l0_Q (a0 : ByteArray) : ((List Bool)) ⊕ ((List Bool)) → Exit → St → Prop
  | .inl t => fun e s => e = (.exit 0) ∧ s = ⟨[.any, .any, .v (.one (.ptr 0 ⟨0, 0, 0, 0⟩)), .any, .any, .any, .any, .any, .any, .any, .any, .any, .any, .any, .any, .any, .any, .any, .any, .any, .any], [.ex false [.row 256 .bool t] 88], 0⟩
  | .inr t => fun e s => e = .ret ∧ s = ⟨[.any, .any, .v (.one (.ptr 0 ⟨0, 0, 0, 0⟩)), .v (.one (.sc (.bool false))), .any, .any, .any, .any, .any, .any, .any, .any, .any, .any, .any, .any, .any, .any, .any, .any, .any], [.ex false [.row 256 .bool t] 88], 0⟩
theorem strings_makeASCIISet.l0_ok (a0 : ByteArray) : ∀ (n : Nat) (x7 : List Bool) (x8 : Int) (r : ((List Bool)) ⊕ ((List Bool))), strings_makeASCIISet.l0 a0 n x7 x8 = some r → TripN cfg (cpath (Tryd.f43.body.getD .skip) [1, 0, 1, 0, 0]) n (strings_makeASCIISet.l0_S a0 x7 x8) (strings_makeASCIISet.l0_Q a0 r) := by
  intro n
  induction n with
  | zero => intro x7 x8 r h; cases h
  | succ n ih =>
    intro x7 x8 r h
    rw [strings_makeASCIISet.l0] at h
    refine TripN.of_run cfg_ok (k := (.br (.br (.adj [] (.adj [.keep [2, 3], .drop 1] .nil)) (.adj [] (.adj [] (.adj [] (.adj [.keep [0, 2, 4], .drop 1] .nil))))) (.adj [.keep [2], .drop 1] .nil))) (to_goal (q := (True) ∧ (True) ∧ (((decide (x8 < ((ByteArray.size a0 : Nat) : Int))) = true → (0 ≤ x8 ∧ x8 < (((ByteArray.size a0) : Nat) : Int)) ∧ (True) ∧ (((decide ((bt a0 x8) ≥ (128 : Int))) = true → (True ∧ (True) ∧ (True) ∧ (((True) ∧ (True) ∧ True) ∧ strings_makeASCIISet.l0_Q a0 r .ret ⟨[.any, .any, .v (.one (.ptr 0 ⟨0, 0, 0, 0⟩)), .v (.one (.sc (.bool false))), .any, .any, .any, .any, .any, .any, .any, .any, .any, .any, .any, .any, .any, .any, .any, .any, .any], [.ex false [.row 256 .bool x7] 88], 0⟩))) ∧ ((decide ((bt a0 x8) ≥ (128 : Int))) = false → (True ∧ (True ∧ (0 ≤ (bt a0 x8) ∧ (bt a0 x8) < ((256 : Nat) : Int)) ∧ ((Int.toNat (bt a0 x8)) < 256) ∧ (True ∧ (True) ∧ (((True) ∧ (True) ∧ True) ∧ TripN cfg (cpath (Tryd.f43.body.getD .skip) [1, 0, 1, 0, 0]) n (strings_makeASCIISet.l0_S a0 (List.set x7 (Int.toNat (bt a0 x8)) true) (IntKind.wrap .i64 (x8 + (1 : Int)))) (strings_makeASCIISet.l0_Q a0 r)))))))) ∧ ((decide (x8 < ((ByteArray.size a0 : Nat) : Int))) = false → (((True) ∧ (True) ∧ True) ∧ strings_makeASCIISet.l0_Q a0 r (.exit 0) ⟨[.any, .any, .v (.one (.ptr 0 ⟨0, 0, 0, 0⟩)), .any, .any, .any, .any, .any, .any, .any, .any, .any, .any, .any, .any, .any, .any, .any, .any, .any, .any], [.ex false [.row 256 .bool x7] 88], 0⟩)))) (by kernel_rfl) ?_)
    refine ⟨trivial, ?_⟩
    refine ⟨trivial, ?_⟩
    refine ⟨fun b17 => ?_, fun b17 => ?_⟩
    · rw [if_pos (of_decide_eq_true b17)] at h
      obtain ⟨g21, h⟩ := of_guard h
      refine ⟨g21, ?_⟩
      refine ⟨trivial, ?_⟩
      refine ⟨fun b18 => ?_, fun b18 => ?_⟩
      · rw [if_pos (of_decide_eq_true b18)] at h
        refine ⟨trivial, ?_⟩
        refine ⟨trivial, ?_⟩
        refine ⟨trivial, ?_⟩
        obtain rfl := Option.some.inj h
        exact ⟨⟨trivial, trivial, trivial⟩, rfl, rfl⟩
      · rw [if_neg (of_decide_eq_false b18)] at h
        refine ⟨trivial, ?_⟩
        refine ⟨trivial, ?_⟩
        obtain ⟨g20, h⟩ := of_guard h
        refine ⟨g20, ?_⟩
        obtain ⟨g19, h⟩ := of_guard h
        refine ⟨g19, ?_⟩
        refine ⟨trivial, ?_⟩
        refine ⟨trivial, ?_⟩
        exact ⟨⟨trivial, trivial, trivial⟩, ih (List.set x7 (Int.toNat (bt a0 x8)) true) (IntKind.wrap .i64 (x8 + (1 : Int))) r h⟩
    · rw [if_neg (of_decide_eq_false b17)] at h
      obtain rfl := Option.some.inj h
      exact ⟨⟨trivial, trivial, trivial⟩, rfl, rfl⟩
def strings_makeASCIISet.f (a0 : ByteArray) : Option ((List Bool) × Bool) :=
  (strings_makeASCIISet.l0 a0 FUEL (List.replicate 256 false) (0 : Int)).bind fun t16 =>
  match t16 with
  | .inl t24 =>
    some (t24, true)
  | .inr t26 =>
    some (t26, false)
def strings_makeASCIISet.R (r : (List Bool) × Bool) : Tm := .tup [.agg [.row 256 .bool r.1], .one (.sc (.bool r.2))]
theorem strings_makeASCIISet.fun_ {a0 : ByteArray} {r : (List Bool) × Bool} (h : strings_makeASCIISet.f a0 = some r) : Fun cfg 43 [.one (.sc (.string a0))] [] (strings_makeASCIISet.R r) [] := by
  unfold strings_makeASCIISet.f at h
  refine fun_of_run cfg_ok (f := 43) (fn := Tryd.f43) Tryd.func43 rfl (by kernel_rfl) (rs := [.cell 2 88, .tmp 3]) rfl (nt := 21) rfl (l := fin) (k := (.adj [] (.adj [] (.adj [] (.adj [.keep [0, 2, 4]] (.alt (.sub ((List Bool)) (fun _ => (.exit 0)) (fun t24 => ⟨[.any, .any, .v (.one (.ptr 0 ⟨0, 0, 0, 0⟩)), .any, .any, .any, .any, .any, .any, .any, .any, .any, .any, .any, .any, .any, .any, .any, .any, .any, .any], [.ex false [.row 256 .bool t24] 88], 0⟩) (fun t24 => (.adj [] (.adj [] (.adj [.drop 0] .nil))))) (.sub ((List Bool)) (fun _ => .ret) (fun t26 => ⟨[.any, .any, .v (.one (.ptr 0 ⟨0, 0, 0, 0⟩)), .v (.one (.sc (.bool false))), .any, .any, .any, .any, .any, .any, .any, .any, .any, .any, .any, .any, .any, .any, .any, .any, .any], [.ex false [.row 256 .bool t26] 88], 0⟩) (fun t26 => (.adj [.drop 0] .nil))))))))) (to_goal (q := (True ∧ (True ∧ (True ∧ (((True) ∧ True) ∧ ((∃ t24 : (List Bool), Trip cfg (.loop (cpath (Tryd.f43.body.getD .skip) [1, 0, 1, 0, 0])) ⟨[.v (.one (.sc (.string a0))), .any, .v (.one (.ptr 0 ⟨0, 0, 0, 0⟩)), .any, .v (.one (.sc (.int .i64 (0 : Int)))), .any, .any, .any, .any, .any, .any, .any, .any, .any, .any, .any, .any, .any, .any, .any, .any], [.ex false [.row 256 .bool (List.replicate 256 false)] 88], 0⟩ (fun e s => e = (.exit 0) ∧ s = ⟨[.any, .any, .v (.one (.ptr 0 ⟨0, 0, 0, 0⟩)), .any, .any, .any, .any, .any, .any, .any, .any, .any, .any, .any, .any, .any, .any, .any, .any, .any, .any], [.ex false [.row 256 .bool t24] 88], 0⟩) ∧ (True ∧ (True) ∧ (True) ∧ (True ∧ (((True) ∧ True) ∧ ((True) ∧ True) ∧ (.tup [.agg [.row 256 .bool t24], .one (.sc (.bool true))] : Tm) = strings_makeASCIISet.R r ∧ ([] : List Box) = [])))) ∨ (∃ t26 : (List Bool), Trip cfg (.loop (cpath (Tryd.f43.body.getD .skip) [1, 0, 1, 0, 0])) ⟨[.v (.one (.sc (.string a0))), .any, .v (.one (.ptr 0 ⟨0, 0, 0, 0⟩)), .any, .v (.one (.sc (.int .i64 (0 : Int)))), .any, .any, .any, .any, .any, .any, .any, .any, .any, .any, .any, .any, .any, .any, .any, .any], [.ex false [.row 256 .bool (List.replicate 256 false)] 88], 0⟩ (fun e s => e = .ret ∧ s = ⟨[.any, .any, .v (.one (.ptr 0 ⟨0, 0, 0, 0⟩)), .v (.one (.sc (.bool false))), .any, .any, .any, .any, .any, .any, .any, .any, .any, .any, .any, .any, .any, .any, .any, .any, .any], [.ex false [.row 256 .bool t26] 88], 0⟩) ∧ (((True) ∧ True) ∧ ((True) ∧ True) ∧ (.tup [.agg [.row 256 .bool t26], .one (.sc (.bool false))] : Tm) = strings_makeASCIISet.R r ∧ ([] : List Box) = [])))))))) (by kernel_rfl) ?_)
  refine ⟨trivial, ?_⟩
  refine ⟨trivial, ?_⟩
  refine ⟨trivial, ?_⟩
  obtain ⟨t16, ht16, h⟩ := of_bind h
  refine ⟨⟨trivial, trivial⟩, ?_⟩
  rcases t16 with t24 | t26
  · dsimp only at h
    left
    refine ⟨t24, Trip.loop FUEL (strings_makeASCIISet.l0_ok a0 FUEL (List.replicate 256 false) (0 : Int) (.inl t24) ht16), ?_⟩
    refine ⟨trivial, ?_⟩
    refine ⟨trivial, ?_⟩
    refine ⟨trivial, ?_⟩
    refine ⟨trivial, ?_⟩
    obtain rfl := Option.some.inj h
    exact ⟨⟨trivial, trivial⟩, ⟨trivial, trivial⟩, rfl, rfl⟩
  · dsimp only at h
    right
    refine ⟨t26, Trip.loop FUEL (strings_makeASCIISet.l0_ok a0 FUEL (List.replicate 256 false) (0 : Int) (.inr t26) ht16), ?_⟩
    obtain rfl := Option.some.inj h
    exact ⟨⟨trivial, trivial⟩, ⟨trivial, trivial⟩, rfl, rfl⟩
/-! (*strings.asciiSet).contains -/
def strings_asciiSet_contains.f (a0 : Int) (a1 : (List Bool)) : Option Bool :=
  if 0 ≤ a0 ∧ a0 < ((256 : Nat) : Int) then
    if (Int.toNat a0) < 256 then
      some (List.getD a1 (Int.toNat a0) false)
    else none
  else none
def strings_asciiSet_contains.R (r : Bool) : Tm := .v (.one (.sc (.bool r)))
def strings_asciiSet_contains.B (a0 : Int) (a1 : (List Bool)) (r : Bool) : List Box := [.ex false [.row 256 .bool a1] 88]
theorem strings_asciiSet_contains.fun_ {a0 : Int} {a1 : (List Bool)} {r : Bool} (h : strings_asciiSet_contains.f a0 a1 = some r) : Fun cfg 52 [.one (.ptr 0 ⟨0, 0, 0, 0⟩), .one (.sc (.int .u8 a0))] [.ex false [.row 256 .bool a1] 88] (strings_asciiSet_contains.R r) (strings_asciiSet_contains.B a0 a1 r) := by
  unfold strings_asciiSet_contains.f at h
  refine fun_of_run cfg_ok (f := 52) (fn := Tryd.f52) Tryd.func52 rfl (by kernel_rfl) (rs := [.tmp 4]) rfl (nt := 10) rfl (l := fin) (k := (.adj [] (.adj [] (.adj [] (.adj [] .nil))))) (to_goal (q := (True ∧ (True ∧ (0 ≤ a0 ∧ a0 < ((256 : Nat) : Int)) ∧ ((Int.toNat a0) < 256) ∧ (True ∧ ((True) ∧ (True) ∧ (.v (.one (.sc (.bool (List.getD a1 (Int.toNat a0) false)))) : Tm) = strings_asciiSet_contains.R r ∧ ([.ex false [.row 256 .bool a1] 88] : List Box) = strings_asciiSet_contains.B a0 a1 r))))) (by kernel_rfl) ?_)
  refine ⟨trivial, ?_⟩
  refine ⟨trivial, ?_⟩
  obtain ⟨g2, h⟩ := of_guard h
  refine ⟨g2, ?_⟩
  obtain ⟨g1, h⟩ := of_guard h
  refine ⟨g1, ?_⟩
  refine ⟨trivial, ?_⟩
  obtain rfl := Option.some.inj h
  exact ⟨trivial, trivial, rfl, rfl⟩
/-! strings.trimLeftASCII -/
def strings_trimLeftASCII.l0 (a1 : (List Bool)) : Nat → ByteArray → Option ByteArray
  | 0, _ => none
  | n + 1, x1 =>
    if ((ByteArray.size x1 : Nat) : Int) > (0 : Int) then
      if 0 ≤ (0 : Int) ∧ (0 : Int) < (((ByteArray.size x1) : Nat) : Int) then
        (strings_asciiSet_contains.f (bt x1 (0 : Int)) a1).bind fun t10 =>
        if ¬ (t10 = true) then
          some x1
        else
          if (True) ∧ ((0 ≤ (1 : Int) ∧ (1 : Int) ≤ (((ByteArray.size x1) : Nat) : Int))) then
            strings_trimLeftASCII.l0 a1 n (ByteArray.extract x1 1 (ByteArray.size x1))
          else none
      else none
    else
      some x1
def strings_trimLeftASCII.l0_S (a1 : (List Bool)) (x1 : ByteArray) : St := ⟨[.v (.one (.sc (.string x1))), .v (.one (.ptr 0 ⟨0, 0, 0, 0⟩)), .any, .any, .any, .any, .any, .any, .any, .any, .any, .any, .any, .any, .any, .any], [.ex false [.row 256 .bool a1] 88], 1⟩
def strings_trimLeftASCII.l0_Q (a1 : (List Bool)) (t : ByteArray) : Exit → St → Prop := fun e s => e = (.exit 0) ∧ s = ⟨[.v (.one (.sc (.string t))), .any, .any, .any, .any, .any, .any, .any, .any, .any, .any, .any, .any, .any, .any, .any], [.ex false [.row 256 .bool a1] 88], 1⟩
theorem strings_trimLeftASCII.l0_ok (a1 : (List Bool)) : ∀ (n : Nat) (x1 : ByteArray) (r : ByteArray), strings_trimLeftASCII.l0 a1 n x1 = some r → TripN cfg (cpath (Tryd.f44.body.getD .skip) [1, 0, 0, 0]) n (strings_trimLeftASCII.l0_S a1 x1) (strings_trimLeftASCII.l0_Q a1 r) := by
  intro n
  induction n with
  | zero => intro x1 r h; cases h
  | succ n ih =>
    intro x1 r h
    rw [strings_trimLeftASCII.l0] at h
    refine TripN.of_run cfg_ok (k := (.br (.callR true [] [0] (Bool) (fun t10 => (strings_asciiSet_contains.R t10)) (fun t10 => (strings_asciiSet_contains.B (bt x1 (0 : Int)) a1 t10)) (fun t10 => (.br (.adj [.keep [0], .drop 1] .nil) (.adj [] (.adj [] (.adj [.keep [0, 1], .drop 1] .nil)))))) (.adj [.keep [0], .drop 1] .nil))) (to_goal (q := (True) ∧ (True) ∧ (((decide (((ByteArray.size x1 : Nat) : Int) > (0 : Int))) = true → (0 ≤ (0 : Int) ∧ (0 : Int) < (((ByteArray.size x1) : Nat) : Int)) ∧ (∃ t10 : Bool, (Fun cfg 52 [.one (.ptr 0 ⟨0, 0, 0, 0⟩), .one (.sc (.int .u8 (bt x1 (0 : Int))))] [.ex false [.row 256 .bool a1] 88] (strings_asciiSet_contains.R t10) (strings_asciiSet_contains.B (bt x1 (0 : Int)) a1 t10) ∧ True) ∧ (((!t10) = true → (((True) ∧ (True) ∧ True) ∧ strings_trimLeftASCII.l0_Q a1 r (.exit 0) ⟨[.v (.one (.sc (.string x1))), .any, .any, .any, .any, .any, .any, .any, .any, .any, .any, .any, .any, .any, .any, .any], [.ex false [.row 256 .bool a1] 88], 1⟩)) ∧ ((!t10) = false → (True ∧ (True ∧ ((True) ∧ ((0 ≤ (1 : Int) ∧ (1 : Int) ≤ (((ByteArray.size x1) : Nat) : Int)))) ∧ (((True) ∧ (True) ∧ True) ∧ TripN cfg (cpath (Tryd.f44.body.getD .skip) [1, 0, 0, 0]) n (strings_trimLeftASCII.l0_S a1 (ByteArray.extract x1 1 (ByteArray.size x1))) (strings_trimLeftASCII.l0_Q a1 r)))))))) ∧ ((decide (((ByteArray.size x1 : Nat) : Int) > (0 : Int))) = false → (((True) ∧ (True) ∧ True) ∧ strings_trimLeftASCII.l0_Q a1 r (.exit 0) ⟨[.v (.one (.sc (.string x1))), .any, .any, .any, .any, .any, .any, .any, .any, .any, .any, .any, .any, .any, .any, .any], [.ex false [.row 256 .bool a1] 88], 1⟩)))) (by kernel_rfl) ?_)
    refine ⟨trivial, ?_⟩
    refine ⟨trivial, ?_⟩
    refine ⟨fun b9 => ?_, fun b9 => ?_⟩
    · rw [if_pos (of_decide_eq_true b9)] at h
      obtain ⟨g13, h⟩ := of_guard h
      refine ⟨g13, ?_⟩
      obtain ⟨t10, ht10, h⟩ := of_bind h
      refine ⟨t10, ⟨strings_asciiSet_contains.fun_ ht10, trivial⟩, ?_⟩
      refine ⟨fun b11 => ?_, fun b11 => ?_⟩
      · rw [if_pos (ff (not_t b11))] at h
        obtain rfl := Option.some.inj h
        exact ⟨⟨trivial, trivial, trivial⟩, rfl, rfl⟩
      · rw [if_neg (not_not_intro (not_f b11))] at h
        refine ⟨trivial, ?_⟩
        refine ⟨trivial, ?_⟩
        obtain ⟨g12, h⟩ := of_guard h
        refine ⟨g12, ?_⟩
        exact ⟨⟨trivial, trivial, trivial⟩, ih (ByteArray.extract x1 1 (ByteArray.size x1)) r h⟩
    · rw [if_neg (of_decide_eq_false b9)] at h
      obtain rfl := Option.some.inj h
      exact ⟨⟨trivial, trivial, trivial⟩, rfl, rfl⟩
def strings_trimLeftASCII.f (a0 : ByteArray) (a1 : (List Bool)) : Option ByteArray :=
  (strings_trimLeftASCII.l0 a1 FUEL a0).bind fun t8 =>
  some t8
def strings_trimLeftASCII.R (r : ByteArray) : Tm := .v (.one (.sc (.string r)))
def strings_trimLeftASCII.B (a0 : ByteArray) (a1 : (List Bool)) (r : ByteArray) : List Box := [.ex false [.row 256 .bool a1] 88]
theorem strings_trimLeftASCII.fun_ {a0 : ByteArray} {a1 : (List Bool)} {r : ByteArray} (h : strings_trimLeftASCII.f a0 a1 = some r) : Fun cfg 44 [.one (.sc (.string a0)), .one (.ptr 0 ⟨0, 0, 0, 0⟩)] [.ex false [.row 256 .bool a1] 88] (strings_trimLeftASCII.R r) (strings_trimLeftASCII.B a0 a1 r) := by
  unfold strings_trimLeftASCII.f at h
  refine fun_of_run cfg_ok (f := 44) (fn := Tryd.f44) Tryd.func44 rfl (by kernel_rfl) (rs := [.tmp 4]) rfl (nt := 16) rfl (l := fin) (k := (.adj [] (.adj [] (.adj [.keep [0, 1]] (.sub (ByteArray) (fun _ => (.exit 0)) (fun t8 => ⟨[.v (.one (.sc (.string t8))), .any, .any, .any, .any, .any, .any, .any, .any, .any, .any, .any, .any, .any, .any, .any], [.ex false [.row 256 .bool a1] 88], 1⟩) (fun t8 => (.adj [] (.adj [] (.adj [] .nil))))))))) (to_goal (q := (True ∧ (True ∧ (((True) ∧ True) ∧ (∃ t8 : ByteArray, Trip cfg (.loop (cpath (Tryd.f44.body.getD .skip) [1, 0, 0, 0])) ⟨[.v (.one (.sc (.string a0))), .v (.one (.ptr 0 ⟨0, 0, 0, 0⟩)), .any, .any, .any, .any, .any, .any, .any, .any, .any, .any, .any, .any, .any, .any], [.ex false [.row 256 .bool a1] 88], 1⟩ (fun e s => e = (.exit 0) ∧ s = ⟨[.v (.one (.sc (.string t8))), .any, .any, .any, .any, .any, .any, .any, .any, .any, .any, .any, .any, .any, .any, .any], [.ex false [.row 256 .bool a1] 88], 1⟩) ∧ (True ∧ (True ∧ ((True) ∧ (True) ∧ (.v (.one (.sc (.string t8))) : Tm) = strings_trimLeftASCII.R r ∧ ([.ex false [.row 256 .bool a1] 88] : List Box) = strings_trimLeftASCII.B a0 a1 r)))))))) (by kernel_rfl) ?_)
  refine ⟨trivial, ?_⟩
  refine ⟨trivial, ?_⟩
  obtain ⟨t8, ht8, h⟩ := of_bind h
  refine ⟨⟨trivial, trivial⟩, t8, Trip.loop FUEL (strings_trimLeftASCII.l0_ok a1 FUEL a0 t8 ht8), ?_⟩
  refine ⟨trivial, ?_⟩
  refine ⟨trivial, ?_⟩
  obtain rfl := Option.some.inj h
  exact ⟨trivial, trivial, rfl, rfl⟩
/-! strings.TrimLeft -/
def strings_TrimLeft.f (a0 : ByteArray) (a1 : ByteArray) : Option ByteArray :=
  if a0 = ByteArray.empty then
    some a0
  else
    if a1 = ByteArray.empty then
      some a0
    else
      if ((ByteArray.size a1 : Nat) : Int) = (1 : Int) then
        if 0 ≤ (0 : Int) ∧ (0 : Int) < (((ByteArray.size a1) : Nat) : Int) then
          if (bt a1 (0 : Int)) < (128 : Int) then
            if 0 ≤ (0 : Int) ∧ (0 : Int) < (((ByteArray.size a1) : Nat) : Int) then
              none
            else none
          else
            (strings_makeASCIISet.f a1).bind fun t6 =>
            if t6.2 = true then
              (strings_trimLeftASCII.f a0 t6.1).bind fun t8 =>
              some t8
            else
              none
        else none
      else
        (strings_makeASCIISet.f a1).bind fun t10 =>
        if t10.2 = true then
          (strings_trimLeftASCII.f a0 t10.1).bind fun t12 =>
          some t12
        else
          none
def strings_TrimLeft.R (r : ByteArray) : Tm := .v (.one (.sc (.string r)))
theorem strings_TrimLeft.fun_ {a0 : ByteArray} {a1 : ByteArray} {r : ByteArray} (h : strings_TrimLeft.f a0 a1 = some r) : Fun cfg 31 [.one (.sc (.string a0)), .one (.sc (.string a1))] [] (strings_TrimLeft.R r) [] := by
  unfold strings_TrimLeft.f at h
  refine fun_of_run cfg_ok (f := 31) (fn := Tryd.f31) Tryd.func31 rfl (by kernel_rfl) (rs := [.tmp 4]) rfl (nt := 37) rfl (l := fin) (k := (.br (.one true (.one true (.one true (.adj [] (.adj [] (.adj [] .nil)))))) (.one false (.one false (.br (.adj [] (.adj [] (.adj [] .nil))) (.br (.one true (.one true (.one true (.br .nil (.call true [] ((List Bool) × Bool) (fun t6 => strings_makeASCIISet.R t6) (fun t6 => (.br (.callR true [] [0] (ByteArray) (fun t8 => (strings_trimLeftASCII.R t8)) (fun t8 => (strings_trimLeftASCII.B a0 t6.1 t8)) (fun t8 => (.adj [] (.adj [.drop 0] .nil)))) .nil))))))) (.one false (.one false (.one false (.one false (.call true [] ((List Bool) × Bool) (fun t10 => strings_makeASCIISet.R t10) (fun t10 => (.br (.callR true [] [0] (ByteArray) (fun t12 => (strings_trimLeftASCII.R t12)) (fun t12 => (strings_trimLeftASCII.B a0 t10.1 t12)) (fun t12 => (.adj [] (.adj [.drop 0] .nil)))) .nil))))))))))))) (to_goal (q := (True) ∧ (((a0.toList == ByteArray.empty.toList) = false → ((a0.toList == ByteArray.empty.toList) = false ∧ (True) ∧ ((a0.toList == ByteArray.empty.toList) = false ∧ (((a1.toList == ByteArray.empty.toList) = true → (True ∧ (True ∧ ((True) ∧ (True) ∧ (.v (.one (.sc (.string a0))) : Tm) = strings_TrimLeft.R r ∧ ([] : List Box) = [])))) ∧ ((a1.toList == ByteArray.empty.toList) = false → (True) ∧ (True) ∧ (((((ByteArray.size a1 : Nat) : Int) == (1 : Int)) = true → ((((ByteArray.size a1 : Nat) : Int) == (1 : Int)) = true ∧ (0 ≤ (0 : Int) ∧ (0 : Int) < (((ByteArray.size a1) : Nat) : Int)) ∧ ((((ByteArray.size a1 : Nat) : Int) == (1 : Int)) = true ∧ (True) ∧ ((((ByteArray.size a1 : Nat) : Int) == (1 : Int)) = true ∧ (((decide ((bt a1 (0 : Int)) < (128 : Int))) = true → (0 ≤ (0 : Int) ∧ (0 : Int) < (((ByteArray.size a1) : Nat) : Int)) ∧ False) ∧ ((decide ((bt a1 (0 : Int)) < (128 : Int))) = false → (∃ t6 : (List Bool) × Bool, (Fun cfg 43 [.one (.sc (.string a1))] [] (strings_makeASCIISet.R t6) [] ∧ True) ∧ (True) ∧ ((t6.2 = true → (∃ t8 : ByteArray, (Fun cfg 44 [.one (.sc (.string a0)), .one (.ptr 0 ⟨0, 0, 0, 0⟩)] [.ex false [.row 256 .bool t6.1] 88] (strings_trimLeftASCII.R t8) (strings_trimLeftASCII.B a0 t6.1 t8) ∧ True) ∧ (True ∧ ((True) ∧ ((True) ∧ True) ∧ (.v (.one (.sc (.string t8))) : Tm) = strings_TrimLeft.R r ∧ ([] : List Box) = [])))) ∧ (t6.2 = false → False))))))))) ∧ ((((ByteArray.size a1 : Nat) : Int) == (1 : Int)) = false → ((((ByteArray.size a1 : Nat) : Int) == (1 : Int)) = false ∧ ((((ByteArray.size a1 : Nat) : Int) == (1 : Int)) = false ∧ ((((ByteArray.size a1 : Nat) : Int) == (1 : Int)) = false ∧ (false = false ∧ (∃ t10 : (List Bool) × Bool, (Fun cfg 43 [.one (.sc (.string a1))] [] (strings_makeASCIISet.R t10) [] ∧ True) ∧ (True) ∧ ((t10.2 = true → (∃ t12 : ByteArray, (Fun cfg 44 [.one (.sc (.string a0)), .one (.ptr 0 ⟨0, 0, 0, 0⟩)] [.ex false [.row 256 .bool t10.1] 88] (strings_trimLeftASCII.R t12) (strings_trimLeftASCII.B a0 t10.1 t12) ∧ True) ∧ (True ∧ ((True) ∧ ((True) ∧ True) ∧ (.v (.one (.sc (.string t12))) : Tm) = strings_TrimLeft.R r ∧ ([] : List Box) = [])))) ∧ (t10.2 = false → False)))))))))))))) ∧ ((a0.toList == ByteArray.empty.toList) = true → ((a0.toList == ByteArray.empty.toList) = true ∧ ((a0.toList == ByteArray.empty.toList) = true ∧ (true = true ∧ (True ∧ (True ∧ ((True) ∧ (True) ∧ (.v (.one (.sc (.string a0))) : Tm) = strings_TrimLeft.R r ∧ ([] : List Box) = []))))))))) (by kernel_rfl) ?_)
  refine ⟨trivial, ?_⟩
  refine ⟨fun b1 => ?_, fun b1 => ?_⟩
  · rw [if_neg (str_f b1)] at h
    refine ⟨b1, ?_⟩
    refine ⟨trivial, ?_⟩
    refine ⟨b1, ?_⟩
    refine ⟨fun b2 => ?_, fun b2 => ?_⟩
    · rw [if_pos (str_t b2)] at h
      refine ⟨trivial, ?_⟩
      refine ⟨trivial, ?_⟩
      obtain rfl := Option.some.inj h
      exact ⟨trivial, trivial, rfl, rfl⟩
    · rw [if_neg (str_f b2)] at h
      refine ⟨trivial, ?_⟩
      refine ⟨trivial, ?_⟩
      refine ⟨fun b3 => ?_, fun b3 => ?_⟩
      · rw [if_pos (beq_t b3)] at h
        refine ⟨b3, ?_⟩
        obtain ⟨g9, h⟩ := of_guard h
        refine ⟨g9, ?_⟩
        refine ⟨b3, ?_⟩
        refine ⟨trivial, ?_⟩
        refine ⟨b3, ?_⟩
        refine ⟨fun b4 => ?_, fun b4 => ?_⟩
        · rw [if_pos (of_decide_eq_true b4)] at h
          obtain ⟨g5, h⟩ := of_guard h
          refine ⟨g5, ?_⟩
          cases h
        · rw [if_neg (of_decide_eq_false b4)] at h
          obtain ⟨t6, ht6, h⟩ := of_bind h
          refine ⟨t6, ⟨strings_makeASCIISet.fun_ ht6, trivial⟩, ?_⟩
          refine ⟨trivial, ?_⟩
          refine ⟨fun b7 => ?_, fun b7 => ?_⟩
          · rw [if_pos b7] at h
            obtain ⟨t8, ht8, h⟩ := of_bind h
            refine ⟨t8, ⟨strings_trimLeftASCII.fun_ ht8, trivial⟩, ?_⟩
            refine ⟨trivial, ?_⟩
            obtain rfl := Option.some.inj h
            exact ⟨trivial, ⟨trivial, trivial⟩, rfl, rfl⟩
          · rw [if_neg (ff b7)] at h
            cases h
      · rw [if_neg (beq_f b3)] at h
        refine ⟨b3, ?_⟩
        refine ⟨b3, ?_⟩
        refine ⟨b3, ?_⟩
        refine ⟨rfl, ?_⟩
        obtain ⟨t10, ht10, h⟩ := of_bind h
        refine ⟨t10, ⟨strings_makeASCIISet.fun_ ht10, trivial⟩, ?_⟩
        refine ⟨trivial, ?_⟩
        refine ⟨fun b11 => ?_, fun b11 => ?_⟩
        · rw [if_pos b11] at h
          obtain ⟨t12, ht12, h⟩ := of_bind h
          refine ⟨t12, ⟨strings_trimLeftASCII.fun_ ht12, trivial⟩, ?_⟩
          refine ⟨trivial, ?_⟩
          obtain rfl := Option.some.inj h
          exact ⟨trivial, ⟨trivial, trivial⟩, rfl, rfl⟩
        · rw [if_neg (ff b11)] at h
          cases h
  · rw [if_pos (str_t b1)] at h
    refine ⟨b1, ?_⟩
    refine ⟨b1, ?_⟩
    refine ⟨rfl, ?_⟩
    refine ⟨trivial, ?_⟩
    refine ⟨trivial, ?_⟩
    obtain rfl := Option.some.inj h
    exact ⟨trivial, trivial, rfl, rfl⟩
/-! halter/path.Check -/
def path_Check.f (a0 : ByteArray) : Option (Option Int) :=
  if a0 = ByteArray.empty then
    some (some (2 : Int))
  else
    if ((ByteArray.size a0 : Nat) : Int) > (16 : Int) then
      some (some (36 : Int))
    else
      (strings_TrimLeft.f a0 (⟨#[97, 98, 99, 100, 101, 102, 103, 104, 105, 106, 107, 108, 109, 110, 111, 112, 113, 114, 115, 116, 117, 118, 119, 120, 121, 122, 48, 49, 50, 51, 52, 53, 54, 55, 56, 57, 46, 95, 45]⟩ : ByteArray)).bind fun t3 =>
      if ¬ (t3 = ByteArray.empty) then
        some (some (22 : Int))
      else
        some none
def path_Check.R (r : (Option Int)) : Tm := .v (.one (.err r))
theorem path_Check.fun_ {a0 : ByteArray} {r : (Option Int)} (h : path_Check.f a0 = some r) : Fun cfg 18 [.one (.sc (.string a0))] [] (path_Check.R r) [] := by
  unfold path_Check.f at h
  refine fun_of_run cfg_ok (f := 18) (fn := Tryd.f18) Tryd.func18 rfl (by kernel_rfl) (rs := [.tmp 2]) rfl (nt := 17) rfl (l := fin) (k := (.br (.adj [] (.adj [] (.adj [] .nil))) (.br (.adj [] (.adj [] (.adj [] .nil))) (.call true [] (ByteArray) (fun t3 => strings_TrimLeft.R t3) (fun t3 => (.br (.adj [] (.adj [] (.adj [] .nil))) (.adj [] (.adj [] (.adj [] (.adj [] .nil)))))))))) (to_goal (q := (True) ∧ (((a0.toList == ByteArray.empty.toList) = true → (True ∧ (True ∧ ((True) ∧ (True) ∧ (.v (.one (.err (some (2 : Int)))) : Tm) = path_Check.R r ∧ ([] : List Box) = [])))) ∧ ((a0.toList == ByteArray.empty.toList) = false → (True) ∧ (True) ∧ (((decide (((ByteArray.size a0 : Nat) : Int) > (16 : Int))) = true → (True ∧ (True ∧ ((True) ∧ (True) ∧ (.v (.one (.err (some (36 : Int)))) : Tm) = path_Check.R r ∧ ([] : List Box) = [])))) ∧ ((decide (((ByteArray.size a0 : Nat) : Int) > (16 : Int))) = false → (∃ t3 : ByteArray, (Fun cfg 31 [.one (.sc (.string a0)), .one (.sc (.string (⟨#[97, 98, 99, 100, 101, 102, 103, 104, 105, 106, 107, 108, 109, 110, 111, 112, 113, 114, 115, 116, 117, 118, 119, 120, 121, 122, 48, 49, 50, 51, 52, 53, 54, 55, 56, 57, 46, 95, 45]⟩ : ByteArray)))] [] (strings_TrimLeft.R t3) [] ∧ True) ∧ (True) ∧ (((!(t3.toList == ByteArray.empty.toList)) = true → (True ∧ (True ∧ ((True) ∧ (True) ∧ (.v (.one (.err (some (22 : Int)))) : Tm) = path_Check.R r ∧ ([] : List Box) = [])))) ∧ ((!(t3.toList == ByteArray.empty.toList)) = false → (True ∧ (True ∧ (True ∧ ((True) ∧ (True) ∧ (.v (.one (.err none)) : Tm) = path_Check.R r ∧ ([] : List Box) = [])))))))))))) (by kernel_rfl) ?_)
  refine ⟨trivial, ?_⟩
  refine ⟨fun b1 => ?_, fun b1 => ?_⟩
  · rw [if_pos (str_t b1)] at h
    refine ⟨trivial, ?_⟩
    refine ⟨trivial, ?_⟩
    obtain rfl := Option.some.inj h
    exact ⟨trivial, trivial, rfl, rfl⟩
  · rw [if_neg (str_f b1)] at h
    refine ⟨trivial, ?_⟩
    refine ⟨trivial, ?_⟩
    refine ⟨fun b2 => ?_, fun b2 => ?_⟩
    · rw [if_pos (of_decide_eq_true b2)] at h
      refine ⟨trivial, ?_⟩
      refine ⟨trivial, ?_⟩
      obtain rfl := Option.some.inj h
      exact ⟨trivial, trivial, rfl, rfl⟩
    · rw [if_neg (of_decide_eq_false b2)] at h
      obtain ⟨t3, ht3, h⟩ := of_bind h
      refine ⟨t3, ⟨strings_TrimLeft.fun_ ht3, trivial⟩, ?_⟩
      refine ⟨trivial, ?_⟩
      refine ⟨fun b4 => ?_, fun b4 => ?_⟩
      · rw [if_pos (str_f (not_t b4))] at h
        refine ⟨trivial, ?_⟩
        refine ⟨trivial, ?_⟩
        obtain rfl := Option.some.inj h
        exact ⟨trivial, trivial, rfl, rfl⟩
      · rw [if_neg (not_not_intro (str_t (not_f b4)))] at h
        refine ⟨trivial, ?_⟩
        refine ⟨trivial, ?_⟩
        refine ⟨trivial, ?_⟩
        obtain rfl := Option.some.inj h
        exact ⟨trivial, trivial, rfl, rfl⟩
/-! halter/regs.Check -/
def regs_Check.f (a0 : (List Int)) (a1 : Int) (a2 : Int) (a3 : (List Int)) : Option (Option Int) :=
  if a2 ≥ (32 : Int) then
    some (some (22 : Int))
  else
    some none
def regs_Check.R (r : (Option Int)) : Tm := .v (.one (.err r))
theorem regs_Check.fun_ {a0 : (List Int)} {a1 : Int} {a2 : Int} {a3 : (List Int)} {r : (Option Int)} (h : regs_Check.f a0 a1 a2 a3 = some r) : Fun cfg 19 [.agg [.row 16 (.int .u32) a0, .c (.sc (.int .u32 a1)), .c (.sc (.int .u32 a2)), .row 4 (.int .u64) a3]] [] (regs_Check.R r) [] := by
  unfold regs_Check.f at h
  refine fun_of_run cfg_ok (f := 19) (fn := Tryd.f19) Tryd.func19 rfl (by kernel_rfl) (rs := [.tmp 2]) rfl (nt := 7) rfl (l := fin) (k := (.br (.adj [] (.adj [] (.adj [.drop 0] .nil))) (.adj [] (.adj [] (.adj [] (.adj [.drop 0] .nil)))))) (to_goal (q := (True) ∧ (True) ∧ (((decide (a2 ≥ (32 : Int))) = true → (True ∧ (True ∧ ((True) ∧ ((True) ∧ True) ∧ (.v (.one (.err (some (22 : Int)))) : Tm) = regs_Check.R r ∧ ([] : List Box) = [])))) ∧ ((decide (a2 ≥ (32 : Int))) = false → (True ∧ (True ∧ (True ∧ ((True) ∧ ((True) ∧ True) ∧ (.v (.one (.err none)) : Tm) = regs_Check.R r ∧ ([] : List Box) = []))))))) (by kernel_rfl) ?_)
  refine ⟨trivial, ?_⟩
  refine ⟨trivial, ?_⟩
  refine ⟨fun b1 => ?_, fun b1 => ?_⟩
  · rw [if_pos (of_decide_eq_true b1)] at h
    refine ⟨trivial, ?_⟩
    refine ⟨trivial, ?_⟩
    obtain rfl := Option.some.inj h
    exact ⟨trivial, ⟨trivial, trivial⟩, rfl, rfl⟩
  · rw [if_neg (of_decide_eq_false b1)] at h
    refine ⟨trivial, ?_⟩
    refine ⟨trivial, ?_⟩
    refine ⟨trivial, ?_⟩
    obtain rfl := Option.some.inj h
    exact ⟨trivial, ⟨trivial, trivial⟩, rfl, rfl⟩
/-! halter/fds.Check -/
def fds_Check.l0 (a0 : (List Int)) : Nat → Int → Option ((Unit) ⊕ (Unit))
  | 0, _ => none
  | n + 1, x1 =>
    if x1 < (8 : Int) then
      if 0 ≤ x1 ∧ x1 < ((8 : Nat) : Int) then
        if (List.getD a0 (Int.toNat x1) (0 : Int)) < (0 : Int) then
          some (.inr ())
        else
          if (List.getD a0 (Int.toNat x1) (0 : Int)) > (32 : Int) then
            some (.inr ())
          else
            fds_Check.l0 a0 n (IntKind.wrap .i64 (x1 + (1 : Int)))
      else none
    else
      some (.inl ())
def fds_Check.l0_S (a0 : (List Int)) (x1 : Int) : St := ⟨[.any, .any, .any, .any, .any, .any, .v (.agg [.row 8 (.int .i64) a0]), .v (.one (.sc (.int .i64 x1))), .any, .any, .any, .any, .any, .any, .any, .any, .any, .any], [.ex false [.row 8 (.int .i64) a0] 38], 0⟩
def fds_Check.l0_Q (a0 : (List Int)) : (Unit) ⊕ (Unit) → Exit → St → Prop
  | .inl t => fun e s => e = (.exit 0) ∧ s = ⟨[.any, .any, .any, .any, .any, .any, .any, .any, .any, .any, .any, .any, .any, .any, .any, .any, .any, .any], [.ex false [.row 8 (.int .i64) a0] 38], 0⟩
  | .inr t => fun e s => e = .ret ∧ s = ⟨[.any, .any, .v (.one (.err (some (22 : Int)))), .any, .any, .any, .any, .any, .any, .any, .any, .any, .any, .any, .any, .any, .any, .any], [.ex false [.row 8 (.int .i64) a0] 38], 0⟩
theorem fds_Check.l0_ok (a0 : (List Int)) : ∀ (n : Nat) (x1 : Int) (r : (Unit) ⊕ (Unit)), fds_Check.l0 a0 n x1 = some r → TripN cfg (cpath (Tryd.f20.body.getD .skip) [1, 0, 1, 0, 0]) n (fds_Check.l0_S a0 x1) (fds_Check.l0_Q a0 r) := by
  intro n
  induction n with
  | zero => intro x1 r h; cases h
  | succ n ih =>
    intro x1 r h
    rw [fds_Check.l0] at h
    refine TripN.of_run cfg_ok (k := (.br (.br (.one true (.one true (.one true (.adj [] (.adj [.keep [2], .drop 1] .nil))))) (.one false (.one false (.br (.adj [] (.adj [.keep [2], .drop 1] .nil)) (.adj [] (.adj [] (.adj [.keep [6, 7], .drop 1] .nil))))))) (.adj [.keep [], .drop 1] .nil))) (to_goal (q := (True) ∧ (((decide (x1 < (8 : Int))) = true → (0 ≤ x1 ∧ x1 < ((8 : Nat) : Int)) ∧ (True) ∧ (((decide ((List.getD a0 (Int.toNat x1) (0 : Int)) < (0 : Int))) = false → ((decide ((List.getD a0 (Int.toNat x1) (0 : Int)) < (0 : Int))) = false ∧ (True) ∧ ((decide ((List.getD a0 (Int.toNat x1) (0 : Int)) < (0 : Int))) = false ∧ (((decide ((List.getD a0 (Int.toNat x1) (0 : Int)) > (32 : Int))) = true → (True ∧ (((True) ∧ (True) ∧ True) ∧ fds_Check.l0_Q a0 r .ret ⟨[.any, .any, .v (.one (.err (some (22 : Int)))), .any, .any, .any, .any, .any, .any, .any, .any, .any, .any, .any, .any, .any, .any, .any], [.ex false [.row 8 (.int .i64) a0] 38], 0⟩))) ∧ ((decide ((List.getD a0 (Int.toNat x1) (0 : Int)) > (32 : Int))) = false → (True ∧ (True ∧ (True) ∧ (((True) ∧ (True) ∧ True) ∧ TripN cfg (cpath (Tryd.f20.body.getD .skip) [1, 0, 1, 0, 0]) n (fds_Check.l0_S a0 (IntKind.wrap .i64 (x1 + (1 : Int)))) (fds_Check.l0_Q a0 r))))))))) ∧ ((decide ((List.getD a0 (Int.toNat x1) (0 : Int)) < (0 : Int))) = true → ((decide ((List.getD a0 (Int.toNat x1) (0 : Int)) < (0 : Int))) = true ∧ ((decide ((List.getD a0 (Int.toNat x1) (0 : Int)) < (0 : Int))) = true ∧ (true = true ∧ (True ∧ (((True) ∧ (True) ∧ True) ∧ fds_Check.l0_Q a0 r .ret ⟨[.any, .any, .v (.one (.err (some (22 : Int)))), .any, .any, .any, .any, .any, .any, .any, .any, .any, .any, .any, .any, .any, .any, .any], [.ex false [.row 8 (.int .i64) a0] 38], 0⟩)))))))) ∧ ((decide (x1 < (8 : Int))) = false → (((True) ∧ (True) ∧ True) ∧ fds_Check.l0_Q a0 r (.exit 0) ⟨[.any, .any, .any, .any, .any, .any, .any, .any, .any, .any, .any, .any, .any, .any, .any, .any, .any, .any], [.ex false [.row 8 (.int .i64) a0] 38], 0⟩)))) (by kernel_rfl) ?_)
    refine ⟨trivial, ?_⟩
    refine ⟨fun b7 => ?_, fun b7 => ?_⟩
    · rw [if_pos (of_decide_eq_true b7)] at h
      obtain ⟨g10, h⟩ := of_guard h
      refine ⟨g10, ?_⟩
      refine ⟨trivial, ?_⟩
      refine ⟨fun b8 => ?_, fun b8 => ?_⟩
      · rw [if_neg (of_decide_eq_false b8)] at h
        refine ⟨b8, ?_⟩
        refine ⟨trivial, ?_⟩
        refine ⟨b8, ?_⟩
        refine ⟨fun b9 => ?_, fun b9 => ?_⟩
        · rw [if_pos (of_decide_eq_true b9)] at h
          refine ⟨trivial, ?_⟩
          obtain rfl := Option.some.inj h
          exact ⟨⟨trivial, trivial, trivial⟩, rfl, rfl⟩
        · rw [if_neg (of_decide_eq_false b9)] at h
          refine ⟨trivial, ?_⟩
          refine ⟨trivial, ?_⟩
          refine ⟨trivial, ?_⟩
          exact ⟨⟨trivial, trivial, trivial⟩, ih (IntKind.wrap .i64 (x1 + (1 : Int))) r h⟩
      · rw [if_pos (of_decide_eq_true b8)] at h
        refine ⟨b8, ?_⟩
        refine ⟨b8, ?_⟩
        refine ⟨rfl, ?_⟩
        refine ⟨trivial, ?_⟩
        obtain rfl := Option.some.inj h
        exact ⟨⟨trivial, trivial, trivial⟩, rfl, rfl⟩
    · rw [if_neg (of_decide_eq_false b7)] at h
      obtain rfl := Option.some.inj h
      exact ⟨⟨trivial, trivial, trivial⟩, rfl, rfl⟩
def fds_Check.f (a0 : (List Int)) : Option (Option Int) :=
  (fds_Check.l0 a0 FUEL (0 : Int)).bind fun t6 =>
  match t6 with
  | .inl t11 =>
    some none
  | .inr t12 =>
    some (some (22 : Int))
def fds_Check.R (r : (Option Int)) : Tm := .v (.one (.err r))
theorem fds_Check.fun_ {a0 : (List Int)} {r : (Option Int)} (h : fds_Check.f a0 = some r) : Fun cfg 20 [.agg [.row 8 (.int .i64) a0]] [] (fds_Check.R r) [] := by
  unfold fds_Check.f at h
  refine fun_of_run cfg_ok (f := 20) (fn := Tryd.f20) Tryd.func20 rfl (by kernel_rfl) (rs := [.tmp 2]) rfl (nt := 18) rfl (l := fin) (k := (.adj [] (.adj [] (.adj [] (.adj [.keep [6, 7]] (.alt (.sub (Unit) (fun _ => (.exit 0)) (fun t11 => ⟨[.any, .any, .any, .any, .any, .any, .any, .any, .any, .any, .any, .any, .any, .any, .any, .any, .any, .any], [.ex false [.row 8 (.int .i64) a0] 38], 0⟩) (fun t11 => (.adj [] (.adj [] (.adj [.drop 0] .nil))))) (.sub (Unit) (fun _ => .ret) (fun t12 => ⟨[.any, .any, .v (.one (.err (some (22 : Int)))), .any, .any, .any, .any, .any, .any, .any, .any, .any, .any, .any, .any, .any, .any, .any], [.ex false [.row 8 (.int .i64) a0] 38], 0⟩) (fun t12 => (.adj [.drop 0] .nil))))))))) (to_goal (q := (True ∧ (True ∧ (True) ∧ (True ∧ (((True) ∧ True) ∧ ((∃ t11 : Unit, Trip cfg (.loop (cpath (Tryd.f20.body.getD .skip) [1, 0, 1, 0, 0])) ⟨[.any, .any, .any, .any, .any, .any, .v (.agg [.row 8 (.int .i64) a0]), .v (.one (.sc (.int .i64 (0 : Int)))), .any, .any, .any, .any, .any, .any, .any, .any, .any, .any], [.ex false [.row 8 (.int .i64) a0] 38], 0⟩ (fun e s => e = (.exit 0) ∧ s = ⟨[.any, .any, .any, .any, .any, .any, .any, .any, .any, .any, .any, .any, .any, .any, .any, .any, .any, .any], [.ex false [.row 8 (.int .i64) a0] 38], 0⟩) ∧ (True ∧ (True ∧ ((True) ∧ ((True) ∧ True) ∧ (.v (.one (.err none)) : Tm) = fds_Check.R r ∧ ([] : List Box) = [])))) ∨ (∃ t12 : Unit, Trip cfg (.loop (cpath (Tryd.f20.body.getD .skip) [1, 0, 1, 0, 0])) ⟨[.any, .any, .any, .any, .any, .any, .v (.agg [.row 8 (.int .i64) a0]), .v (.one (.sc (.int .i64 (0 : Int)))), .any, .any, .any, .any, .any, .any, .any, .any, .any, .any], [.ex false [.row 8 (.int .i64) a0] 38], 0⟩ (fun e s => e = .ret ∧ s = ⟨[.any, .any, .v (.one (.err (some (22 : Int)))), .any, .any, .any, .any, .any, .any, .any, .any, .any, .any, .any, .any, .any, .any, .any], [.ex false [.row 8 (.int .i64) a0] 38], 0⟩) ∧ ((True) ∧ ((True) ∧ True) ∧ (.v (.one (.err (some (22 : Int)))) : Tm) = fds_Check.R r ∧ ([] : List Box) = [])))))))) (by kernel_rfl) ?_)
  refine ⟨trivial, ?_⟩
  refine ⟨trivial, ?_⟩
  refine ⟨trivial, ?_⟩
  refine ⟨trivial, ?_⟩
  obtain ⟨t6, ht6, h⟩ := of_bind h
  refine ⟨⟨trivial, trivial⟩, ?_⟩
  rcases t6 with t11 | t12
  · dsimp only at h
    left
    refine ⟨t11, Trip.loop FUEL (fds_Check.l0_ok a0 FUEL (0 : Int) (.inl t11) ht6), ?_⟩
    refine ⟨trivial, ?_⟩
    refine ⟨trivial, ?_⟩
    obtain rfl := Option.some.inj h
    exact ⟨trivial, ⟨trivial, trivial⟩, rfl, rfl⟩
  · dsimp only at h
    right
    refine ⟨t12, Trip.loop FUEL (fds_Check.l0_ok a0 FUEL (0 : Int) (.inr t12) ht6), ?_⟩
    obtain rfl := Option.some.inj h
    exact ⟨trivial, ⟨trivial, trivial⟩, rfl, rfl⟩
/-! halter/sig.Check -/
def sig_Check.f (a0 : Int) (a1 : Int) (a2 : (List Int)) : Option (Option Int) :=
  if ¬ (bits .and .u32 a1 (262400 : Int)) = (0 : Int) then
    some (some (22 : Int))
  else
    if ¬ (List.getD a2 0 (0 : Int)) = (0 : Int) then
      some (some (22 : Int))
    else
      if ¬ (List.getD a2 9 (0 : Int)) = (0 : Int) then
        some (some (22 : Int))
      else
        if ¬ (List.getD a2 19 (0 : Int)) = (0 : Int) then
          some (some (22 : Int))
        else
          if a0 > (2147483647 : Int) then
            some (some (22 : Int))
          else
            if a1 > (2147483647 : Int) then
              some (some (22 : Int))
            else
              some none
def sig_Check.R (r : (Option Int)) : Tm := .v (.one (.err r))
theorem sig_Check.fun_ {a0 : Int} {a1 : Int} {a2 : (List Int)} {r : (Option Int)} (h : sig_Check.f a0 a1 a2 = some r) : Fun cfg 21 [.agg [.c (.sc (.int .u32 a0)), .c (.sc (.int .u32 a1)), .row 32 (.int .u32) a2]] [] (sig_Check.R r) [] := by
  unfold sig_Check.f at h
  refine fun_of_run cfg_ok (f := 21) (fn := Tryd.f21) Tryd.func21 rfl (by kernel_rfl) (rs := [.tmp 2]) rfl (nt := 36) rfl (l := fin) (k := (.br (.one true (.one true (.one true (.one true (.one true (.one true (.one true (.one true (.one true (.one true (.one true (.one true (.one true (.one true (.one true (.one true (.one true (.one true (.one true (.one true (.one true (.one true (.one true (.adj [] (.adj [] (.adj [.drop 0] .nil)))))))))))))))))))))))))) (.one false (.one false (.one false (.one false (.br (.one true (.one true (.one true (.one true (.one true (.one true (.one true (.one true (.one true (.one true (.one true (.one true (.one true (.one true (.one true (.one true (.one true (.one true (.adj [] (.adj [] (.adj [.drop 0] .nil))))))))))))))))))))) (.one false (.one false (.one false (.one false (.br (.one true (.one true (.one true (.one true (.one true (.one true (.one true (.one true (.one true (.one true (.one true (.one true (.one true (.adj [] (.adj [] (.adj [.drop 0] .nil)))))))))))))))) (.one false (.one false (.one false (.one false (.br (.one true (.one true (.one true (.one true (.one true (.one true (.one true (.one true (.adj [] (.adj [] (.adj [.drop 0] .nil))))))))))) (.one false (.one false (.one false (.br (.one true (.one true (.one true (.one true (.adj [] (.adj [] (.adj [.drop 0] .nil))))))) (.one false (.one false (.one false (.br (.adj [] (.adj [] (.adj [.drop 0] .nil))) (.adj [] (.adj [] (.adj [] (.adj [.drop 0] .nil))))))))))))))))))))))))))))) (to_goal (q := (True) ∧ (True) ∧ (True) ∧ ((((bits .and .u32 a1 (262400 : Int)) != (0 : Int)) = false → (((bits .and .u32 a1 (262400 : Int)) != (0 : Int)) = false ∧ (0 ≤ (0 : Int) ∧ (0 : Int) < ((32 : Nat) : Int)) ∧ (((bits .and .u32 a1 (262400 : Int)) != (0 : Int)) = false ∧ (0 < 32) ∧ (((bits .and .u32 a1 (262400 : Int)) != (0 : Int)) = false ∧ (True) ∧ (((bits .and .u32 a1 (262400 : Int)) != (0 : Int)) = false ∧ ((((List.getD a2 0 (0 : Int)) != (0 : Int)) = false → (((List.getD a2 0 (0 : Int)) != (0 : Int)) = false ∧ (0 ≤ (9 : Int) ∧ (9 : Int) < ((32 : Nat) : Int)) ∧ (((List.getD a2 0 (0 : Int)) != (0 : Int)) = false ∧ (9 < 32) ∧ (((List.getD a2 0 (0 : Int)) != (0 : Int)) = false ∧ (True) ∧ (((List.getD a2 0 (0 : Int)) != (0 : Int)) = false ∧ ((((List.getD a2 9 (0 : Int)) != (0 : Int)) = false → (((List.getD a2 9 (0 : Int)) != (0 : Int)) = false ∧ (0 ≤ (19 : Int) ∧ (19 : Int) < ((32 : Nat) : Int)) ∧ (((List.getD a2 9 (0 : Int)) != (0 : Int)) = false ∧ (19 < 32) ∧ (((List.getD a2 9 (0 : Int)) != (0 : Int)) = false ∧ (True) ∧ (((List.getD a2 9 (0 : Int)) != (0 : Int)) = false ∧ ((((List.getD a2 19 (0 : Int)) != (0 : Int)) = false → (((List.getD a2 19 (0 : Int)) != (0 : Int)) = false ∧ (True) ∧ (((List.getD a2 19 (0 : Int)) != (0 : Int)) = false ∧ (True) ∧ (((List.getD a2 19 (0 : Int)) != (0 : Int)) = false ∧ (((decide (a0 > (2147483647 : Int))) = false → ((decide (a0 > (2147483647 : Int))) = false ∧ (True) ∧ ((decide (a0 > (2147483647 : Int))) = false ∧ (True) ∧ ((decide (a0 > (2147483647 : Int))) = false ∧ (((decide (a1 > (2147483647 : Int))) = true → (True ∧ (True ∧ ((True) ∧ ((True) ∧ True) ∧ (.v (.one (.err (some (22 : Int)))) : Tm) = sig_Check.R r ∧ ([] : List Box) = [])))) ∧ ((decide (a1 > (2147483647 : Int))) = false → (True ∧ (True ∧ (True ∧ ((True) ∧ ((True) ∧ True) ∧ (.v (.one (.err none)) : Tm) = sig_Check.R r ∧ ([] : List Box) = [])))))))))) ∧ ((decide (a0 > (2147483647 : Int))) = true → ((decide (a0 > (2147483647 : Int))) = true ∧ ((decide (a0 > (2147483647 : Int))) = true ∧ ((decide (a0 > (2147483647 : Int))) = true ∧ (true = true ∧ (True ∧ (True ∧ ((True) ∧ ((True) ∧ True) ∧ (.v (.one (.err (some (22 : Int)))) : Tm) = sig_Check.R r ∧ ([] : List Box) = []))))))))))))) ∧ (((List.getD a2 19 (0 : Int)) != (0 : Int)) = true → (((List.getD a2 19 (0 : Int)) != (0 : Int)) = true ∧ (((List.getD a2 19 (0 : Int)) != (0 : Int)) = true ∧ (((List.getD a2 19 (0 : Int)) != (0 : Int)) = true ∧ (true = true ∧ (true = true ∧ (true = true ∧ (true = true ∧ (true = true ∧ (True ∧ (True ∧ ((True) ∧ ((True) ∧ True) ∧ (.v (.one (.err (some (22 : Int)))) : Tm) = sig_Check.R r ∧ ([] : List Box) = [])))))))))))))))))) ∧ (((List.getD a2 9 (0 : Int)) != (0 : Int)) = true → (((List.getD a2 9 (0 : Int)) != (0 : Int)) = true ∧ (((List.getD a2 9 (0 : Int)) != (0 : Int)) = true ∧ (((List.getD a2 9 (0 : Int)) != (0 : Int)) = true ∧ (((List.getD a2 9 (0 : Int)) != (0 : Int)) = true ∧ (true = true ∧ (true = true ∧ (true = true ∧ (true = true ∧ (true = true ∧ (true = true ∧ (true = true ∧ (true = true ∧ (true = true ∧ (True ∧ (True ∧ ((True) ∧ ((True) ∧ True) ∧ (.v (.one (.err (some (22 : Int)))) : Tm) = sig_Check.R r ∧ ([] : List Box) = []))))))))))))))))))))))) ∧ (((List.getD a2 0 (0 : Int)) != (0 : Int)) = true → (((List.getD a2 0 (0 : Int)) != (0 : Int)) = true ∧ (((List.getD a2 0 (0 : Int)) != (0 : Int)) = true ∧ (((List.getD a2 0 (0 : Int)) != (0 : Int)) = true ∧ (((List.getD a2 0 (0 : Int)) != (0 : Int)) = true ∧ (true = true ∧ (true = true ∧ (true = true ∧ (true = true ∧ (true = true ∧ (true = true ∧ (true = true ∧ (true = true ∧ (true = true ∧ (true = true ∧ (true = true ∧ (true = true ∧ (true = true ∧ (true = true ∧ (True ∧ (True ∧ ((True) ∧ ((True) ∧ True) ∧ (.v (.one (.err (some (22 : Int)))) : Tm) = sig_Check.R r ∧ ([] : List Box) = [])))))))))))))))))))))))))))) ∧ (((bits .and .u32 a1 (262400 : Int)) != (0 : Int)) = true → (((bits .and .u32 a1 (262400 : Int)) != (0 : Int)) = true ∧ (((bits .and .u32 a1 (262400 : Int)) != (0 : Int)) = true ∧ (((bits .and .u32 a1 (262400 : Int)) != (0 : Int)) = true ∧ (((bits .and .u32 a1 (262400 : Int)) != (0 : Int)) = true ∧ (true = true ∧ (true = true ∧ (true = true ∧ (true = true ∧ (true = true ∧ (true = true ∧ (true = true ∧ (true = true ∧ (true = true ∧ (true = true ∧ (true = true ∧ (true = true ∧ (true = true ∧ (true = true ∧ (true = true ∧ (true = true ∧ (true = true ∧ (true = true ∧ (true = true ∧ (True ∧ (True ∧ ((True) ∧ ((True) ∧ True) ∧ (.v (.one (.err (some (22 : Int)))) : Tm) = sig_Check.R r ∧ ([] : List Box) = []))))))))))))))))))))))))))))) (by kernel_rfl) ?_)
  refine ⟨trivial, ?_⟩
  refine ⟨trivial, ?_⟩
  refine ⟨trivial, ?_⟩
  refine ⟨fun b1 => ?_, fun b1 => ?_⟩
  · rw [if_neg (not_not_intro (bne_f b1))] at h
    refine ⟨b1, ?_⟩
    refine ⟨(by decide), ?_⟩
    refine ⟨b1, ?_⟩
    refine ⟨(by decide), ?_⟩
    refine ⟨b1, ?_⟩
    refine ⟨trivial, ?_⟩
    refine ⟨b1, ?_⟩
    refine ⟨fun b2 => ?_, fun b2 => ?_⟩
    · rw [if_neg (not_not_intro (bne_f b2))] at h
      refine ⟨b2, ?_⟩
      refine ⟨(by decide), ?_⟩
      refine ⟨b2, ?_⟩
      refine ⟨(by decide), ?_⟩
      refine ⟨b2, ?_⟩
      refine ⟨trivial, ?_⟩
      refine ⟨b2, ?_⟩
      refine ⟨fun b3 => ?_, fun b3 => ?_⟩
      · rw [if_neg (not_not_intro (bne_f b3))] at h
        refine ⟨b3, ?_⟩
        refine ⟨(by decide), ?_⟩
        refine ⟨b3, ?_⟩
        refine ⟨(by decide), ?_⟩
        refine ⟨b3, ?_⟩
        refine ⟨trivial, ?_⟩
        refine ⟨b3, ?_⟩
        refine ⟨fun b4 => ?_, fun b4 => ?_⟩
        · rw [if_neg (not_not_intro (bne_f b4))] at h
          refine ⟨b4, ?_⟩
          refine ⟨trivial, ?_⟩
          refine ⟨b4, ?_⟩
          refine ⟨trivial, ?_⟩
          refine ⟨b4, ?_⟩
          refine ⟨fun b5 => ?_, fun b5 => ?_⟩
          · rw [if_neg (of_decide_eq_false b5)] at h
            refine ⟨b5, ?_⟩
            refine ⟨trivial, ?_⟩
            refine ⟨b5, ?_⟩
            refine ⟨trivial, ?_⟩
            refine ⟨b5, ?_⟩
            refine ⟨fun b6 => ?_, fun b6 => ?_⟩
            · rw [if_pos (of_decide_eq_true b6)] at h
              refine ⟨trivial, ?_⟩
              refine ⟨trivial, ?_⟩
              obtain rfl := Option.some.inj h
              exact ⟨trivial, ⟨trivial, trivial⟩, rfl, rfl⟩
            · rw [if_neg (of_decide_eq_false b6)] at h
              refine ⟨trivial, ?_⟩
              refine ⟨trivial, ?_⟩
              refine ⟨trivial, ?_⟩
              obtain rfl := Option.some.inj h
              exact ⟨trivial, ⟨trivial, trivial⟩, rfl, rfl⟩
          · rw [if_pos (of_decide_eq_true b5)] at h
            refine ⟨b5, ?_⟩
            refine ⟨b5, ?_⟩
            refine ⟨b5, ?_⟩
            refine ⟨rfl, ?_⟩
            refine ⟨trivial, ?_⟩
            refine ⟨trivial, ?_⟩
            obtain rfl := Option.some.inj h
            exact ⟨trivial, ⟨trivial, trivial⟩, rfl, rfl⟩
        · rw [if_pos (bne_t b4)] at h
          refine ⟨b4, ?_⟩
          refine ⟨b4, ?_⟩
          refine ⟨b4, ?_⟩
          refine ⟨rfl, ?_⟩
          refine ⟨rfl, ?_⟩
          refine ⟨rfl, ?_⟩
          refine ⟨rfl, ?_⟩
          refine ⟨rfl, ?_⟩
          refine ⟨trivial, ?_⟩
          refine ⟨trivial, ?_⟩
          obtain rfl := Option.some.inj h
          exact ⟨trivial, ⟨trivial, trivial⟩, rfl, rfl⟩
      · rw [if_pos (bne_t b3)] at h
        refine ⟨b3, ?_⟩
        refine ⟨b3, ?_⟩
        refine ⟨b3, ?_⟩
        refine ⟨b3, ?_⟩
        refine ⟨rfl, ?_⟩
        refine ⟨rfl, ?_⟩
        refine ⟨rfl, ?_⟩
        refine ⟨rfl, ?_⟩
        refine ⟨rfl, ?_⟩
        refine ⟨rfl, ?_⟩
        refine ⟨rfl, ?_⟩
        refine ⟨rfl, ?_⟩
        refine ⟨rfl, ?_⟩
        refine ⟨trivial, ?_⟩
        refine ⟨trivial, ?_⟩
        obtain rfl := Option.some.inj h
        exact ⟨trivial, ⟨trivial, trivial⟩, rfl, rfl⟩
    · rw [if_pos (bne_t b2)] at h
      refine ⟨b2, ?_⟩
      refine ⟨b2, ?_⟩
      refine ⟨b2, ?_⟩
      refine ⟨b2, ?_⟩
      refine ⟨rfl, ?_⟩
      refine ⟨rfl, ?_⟩
      refine ⟨rfl, ?_⟩
      refine ⟨rfl, ?_⟩
      refine ⟨rfl, ?_⟩
      refine ⟨rfl, ?_⟩
      refine ⟨rfl, ?_⟩
      refine ⟨rfl, ?_⟩
      refine ⟨rfl, ?_⟩
      refine ⟨rfl, ?_⟩
      refine ⟨rfl, ?_⟩
      refine ⟨rfl, ?_⟩
      refine ⟨rfl, ?_⟩
      refine ⟨rfl, ?_⟩
      refine ⟨trivial, ?_⟩
      refine ⟨trivial, ?_⟩
      obtain rfl := Option.some.inj h
      exact ⟨trivial, ⟨trivial, trivial⟩, rfl, rfl⟩
  · rw [if_pos (bne_t b1)] at h
    refine ⟨b1, ?_⟩
    refine ⟨b1, ?_⟩
    refine ⟨b1, ?_⟩
    refine ⟨b1, ?_⟩
    refine ⟨rfl, ?_⟩
    refine ⟨rfl, ?_⟩
    refine ⟨rfl, ?_⟩
    refine ⟨rfl, ?_⟩
    refine ⟨rfl, ?_⟩
    refine ⟨rfl, ?_⟩
    refine ⟨rfl, ?_⟩
    refine ⟨rfl, ?_⟩
    refine ⟨rfl, ?_⟩
    refine ⟨rfl, ?_⟩
    refine ⟨rfl, ?_⟩
    refine ⟨rfl, ?_⟩
    refine ⟨rfl, ?_⟩
    refine ⟨rfl, ?_⟩
    refine ⟨rfl, ?_⟩
    refine ⟨rfl, ?_⟩
    refine ⟨rfl, ?_⟩
    refine ⟨rfl, ?_⟩
    refine ⟨rfl, ?_⟩
    refine ⟨trivial, ?_⟩
    refine ⟨trivial, ?_⟩
    obtain rfl := Option.some.inj h
    exact ⟨trivial, ⟨trivial, trivial⟩, rfl, rfl⟩
/-! halter/trace.mode -/
def trace_mode.f (a0 : Int) : Option Bool :=
  if a0 ≥ (0 : Int) then
    some (decide (a0 ≤ (2 : Int)))
  else
    some false
def trace_mode.R (r : Bool) : Tm := .v (.one (.sc (.bool r)))
theorem trace_mode.fun_ {a0 : Int} {r : Bool} (h : trace_mode.f a0 = some r) : Fun cfg 32 [.one (.sc (.int .i64 a0))] [] (trace_mode.R r) [] := by
  unfold trace_mode.f at h
  refine fun_of_run cfg_ok (f := 32) (fn := Tryd.f32) Tryd.func32 rfl (by kernel_rfl) (rs := [.tmp 2]) rfl (nt := 9) rfl (l := fin) (k := (.br (.one true (.one true (.adj [] (.adj [] .nil)))) (.one false (.one false (.adj [] (.adj [] .nil)))))) (to_goal (q := (True) ∧ (((decide (a0 ≥ (0 : Int))) = true → ((decide (a0 ≥ (0 : Int))) = true ∧ (True) ∧ ((decide (a0 ≥ (0 : Int))) = true ∧ (True ∧ ((True) ∧ (True) ∧ (.v (.one (.sc (.bool (decide (a0 ≤ (2 : Int)))))) : Tm) = trace_mode.R r ∧ ([] : List Box) = []))))) ∧ ((decide (a0 ≥ (0 : Int))) = false → ((decide (a0 ≥ (0 : Int))) = false ∧ ((decide (a0 ≥ (0 : Int))) = false ∧ (True ∧ ((True) ∧ (True) ∧ (.v (.one (.sc (.bool false))) : Tm) = trace_mode.R r ∧ ([] : List Box) = []))))))) (by kernel_rfl) ?_)
  refine ⟨trivial, ?_⟩
  refine ⟨fun b1 => ?_, fun b1 => ?_⟩
  · rw [if_pos (of_decide_eq_true b1)] at h
    refine ⟨b1, ?_⟩
    refine ⟨trivial, ?_⟩
    refine ⟨b1, ?_⟩
    refine ⟨trivial, ?_⟩
    obtain rfl := Option.some.inj h
    exact ⟨trivial, trivial, rfl, rfl⟩
  · rw [if_neg (of_decide_eq_false b1)] at h
    refine ⟨b1, ?_⟩
    refine ⟨b1, ?_⟩
    refine ⟨trivial, ?_⟩
    obtain rfl := Option.some.inj h
    exact ⟨trivial, trivial, rfl, rfl⟩
/-! halter/trace.signal -/
def trace_signal.f (a0 : Int) : Option Bool :=
  if a0 ≥ (0 : Int) then
    some (decide (a0 ≤ (31 : Int)))
  else
    some false
def trace_signal.R (r : Bool) : Tm := .v (.one (.sc (.bool r)))
theorem trace_signal.fun_ {a0 : Int} {r : Bool} (h : trace_signal.f a0 = some r) : Fun cfg 33 [.one (.sc (.int .i64 a0))] [] (trace_signal.R r) [] := by
  unfold trace_signal.f at h
  refine fun_of_run cfg_ok (f := 33) (fn := Tryd.f33) Tryd.func33 rfl (by kernel_rfl) (rs := [.tmp 2]) rfl (nt := 9) rfl (l := fin) (k := (.br (.one true (.one true (.adj [] (.adj [] .nil)))) (.one false (.one false (.adj [] (.adj [] .nil)))))) (to_goal (q := (True) ∧ (((decide (a0 ≥ (0 : Int))) = true → ((decide (a0 ≥ (0 : Int))) = true ∧ (True) ∧ ((decide (a0 ≥ (0 : Int))) = true ∧ (True ∧ ((True) ∧ (True) ∧ (.v (.one (.sc (.bool (decide (a0 ≤ (31 : Int)))))) : Tm) = trace_signal.R r ∧ ([] : List Box) = []))))) ∧ ((decide (a0 ≥ (0 : Int))) = false → ((decide (a0 ≥ (0 : Int))) = false ∧ ((decide (a0 ≥ (0 : Int))) = false ∧ (True ∧ ((True) ∧ (True) ∧ (.v (.one (.sc (.bool false))) : Tm) = trace_signal.R r ∧ ([] : List Box) = []))))))) (by kernel_rfl) ?_)
  refine ⟨trivial, ?_⟩
  refine ⟨fun b1 => ?_, fun b1 => ?_⟩
  · rw [if_pos (of_decide_eq_true b1)] at h
    refine ⟨b1, ?_⟩
    refine ⟨trivial, ?_⟩
    refine ⟨b1, ?_⟩
    refine ⟨trivial, ?_⟩
    obtain rfl := Option.some.inj h
    exact ⟨trivial, trivial, rfl, rfl⟩
  · rw [if_neg (of_decide_eq_false b1)] at h
    refine ⟨b1, ?_⟩
    refine ⟨b1, ?_⟩
    refine ⟨trivial, ?_⟩
    obtain rfl := Option.some.inj h
    exact ⟨trivial, trivial, rfl, rfl⟩
/-! halter/status.kind -/
def status_kind.f (a0 : Int) : Option (Int × Int) :=
  if (Int.tmod a0 (256 : Int)) = (0 : Int) then
    some ((0 : Int), (IntKind.wrap .i64 ((shr .u32 a0 (8 : Int)))))
  else
    if ¬ (Int.tmod a0 (256 : Int)) = (127 : Int) then
      some ((1 : Int), (IntKind.wrap .i64 (a0)))
    else
      if ¬ (bits .and .i64 (IntKind.wrap .i64 ((shr .u32 a0 (8 : Int)))) (128 : Int)) = (0 : Int) then
        some ((3 : Int), (bits .andNot .i64 (IntKind.wrap .i64 ((shr .u32 a0 (8 : Int)))) (128 : Int)))
      else
        some ((2 : Int), (IntKind.wrap .i64 ((shr .u32 a0 (8 : Int)))))
def status_kind.R (r : Int × Int) : Tm := .tup [.one (.sc (.int .i64 r.1)), .one (.sc (.int .i64 r.2))]
theorem status_kind.fun_ {a0 : Int} {r : Int × Int} (h : status_kind.f a0 = some r) : Fun cfg 55 [.one (.sc (.int .u32 a0))] [] (status_kind.R r) [] := by
  unfold status_kind.f at h
  refine fun_of_run cfg_ok (f := 55) (fn := Tryd.f55) Tryd.func55 rfl (by kernel_rfl) (rs := [.tmp 2, .tmp 3]) rfl (nt := 27) rfl (l := fin) (k := (.br (.adj [] (.adj [] (.adj [] .nil))) (.br (.adj [] (.adj [] (.adj [] .nil))) (.br (.adj [] (.adj [] (.adj [] .nil))) (.adj [] (.adj [] (.adj [] (.adj [] .nil)))))))) (to_goal (q := ((256 : Int) ≠ 0) ∧ (0 ≤ (8 : Int)) ∧ (True) ∧ (True) ∧ ((((Int.tmod a0 (256 : Int)) == (0 : Int)) = true → (True ∧ (True ∧ ((True) ∧ (True) ∧ (.tup [.one (.sc (.int .i64 (0 : Int))), .one (.sc (.int .i64 (IntKind.wrap .i64 ((shr .u32 a0 (8 : Int))))))] : Tm) = status_kind.R r ∧ ([] : List Box) = [])))) ∧ (((Int.tmod a0 (256 : Int)) == (0 : Int)) = false → (True) ∧ ((((Int.tmod a0 (256 : Int)) != (127 : Int)) = true → (True ∧ (True) ∧ (True ∧ ((True) ∧ (True) ∧ (.tup [.one (.sc (.int .i64 (1 : Int))), .one (.sc (.int .i64 (IntKind.wrap .i64 (a0))))] : Tm) = status_kind.R r ∧ ([] : List Box) = [])))) ∧ (((Int.tmod a0 (256 : Int)) != (127 : Int)) = false → (True) ∧ (True) ∧ ((((bits .and .i64 (IntKind.wrap .i64 ((shr .u32 a0 (8 : Int)))) (128 : Int)) != (0 : Int)) = true → (True ∧ (True) ∧ (True ∧ ((True) ∧ (True) ∧ (.tup [.one (.sc (.int .i64 (3 : Int))), .one (.sc (.int .i64 (bits .andNot .i64 (IntKind.wrap .i64 ((shr .u32 a0 (8 : Int)))) (128 : Int))))] : Tm) = status_kind.R r ∧ ([] : List Box) = [])))) ∧ (((bits .and .i64 (IntKind.wrap .i64 ((shr .u32 a0 (8 : Int)))) (128 : Int)) != (0 : Int)) = false → (True ∧ (True ∧ (True ∧ ((True) ∧ (True) ∧ (.tup [.one (.sc (.int .i64 (2 : Int))), .one (.sc (.int .i64 (IntKind.wrap .i64 ((shr .u32 a0 (8 : Int))))))] : Tm) = status_kind.R r ∧ ([] : List Box) = []))))))))))) (by kernel_rfl) ?_)
  refine ⟨(by decide), ?_⟩
  refine ⟨(by decide), ?_⟩
  refine ⟨trivial, ?_⟩
  refine ⟨trivial, ?_⟩
  refine ⟨fun b1 => ?_, fun b1 => ?_⟩
  · rw [if_pos (beq_t b1)] at h
    refine ⟨trivial, ?_⟩
    refine ⟨trivial, ?_⟩
    obtain rfl := Option.some.inj h
    exact ⟨trivial, trivial, rfl, rfl⟩
  · rw [if_neg (beq_f b1)] at h
    refine ⟨trivial, ?_⟩
    refine ⟨fun b2 => ?_, fun b2 => ?_⟩
    · rw [if_pos (bne_t b2)] at h
      refine ⟨trivial, ?_⟩
      refine ⟨trivial, ?_⟩
      refine ⟨trivial, ?_⟩
      obtain rfl := Option.some.inj h
      exact ⟨trivial, trivial, rfl, rfl⟩
    · rw [if_neg (not_not_intro (bne_f b2))] at h
      refine ⟨trivial, ?_⟩
      refine ⟨trivial, ?_⟩
      refine ⟨fun b3 => ?_, fun b3 => ?_⟩
      · rw [if_pos (bne_t b3)] at h
        refine ⟨trivial, ?_⟩
        refine ⟨trivial, ?_⟩
        refine ⟨trivial, ?_⟩
        obtain rfl := Option.some.inj h
        exact ⟨trivial, trivial, rfl, rfl⟩
      · rw [if_neg (not_not_intro (bne_f b3))] at h
        refine ⟨trivial, ?_⟩
        refine ⟨trivial, ?_⟩
        refine ⟨trivial, ?_⟩
        obtain rfl := Option.some.inj h
        exact ⟨trivial, trivial, rfl, rfl⟩
/-! halter/status.signal -/
def status_signal.f (a0 : Int) : Option Bool :=
  if a0 ≥ (1 : Int) then
    some (decide (a0 ≤ (31 : Int)))
  else
    some false
def status_signal.R (r : Bool) : Tm := .v (.one (.sc (.bool r)))
theorem status_signal.fun_ {a0 : Int} {r : Bool} (h : status_signal.f a0 = some r) : Fun cfg 62 [.one (.sc (.int .i64 a0))] [] (status_signal.R r) [] := by
  unfold status_signal.f at h
  refine fun_of_run cfg_ok (f := 62) (fn := Tryd.f62) Tryd.func62 rfl (by kernel_rfl) (rs := [.tmp 2]) rfl (nt := 9) rfl (l := fin) (k := (.br (.one true (.one true (.adj [] (.adj [] .nil)))) (.one false (.one false (.adj [] (.adj [] .nil)))))) (to_goal (q := (True) ∧ (((decide (a0 ≥ (1 : Int))) = true → ((decide (a0 ≥ (1 : Int))) = true ∧ (True) ∧ ((decide (a0 ≥ (1 : Int))) = true ∧ (True ∧ ((True) ∧ (True) ∧ (.v (.one (.sc (.bool (decide (a0 ≤ (31 : Int)))))) : Tm) = status_signal.R r ∧ ([] : List Box) = []))))) ∧ ((decide (a0 ≥ (1 : Int))) = false → ((decide (a0 ≥ (1 : Int))) = false ∧ ((decide (a0 ≥ (1 : Int))) = false ∧ (True ∧ ((True) ∧ (True) ∧ (.v (.one (.sc (.bool false))) : Tm) = status_signal.R r ∧ ([] : List Box) = []))))))) (by kernel_rfl) ?_)
  refine ⟨trivial, ?_⟩
  refine ⟨fun b1 => ?_, fun b1 => ?_⟩
  · rw [if_pos (of_decide_eq_true b1)] at h
    refine ⟨b1, ?_⟩
    refine ⟨trivial, ?_⟩
    refine ⟨b1, ?_⟩
    refine ⟨trivial, ?_⟩
    obtain rfl := Option.some.inj h
    exact ⟨trivial, trivial, rfl, rfl⟩
  · rw [if_neg (of_decide_eq_false b1)] at h
    refine ⟨b1, ?_⟩
    refine ⟨b1, ?_⟩
    refine ⟨trivial, ?_⟩
    obtain rfl := Option.some.inj h
    exact ⟨trivial, trivial, rfl, rfl⟩
/-! halter/status.Of -/
def status_Of.f (a0 : Int) (a1 : Int) : Option (Int × (Option Int)) :=
  if a0 = (0 : Int) then
    if a1 ≥ (0 : Int) then
      if a1 < (256 : Int) then
        some ((shl .u32 (IntKind.wrap .u32 (a1)) (8 : Int)), none)
      else
        if a0 = (1 : Int) then
          (status_signal.f a1).bind fun t5 =>
          if t5 = true then
            some ((IntKind.wrap .u32 (a1)), none)
          else
            if a0 = (2 : Int) then
              (status_signal.f a1).bind fun t8 =>
              if t8 = true then
                some ((bits .or .u32 (shl .u32 (IntKind.wrap .u32 (a1)) (8 : Int)) (127 : Int)), none)
              else
                if a0 = (3 : Int) then
                  (status_signal.f a1).bind fun t11 =>
                  if t11 = true then
                    some ((bits .or .u32 (shl .u32 (IntKind.wrap .u32 ((bits .or .i64 a1 (128 : Int)))) (8 : Int)) (127 : Int)), none)
                  else
                    some ((0 : Int), (some (22 : Int)))
                else
                  some ((0 : Int), (some (22 : Int)))
            else
              if a0 = (3 : Int) then
                (status_signal.f a1).bind fun t14 =>
                if t14 = true then
                  some ((bits .or .u32 (shl .u32 (IntKind.wrap .u32 ((bits .or .i64 a1 (128 : Int)))) (8 : Int)) (127 : Int)), none)
                else
                  some ((0 : Int), (some (22 : Int)))
              else
                some ((0 : Int), (some (22 : Int)))
        else
          if a0 = (2 : Int) then
            (status_signal.f a1).bind fun t17 =>
            if t17 = true then
              some ((bits .or .u32 (shl .u32 (IntKind.wrap .u32 (a1)) (8 : Int)) (127 : Int)), none)
            else
              if a0 = (3 : Int) then
                (status_signal.f a1).bind fun t20 =>
                if t20 = true then
                  some ((bits .or .u32 (shl .u32 (IntKind.wrap .u32 ((bits .or .i64 a1 (128 : Int)))) (8 : Int)) (127 : Int)), none)
                else
                  some ((0 : Int), (some (22 : Int)))
              else
                some ((0 : Int), (some (22 : Int)))
          else
            if a0 = (3 : Int) then
              (status_signal.f a1).bind fun t23 =>
              if t23 = true then
                some ((bits .or .u32 (shl .u32 (IntKind.wrap .u32 ((bits .or .i64 a1 (128 : Int)))) (8 : Int)) (127 : Int)), none)
              else
                some ((0 : Int), (some (22 : Int)))
            else
              some ((0 : Int), (some (22 : Int)))
    else
      if a0 = (1 : Int) then
        (status_signal.f a1).bind fun t26 =>
        if t26 = true then
          some ((IntKind.wrap .u32 (a1)), none)
        else
          if a0 = (2 : Int) then
            (status_signal.f a1).bind fun t29 =>
            if t29 = true then
              some ((bits .or .u32 (shl .u32 (IntKind.wrap .u32 (a1)) (8 : Int)) (127 : Int)), none)
            else
              if a0 = (3 : Int) then
                (status_signal.f a1).bind fun t32 =>
                if t32 = true then
                  some ((bits .or .u32 (shl .u32 (IntKind.wrap .u32 ((bits .or .i64 a1 (128 : Int)))) (8 : Int)) (127 : Int)), none)
                else
                  some ((0 : Int), (some (22 : Int)))
              else
                some ((0 : Int), (some (22 : Int)))
          else
            if a0 = (3 : Int) then
              (status_signal.f a1).bind fun t35 =>
              if t35 = true then
                some ((bits .or .u32 (shl .u32 (IntKind.wrap .u32 ((bits .or .i64 a1 (128 : Int)))) (8 : Int)) (127 : Int)), none)
              else
                some ((0 : Int), (some (22 : Int)))
            else
              some ((0 : Int), (some (22 : Int)))
      else
        if a0 = (2 : Int) then
          (status_signal.f a1).bind fun t38 =>
          if t38 = true then
            some ((bits .or .u32 (shl .u32 (IntKind.wrap .u32 (a1)) (8 : Int)) (127 : Int)), none)
          else
            if a0 = (3 : Int) then
              (status_signal.f a1).bind fun t41 =>
              if t41 = true then
                some ((bits .or .u32 (shl .u32 (IntKind.wrap .u32 ((bits .or .i64 a1 (128 : Int)))) (8 : Int)) (127 : Int)), none)
              else
                some ((0 : Int), (some (22 : Int)))
            else
              some ((0 : Int), (some (22 : Int)))
        else
          if a0 = (3 : Int) then
            (status_signal.f a1).bind fun t44 =>
            if t44 = true then
              some ((bits .or .u32 (shl .u32 (IntKind.wrap .u32 ((bits .or .i64 a1 (128 : Int)))) (8 : Int)) (127 : Int)), none)
            else
              some ((0 : Int), (some (22 : Int)))
          else
            some ((0 : Int), (some (22 : Int)))
  else
    if a0 = (1 : Int) then
      (status_signal.f a1).bind fun t47 =>
      if t47 = true then
        some ((IntKind.wrap .u32 (a1)), none)
      else
        if a0 = (2 : Int) then
          (status_signal.f a1).bind fun t50 =>
          if t50 = true then
            some ((bits .or .u32 (shl .u32 (IntKind.wrap .u32 (a1)) (8 : Int)) (127 : Int)), none)
          else
            if a0 = (3 : Int) then
              (status_signal.f a1).bind fun t53 =>
              if t53 = true then
                some ((bits .or .u32 (shl .u32 (IntKind.wrap .u32 ((bits .or .i64 a1 (128 : Int)))) (8 : Int)) (127 : Int)), none)
              else
                some ((0 : Int), (some (22 : Int)))
            else
              some ((0 : Int), (some (22 : Int)))
        else
          if a0 = (3 : Int) then
            (status_signal.f a1).bind fun t56 =>
            if t56 = true then
              some ((bits .or .u32 (shl .u32 (IntKind.wrap .u32 ((bits .or .i64 a1 (128 : Int)))) (8 : Int)) (127 : Int)), none)
            else
              some ((0 : Int), (some (22 : Int)))
          else
            some ((0 : Int), (some (22 : Int)))
    else
      if a0 = (2 : Int) then
        (status_signal.f a1).bind fun t59 =>
        if t59 = true then
          some ((bits .or .u32 (shl .u32 (IntKind.wrap .u32 (a1)) (8 : Int)) (127 : Int)), none)
        else
          if a0 = (3 : Int) then
            (status_signal.f a1).bind fun t62 =>
            if t62 = true then
              some ((bits .or .u32 (shl .u32 (IntKind.wrap .u32 ((bits .or .i64 a1 (128 : Int)))) (8 : Int)) (127 : Int)), none)
            else
              some ((0 : Int), (some (22 : Int)))
          else
            some ((0 : Int), (some (22 : Int)))
      else
        if a0 = (3 : Int) then
          (status_signal.f a1).bind fun t65 =>
          if t65 = true then
            some ((bits .or .u32 (shl .u32 (IntKind.wrap .u32 ((bits .or .i64 a1 (128 : Int)))) (8 : Int)) (127 : Int)), none)
          else
            some ((0 : Int), (some (22 : Int)))
        else
          some ((0 : Int), (some (22 : Int)))
def status_Of.R (r : Int × (Option Int)) : Tm := .tup [.one (.sc (.int .u32 r.1)), .one (.err r.2)]
theorem status_Of.fun_ {a0 : Int} {a1 : Int} {r : Int × (Option Int)} (h : status_Of.f a0 a1 = some r) : Fun cfg 56 [.one (.sc (.int .i64 a0)), .one (.sc (.int .i64 a1))] [] (status_Of.R r) [] := by
  unfold status_Of.f at h
  refine fun_of_run cfg_ok (f := 56) (fn := Tryd.f56) Tryd.func56 rfl (by kernel_rfl) (rs := [.tmp 4, .tmp 5]) rfl (nt := 53) rfl (l := fin) (k := (.br (.one true (.one true (.br (.one true (.one true (.br (.adj [] (.adj [] (.adj [] .nil))) (.br (.one true (.call true [] (Bool) (fun t5 => status_signal.R t5) (fun t5 => (.one true (.br (.adj [] (.adj [] (.adj [] .nil))) (.br (.one true (.call true [] (Bool) (fun t8 => status_signal.R t8) (fun t8 => (.one true (.br (.adj [] (.adj [] (.adj [] .nil))) (.br (.one true (.call true [] (Bool) (fun t11 => status_signal.R t11) (fun t11 => (.one true (.br (.adj [] (.adj [] (.adj [] .nil))) (.adj [] (.adj [] (.adj [] (.adj [] .nil))))))))) (.one false (.one false (.one false (.adj [] (.adj [] (.adj [] (.adj [] .nil))))))))))))) (.one false (.one false (.one false (.br (.one true (.call true [] (Bool) (fun t14 => status_signal.R t14) (fun t14 => (.one true (.br (.adj [] (.adj [] (.adj [] .nil))) (.adj [] (.adj [] (.adj [] (.adj [] .nil))))))))) (.one false (.one false (.one false (.adj [] (.adj [] (.adj [] (.adj [] .nil))))))))))))))))) (.one false (.one false (.one false (.br (.one true (.call true [] (Bool) (fun t17 => status_signal.R t17) (fun t17 => (.one true (.br (.adj [] (.adj [] (.adj [] .nil))) (.br (.one true (.call true [] (Bool) (fun t20 => status_signal.R t20) (fun t20 => (.one true (.br (.adj [] (.adj [] (.adj [] .nil))) (.adj [] (.adj [] (.adj [] (.adj [] .nil))))))))) (.one false (.one false (.one false (.adj [] (.adj [] (.adj [] (.adj [] .nil))))))))))))) (.one false (.one false (.one false (.br (.one true (.call true [] (Bool) (fun t23 => status_signal.R t23) (fun t23 => (.one true (.br (.adj [] (.adj [] (.adj [] .nil))) (.adj [] (.adj [] (.adj [] (.adj [] .nil))))))))) (.one false (.one false (.one false (.adj [] (.adj [] (.adj [] (.adj [] .nil))))))))))))))))))) (.one false (.one false (.one false (.br (.one true (.call true [] (Bool) (fun t26 => status_signal.R t26) (fun t26 => (.one true (.br (.adj [] (.adj [] (.adj [] .nil))) (.br (.one true (.call true [] (Bool) (fun t29 => status_signal.R t29) (fun t29 => (.one true (.br (.adj [] (.adj [] (.adj [] .nil))) (.br (.one true (.call true [] (Bool) (fun t32 => status_signal.R t32) (fun t32 => (.one true (.br (.adj [] (.adj [] (.adj [] .nil))) (.adj [] (.adj [] (.adj [] (.adj [] .nil))))))))) (.one false (.one false (.one false (.adj [] (.adj [] (.adj [] (.adj [] .nil))))))))))))) (.one false (.one false (.one false (.br (.one true (.call true [] (Bool) (fun t35 => status_signal.R t35) (fun t35 => (.one true (.br (.adj [] (.adj [] (.adj [] .nil))) (.adj [] (.adj [] (.adj [] (.adj [] .nil))))))))) (.one false (.one false (.one false (.adj [] (.adj [] (.adj [] (.adj [] .nil))))))))))))))))) (.one false (.one false (.one false (.br (.one true (.call true [] (Bool) (fun t38 => status_signal.R t38) (fun t38 => (.one true (.br (.adj [] (.adj [] (.adj [] .nil))) (.br (.one true (.call true [] (Bool) (fun t41 => status_signal.R t41) (fun t41 => (.one true (.br (.adj [] (.adj [] (.adj [] .nil))) (.adj [] (.adj [] (.adj [] (.adj [] .nil))))))))) (.one false (.one false (.one false (.adj [] (.adj [] (.adj [] (.adj [] .nil))))))))))))) (.one false (.one false (.one false (.br (.one true (.call true [] (Bool) (fun t44 => status_signal.R t44) (fun t44 => (.one true (.br (.adj [] (.adj [] (.adj [] .nil))) (.adj [] (.adj [] (.adj [] (.adj [] .nil))))))))) (.one false (.one false (.one false (.adj [] (.adj [] (.adj [] (.adj [] .nil)))))))))))))))))))))) (.one false (.one false (.one false (.one false (.one false (.one false (.br (.one true (.call true [] (Bool) (fun t47 => status_signal.R t47) (fun t47 => (.one true (.br (.adj [] (.adj [] (.adj [] .nil))) (.br (.one true (.call true [] (Bool) (fun t50 => status_signal.R t50) (fun t50 => (.one true (.br (.adj [] (.adj [] (.adj [] .nil))) (.br (.one true (.call true [] (Bool) (fun t53 => status_signal.R t53) (fun t53 => (.one true (.br (.adj [] (.adj [] (.adj [] .nil))) (.adj [] (.adj [] (.adj [] (.adj [] .nil))))))))) (.one false (.one false (.one false (.adj [] (.adj [] (.adj [] (.adj [] .nil))))))))))))) (.one false (.one false (.one false (.br (.one true (.call true [] (Bool) (fun t56 => status_signal.R t56) (fun t56 => (.one true (.br (.adj [] (.adj [] (.adj [] .nil))) (.adj [] (.adj [] (.adj [] (.adj [] .nil))))))))) (.one false (.one false (.one false (.adj [] (.adj [] (.adj [] (.adj [] .nil))))))))))))))))) (.one false (.one false (.one false (.br (.one true (.call true [] (Bool) (fun t59 => status_signal.R t59) (fun t59 => (.one true (.br (.adj [] (.adj [] (.adj [] .nil))) (.br (.one true (.call true [] (Bool) (fun t62 => status_signal.R t62) (fun t62 => (.one true (.br (.adj [] (.adj [] (.adj [] .nil))) (.adj [] (.adj [] (.adj [] (.adj [] .nil))))))))) (.one false (.one false (.one false (.adj [] (.adj [] (.adj [] (.adj [] .nil))))))))))))) (.one false (.one false (.one false (.br (.one true (.call true [] (Bool) (fun t65 => status_signal.R t65) (fun t65 => (.one true (.br (.adj [] (.adj [] (.adj [] .nil))) (.adj [] (.adj [] (.adj [] (.adj [] .nil))))))))) (.one false (.one false (.one false (.adj [] (.adj [] (.adj [] (.adj [] .nil)))))))))))))))))))))))) (to_goal (q := (True) ∧ (((a0 == (0 : Int)) = true → ((a0 == (0 : Int)) = true ∧ (True) ∧ ((a0 == (0 : Int)) = true ∧ (((decide (a1 ≥ (0 : Int))) = true → ((decide (a1 ≥ (0 : Int))) = true ∧ (True) ∧ ((decide (a1 ≥ (0 : Int))) = true ∧ (((decide (a1 < (256 : Int))) = true → (True ∧ (True) ∧ (0 ≤ (8 : Int)) ∧ (True ∧ ((True) ∧ (True) ∧ (.tup [.one (.sc (.int .u32 (shl .u32 (IntKind.wrap .u32 (a1)) (8 : Int)))), .one (.err none)] : Tm) = status_Of.R r ∧ ([] : List Box) = [])))) ∧ ((decide (a1 < (256 : Int))) = false → (True) ∧ (((a0 == (1 : Int)) = true → ((a0 == (1 : Int)) = true ∧ (∃ t5 : Bool, (Fun cfg 62 [.one (.sc (.int .i64 a1))] [] (status_signal.R t5) [] ∧ True) ∧ ((a0 == (1 : Int)) = true ∧ ((t5 = true → (True ∧ (True) ∧ (True ∧ ((True) ∧ (True) ∧ (.tup [.one (.sc (.int .u32 (IntKind.wrap .u32 (a1)))), .one (.err none)] : Tm) = status_Of.R r ∧ ([] : List Box) = [])))) ∧ (t5 = false → (True) ∧ (((a0 == (2 : Int)) = true → ((a0 == (2 : Int)) = true ∧ (∃ t8 : Bool, (Fun cfg 62 [.one (.sc (.int .i64 a1))] [] (status_signal.R t8) [] ∧ True) ∧ ((a0 == (2 : Int)) = true ∧ ((t8 = true → (True ∧ (True) ∧ (0 ≤ (8 : Int)) ∧ (True) ∧ (True ∧ ((True) ∧ (True) ∧ (.tup [.one (.sc (.int .u32 (bits .or .u32 (shl .u32 (IntKind.wrap .u32 (a1)) (8 : Int)) (127 : Int)))), .one (.err none)] : Tm) = status_Of.R r ∧ ([] : List Box) = [])))) ∧ (t8 = false → (True) ∧ (((a0 == (3 : Int)) = true → ((a0 == (3 : Int)) = true ∧ (∃ t11 : Bool, (Fun cfg 62 [.one (.sc (.int .i64 a1))] [] (status_signal.R t11) [] ∧ True) ∧ ((a0 == (3 : Int)) = true ∧ ((t11 = true → (True ∧ (True) ∧ (True) ∧ (0 ≤ (8 : Int)) ∧ (True) ∧ (True ∧ ((True) ∧ (True) ∧ (.tup [.one (.sc (.int .u32 (bits .or .u32 (shl .u32 (IntKind.wrap .u32 ((bits .or .i64 a1 (128 : Int)))) (8 : Int)) (127 : Int)))), .one (.err none)] : Tm) = status_Of.R r ∧ ([] : List Box) = [])))) ∧ (t11 = false → (True ∧ (True ∧ (True ∧ ((True) ∧ (True) ∧ (.tup [.one (.sc (.int .u32 (0 : Int))), .one (.err (some (22 : Int)))] : Tm) = status_Of.R r ∧ ([] : List Box) = [])))))))))) ∧ ((a0 == (3 : Int)) = false → ((a0 == (3 : Int)) = false ∧ ((a0 == (3 : Int)) = false ∧ (false = false ∧ (True ∧ (True ∧ (True ∧ ((True) ∧ (True) ∧ (.tup [.one (.sc (.int .u32 (0 : Int))), .one (.err (some (22 : Int)))] : Tm) = status_Of.R r ∧ ([] : List Box) = []))))))))))))))) ∧ ((a0 == (2 : Int)) = false → ((a0 == (2 : Int)) = false ∧ ((a0 == (2 : Int)) = false ∧ (false = false ∧ (True) ∧ (((a0 == (3 : Int)) = true → ((a0 == (3 : Int)) = true ∧ (∃ t14 : Bool, (Fun cfg 62 [.one (.sc (.int .i64 a1))] [] (status_signal.R t14) [] ∧ True) ∧ ((a0 == (3 : Int)) = true ∧ ((t14 = true → (True ∧ (True) ∧ (True) ∧ (0 ≤ (8 : Int)) ∧ (True) ∧ (True ∧ ((True) ∧ (True) ∧ (.tup [.one (.sc (.int .u32 (bits .or .u32 (shl .u32 (IntKind.wrap .u32 ((bits .or .i64 a1 (128 : Int)))) (8 : Int)) (127 : Int)))), .one (.err none)] : Tm) = status_Of.R r ∧ ([] : List Box) = [])))) ∧ (t14 = false → (True ∧ (True ∧ (True ∧ ((True) ∧ (True) ∧ (.tup [.one (.sc (.int .u32 (0 : Int))), .one (.err (some (22 : Int)))] : Tm) = status_Of.R r ∧ ([] : List Box) = [])))))))))) ∧ ((a0 == (3 : Int)) = false → ((a0 == (3 : Int)) = false ∧ ((a0 == (3 : Int)) = false ∧ (false = false ∧ (True ∧ (True ∧ (True ∧ ((True) ∧ (True) ∧ (.tup [.one (.sc (.int .u32 (0 : Int))), .one (.err (some (22 : Int)))] : Tm) = status_Of.R r ∧ ([] : List Box) = [])))))))))))))))))))) ∧ ((a0 == (1 : Int)) = false → ((a0 == (1 : Int)) = false ∧ ((a0 == (1 : Int)) = false ∧ (false = false ∧ (True) ∧ (((a0 == (2 : Int)) = true → ((a0 == (2 : Int)) = true ∧ (∃ t17 : Bool, (Fun cfg 62 [.one (.sc (.int .i64 a1))] [] (status_signal.R t17) [] ∧ True) ∧ ((a0 == (2 : Int)) = true ∧ ((t17 = true → (True ∧ (True) ∧ (0 ≤ (8 : Int)) ∧ (True) ∧ (True ∧ ((True) ∧ (True) ∧ (.tup [.one (.sc (.int .u32 (bits .or .u32 (shl .u32 (IntKind.wrap .u32 (a1)) (8 : Int)) (127 : Int)))), .one (.err none)] : Tm) = status_Of.R r ∧ ([] : List Box) = [])))) ∧ (t17 = false → (True) ∧ (((a0 == (3 : Int)) = true → ((a0 == (3 : Int)) = true ∧ (∃ t20 : Bool, (Fun cfg 62 [.one (.sc (.int .i64 a1))] [] (status_signal.R t20) [] ∧ True) ∧ ((a0 == (3 : Int)) = true ∧ ((t20 = true → (True ∧ (True) ∧ (True) ∧ (0 ≤ (8 : Int)) ∧ (True) ∧ (True ∧ ((True) ∧ (True) ∧ (.tup [.one (.sc (.int .u32 (bits .or .u32 (shl .u32 (IntKind.wrap .u32 ((bits .or .i64 a1 (128 : Int)))) (8 : Int)) (127 : Int)))), .one (.err none)] : Tm) = status_Of.R r ∧ ([] : List Box) = [])))) ∧ (t20 = false → (True ∧ (True ∧ (True ∧ ((True) ∧ (True) ∧ (.tup [.one (.sc (.int .u32 (0 : Int))), .one (.err (some (22 : Int)))] : Tm) = status_Of.R r ∧ ([] : List Box) = [])))))))))) ∧ ((a0 == (3 : Int)) = false → ((a0 == (3 : Int)) = false ∧ ((a0 == (3 : Int)) = false ∧ (false = false ∧ (True ∧ (True ∧ (True ∧ ((True) ∧ (True) ∧ (.tup [.one (.sc (.int .u32 (0 : Int))), .one (.err (some (22 : Int)))] : Tm) = status_Of.R r ∧ ([] : List Box) = []))))))))))))))) ∧ ((a0 == (2 : Int)) = false → ((a0 == (2 : Int)) = false ∧ ((a0 == (2 : Int)) = false ∧ (false = false ∧ (True) ∧ (((a0 == (3 : Int)) = true → ((a0 == (3 : Int)) = true ∧ (∃ t23 : Bool, (Fun cfg 62 [.one (.sc (.int .i64 a1))] [] (status_signal.R t23) [] ∧ True) ∧ ((a0 == (3 : Int)) = true ∧ ((t23 = true → (True ∧ (True) ∧ (True) ∧ (0 ≤ (8 : Int)) ∧ (True) ∧ (True ∧ ((True) ∧ (True) ∧ (.tup [.one (.sc (.int .u32 (bits .or .u32 (shl .u32 (IntKind.wrap .u32 ((bits .or .i64 a1 (128 : Int)))) (8 : Int)) (127 : Int)))), .one (.err none)] : Tm) = status_Of.R r ∧ ([] : List Box) = [])))) ∧ (t23 = false → (True ∧ (True ∧ (True ∧ ((True) ∧ (True) ∧ (.tup [.one (.sc (.int .u32 (0 : Int))), .one (.err (some (22 : Int)))] : Tm) = status_Of.R r ∧ ([] : List Box) = [])))))))))) ∧ ((a0 == (3 : Int)) = false → ((a0 == (3 : Int)) = false ∧ ((a0 == (3 : Int)) = false ∧ (false = false ∧ (True ∧ (True ∧ (True ∧ ((True) ∧ (True) ∧ (.tup [.one (.sc (.int .u32 (0 : Int))), .one (.err (some (22 : Int)))] : Tm) = status_Of.R r ∧ ([] : List Box) = [])))))))))))))))))))))))) ∧ ((decide (a1 ≥ (0 : Int))) = false → ((decide (a1 ≥ (0 : Int))) = false ∧ ((decide (a1 ≥ (0 : Int))) = false ∧ (false = false ∧ (True) ∧ (((a0 == (1 : Int)) = true → ((a0 == (1 : Int)) = true ∧ (∃ t26 : Bool, (Fun cfg 62 [.one (.sc (.int .i64 a1))] [] (status_signal.R t26) [] ∧ True) ∧ ((a0 == (1 : Int)) = true ∧ ((t26 = true → (True ∧ (True) ∧ (True ∧ ((True) ∧ (True) ∧ (.tup [.one (.sc (.int .u32 (IntKind.wrap .u32 (a1)))), .one (.err none)] : Tm) = status_Of.R r ∧ ([] : List Box) = [])))) ∧ (t26 = false → (True) ∧ (((a0 == (2 : Int)) = true → ((a0 == (2 : Int)) = true ∧ (∃ t29 : Bool, (Fun cfg 62 [.one (.sc (.int .i64 a1))] [] (status_signal.R t29) [] ∧ True) ∧ ((a0 == (2 : Int)) = true ∧ ((t29 = true → (True ∧ (True) ∧ (0 ≤ (8 : Int)) ∧ (True) ∧ (True ∧ ((True) ∧ (True) ∧ (.tup [.one (.sc (.int .u32 (bits .or .u32 (shl .u32 (IntKind.wrap .u32 (a1)) (8 : Int)) (127 : Int)))), .one (.err none)] : Tm) = status_Of.R r ∧ ([] : List Box) = [])))) ∧ (t29 = false → (True) ∧ (((a0 == (3 : Int)) = true → ((a0 == (3 : Int)) = true ∧ (∃ t32 : Bool, (Fun cfg 62 [.one (.sc (.int .i64 a1))] [] (status_signal.R t32) [] ∧ True) ∧ ((a0 == (3 : Int)) = true ∧ ((t32 = true → (True ∧ (True) ∧ (True) ∧ (0 ≤ (8 : Int)) ∧ (True) ∧ (True ∧ ((True) ∧ (True) ∧ (.tup [.one (.sc (.int .u32 (bits .or .u32 (shl .u32 (IntKind.wrap .u32 ((bits .or .i64 a1 (128 : Int)))) (8 : Int)) (127 : Int)))), .one (.err none)] : Tm) = status_Of.R r ∧ ([] : List Box) = [])))) ∧ (t32 = false → (True ∧ (True ∧ (True ∧ ((True) ∧ (True) ∧ (.tup [.one (.sc (.int .u32 (0 : Int))), .one (.err (some (22 : Int)))] : Tm) = status_Of.R r ∧ ([] : List Box) = [])))))))))) ∧ ((a0 == (3 : Int)) = false → ((a0 == (3 : Int)) = false ∧ ((a0 == (3 : Int)) = false ∧ (false = false ∧ (True ∧ (True ∧ (True ∧ ((True) ∧ (True) ∧ (.tup [.one (.sc (.int .u32 (0 : Int))), .one (.err (some (22 : Int)))] : Tm) = status_Of.R r ∧ ([] : List Box) = []))))))))))))))) ∧ ((a0 == (2 : Int)) = false → ((a0 == (2 : Int)) = false ∧ ((a0 == (2 : Int)) = false ∧ (false = false ∧ (True) ∧ (((a0 == (3 : Int)) = true → ((a0 == (3 : Int)) = true ∧ (∃ t35 : Bool, (Fun cfg 62 [.one (.sc (.int .i64 a1))] [] (status_signal.R t35) [] ∧ True) ∧ ((a0 == (3 : Int)) = true ∧ ((t35 = true → (True ∧ (True) ∧ (True) ∧ (0 ≤ (8 : Int)) ∧ (True) ∧ (True ∧ ((True) ∧ (True) ∧ (.tup [.one (.sc (.int .u32 (bits .or .u32 (shl .u32 (IntKind.wrap .u32 ((bits .or .i64 a1 (128 : Int)))) (8 : Int)) (127 : Int)))), .one (.err none)] : Tm) = status_Of.R r ∧ ([] : List Box) = [])))) ∧ (t35 = false → (True ∧ (True ∧ (True ∧ ((True) ∧ (True) ∧ (.tup [.one (.sc (.int .u32 (0 : Int))), .one (.err (some (22 : Int)))] : Tm) = status_Of.R r ∧ ([] : List Box) = [])))))))))) ∧ ((a0 == (3 : Int)) = false → ((a0 == (3 : Int)) = false ∧ ((a0 == (3 : Int)) = false ∧ (false = false ∧ (True ∧ (True ∧ (True ∧ ((True) ∧ (True) ∧ (.tup [.one (.sc (.int .u32 (0 : Int))), .one (.err (some (22 : Int)))] : Tm) = status_Of.R r ∧ ([] : List Box) = [])))))))))))))))))))) ∧ ((a0 == (1 : Int)) = false → ((a0 == (1 : Int)) = false ∧ ((a0 == (1 : Int)) = false ∧ (false = false ∧ (True) ∧ (((a0 == (2 : Int)) = true → ((a0 == (2 : Int)) = true ∧ (∃ t38 : Bool, (Fun cfg 62 [.one (.sc (.int .i64 a1))] [] (status_signal.R t38) [] ∧ True) ∧ ((a0 == (2 : Int)) = true ∧ ((t38 = true → (True ∧ (True) ∧ (0 ≤ (8 : Int)) ∧ (True) ∧ (True ∧ ((True) ∧ (True) ∧ (.tup [.one (.sc (.int .u32 (bits .or .u32 (shl .u32 (IntKind.wrap .u32 (a1)) (8 : Int)) (127 : Int)))), .one (.err none)] : Tm) = status_Of.R r ∧ ([] : List Box) = [])))) ∧ (t38 = false → (True) ∧ (((a0 == (3 : Int)) = true → ((a0 == (3 : Int)) = true ∧ (∃ t41 : Bool, (Fun cfg 62 [.one (.sc (.int .i64 a1))] [] (status_signal.R t41) [] ∧ True) ∧ ((a0 == (3 : Int)) = true ∧ ((t41 = true → (True ∧ (True) ∧ (True) ∧ (0 ≤ (8 : Int)) ∧ (True) ∧ (True ∧ ((True) ∧ (True) ∧ (.tup [.one (.sc (.int .u32 (bits .or .u32 (shl .u32 (IntKind.wrap .u32 ((bits .or .i64 a1 (128 : Int)))) (8 : Int)) (127 : Int)))), .one (.err none)] : Tm) = status_Of.R r ∧ ([] : List Box) = [])))) ∧ (t41 = false → (True ∧ (True ∧ (True ∧ ((True) ∧ (True) ∧ (.tup [.one (.sc (.int .u32 (0 : Int))), .one (.err (some (22 : Int)))] : Tm) = status_Of.R r ∧ ([] : List Box) = [])))))))))) ∧ ((a0 == (3 : Int)) = false → ((a0 == (3 : Int)) = false ∧ ((a0 == (3 : Int)) = false ∧ (false = false ∧ (True ∧ (True ∧ (True ∧ ((True) ∧ (True) ∧ (.tup [.one (.sc (.int .u32 (0 : Int))), .one (.err (some (22 : Int)))] : Tm) = status_Of.R r ∧ ([] : List Box) = []))))))))))))))) ∧ ((a0 == (2 : Int)) = false → ((a0 == (2 : Int)) = false ∧ ((a0 == (2 : Int)) = false ∧ (false = false ∧ (True) ∧ (((a0 == (3 : Int)) = true → ((a0 == (3 : Int)) = true ∧ (∃ t44 : Bool, (Fun cfg 62 [.one (.sc (.int .i64 a1))] [] (status_signal.R t44) [] ∧ True) ∧ ((a0 == (3 : Int)) = true ∧ ((t44 = true → (True ∧ (True) ∧ (True) ∧ (0 ≤ (8 : Int)) ∧ (True) ∧ (True ∧ ((True) ∧ (True) ∧ (.tup [.one (.sc (.int .u32 (bits .or .u32 (shl .u32 (IntKind.wrap .u32 ((bits .or .i64 a1 (128 : Int)))) (8 : Int)) (127 : Int)))), .one (.err none)] : Tm) = status_Of.R r ∧ ([] : List Box) = [])))) ∧ (t44 = false → (True ∧ (True ∧ (True ∧ ((True) ∧ (True) ∧ (.tup [.one (.sc (.int .u32 (0 : Int))), .one (.err (some (22 : Int)))] : Tm) = status_Of.R r ∧ ([] : List Box) = [])))))))))) ∧ ((a0 == (3 : Int)) = false → ((a0 == (3 : Int)) = false ∧ ((a0 == (3 : Int)) = false ∧ (false = false ∧ (True ∧ (True ∧ (True ∧ ((True) ∧ (True) ∧ (.tup [.one (.sc (.int .u32 (0 : Int))), .one (.err (some (22 : Int)))] : Tm) = status_Of.R r ∧ ([] : List Box) = []))))))))))))))))))))))))))) ∧ ((a0 == (0 : Int)) = false → ((a0 == (0 : Int)) = false ∧ ((a0 == (0 : Int)) = false ∧ (false = false ∧ (false = false ∧ (false = false ∧ (false = false ∧ (True) ∧ (((a0 == (1 : Int)) = true → ((a0 == (1 : Int)) = true ∧ (∃ t47 : Bool, (Fun cfg 62 [.one (.sc (.int .i64 a1))] [] (status_signal.R t47) [] ∧ True) ∧ ((a0 == (1 : Int)) = true ∧ ((t47 = true → (True ∧ (True) ∧ (True ∧ ((True) ∧ (True) ∧ (.tup [.one (.sc (.int .u32 (IntKind.wrap .u32 (a1)))), .one (.err none)] : Tm) = status_Of.R r ∧ ([] : List Box) = [])))) ∧ (t47 = false → (True) ∧ (((a0 == (2 : Int)) = true → ((a0 == (2 : Int)) = true ∧ (∃ t50 : Bool, (Fun cfg 62 [.one (.sc (.int .i64 a1))] [] (status_signal.R t50) [] ∧ True) ∧ ((a0 == (2 : Int)) = true ∧ ((t50 = true → (True ∧ (True) ∧ (0 ≤ (8 : Int)) ∧ (True) ∧ (True ∧ ((True) ∧ (True) ∧ (.tup [.one (.sc (.int .u32 (bits .or .u32 (shl .u32 (IntKind.wrap .u32 (a1)) (8 : Int)) (127 : Int)))), .one (.err none)] : Tm) = status_Of.R r ∧ ([] : List Box) = [])))) ∧ (t50 = false → (True) ∧ (((a0 == (3 : Int)) = true → ((a0 == (3 : Int)) = true ∧ (∃ t53 : Bool, (Fun cfg 62 [.one (.sc (.int .i64 a1))] [] (status_signal.R t53) [] ∧ True) ∧ ((a0 == (3 : Int)) = true ∧ ((t53 = true → (True ∧ (True) ∧ (True) ∧ (0 ≤ (8 : Int)) ∧ (True) ∧ (True ∧ ((True) ∧ (True) ∧ (.tup [.one (.sc (.int .u32 (bits .or .u32 (shl .u32 (IntKind.wrap .u32 ((bits .or .i64 a1 (128 : Int)))) (8 : Int)) (127 : Int)))), .one (.err none)] : Tm) = status_Of.R r ∧ ([] : List Box) = [])))) ∧ (t53 = false → (True ∧ (True ∧ (True ∧ ((True) ∧ (True) ∧ (.tup [.one (.sc (.int .u32 (0 : Int))), .one (.err (some (22 : Int)))] : Tm) = status_Of.R r ∧ ([] : List Box) = [])))))))))) ∧ ((a0 == (3 : Int)) = false → ((a0 == (3 : Int)) = false ∧ ((a0 == (3 : Int)) = false ∧ (false = false ∧ (True ∧ (True ∧ (True ∧ ((True) ∧ (True) ∧ (.tup [.one (.sc (.int .u32 (0 : Int))), .one (.err (some (22 : Int)))] : Tm) = status_Of.R r ∧ ([] : List Box) = []))))))))))))))) ∧ ((a0 == (2 : Int)) = false → ((a0 == (2 : Int)) = false ∧ ((a0 == (2 : Int)) = false ∧ (false = false ∧ (True) ∧ (((a0 == (3 : Int)) = true → ((a0 == (3 : Int)) = true ∧ (∃ t56 : Bool, (Fun cfg 62 [.one (.sc (.int .i64 a1))] [] (status_signal.R t56) [] ∧ True) ∧ ((a0 == (3 : Int)) = true ∧ ((t56 = true → (True ∧ (True) ∧ (True) ∧ (0 ≤ (8 : Int)) ∧ (True) ∧ (True ∧ ((True) ∧ (True) ∧ (.tup [.one (.sc (.int .u32 (bits .or .u32 (shl .u32 (IntKind.wrap .u32 ((bits .or .i64 a1 (128 : Int)))) (8 : Int)) (127 : Int)))), .one (.err none)] : Tm) = status_Of.R r ∧ ([] : List Box) = [])))) ∧ (t56 = false → (True ∧ (True ∧ (True ∧ ((True) ∧ (True) ∧ (.tup [.one (.sc (.int .u32 (0 : Int))), .one (.err (some (22 : Int)))] : Tm) = status_Of.R r ∧ ([] : List Box) = [])))))))))) ∧ ((a0 == (3 : Int)) = false → ((a0 == (3 : Int)) = false ∧ ((a0 == (3 : Int)) = false ∧ (false = false ∧ (True ∧ (True ∧ (True ∧ ((True) ∧ (True) ∧ (.tup [.one (.sc (.int .u32 (0 : Int))), .one (.err (some (22 : Int)))] : Tm) = status_Of.R r ∧ ([] : List Box) = [])))))))))))))))))))) ∧ ((a0 == (1 : Int)) = false → ((a0 == (1 : Int)) = false ∧ ((a0 == (1 : Int)) = false ∧ (false = false ∧ (True) ∧ (((a0 == (2 : Int)) = true → ((a0 == (2 : Int)) = true ∧ (∃ t59 : Bool, (Fun cfg 62 [.one (.sc (.int .i64 a1))] [] (status_signal.R t59) [] ∧ True) ∧ ((a0 == (2 : Int)) = true ∧ ((t59 = true → (True ∧ (True) ∧ (0 ≤ (8 : Int)) ∧ (True) ∧ (True ∧ ((True) ∧ (True) ∧ (.tup [.one (.sc (.int .u32 (bits .or .u32 (shl .u32 (IntKind.wrap .u32 (a1)) (8 : Int)) (127 : Int)))), .one (.err none)] : Tm) = status_Of.R r ∧ ([] : List Box) = [])))) ∧ (t59 = false → (True) ∧ (((a0 == (3 : Int)) = true → ((a0 == (3 : Int)) = true ∧ (∃ t62 : Bool, (Fun cfg 62 [.one (.sc (.int .i64 a1))] [] (status_signal.R t62) [] ∧ True) ∧ ((a0 == (3 : Int)) = true ∧ ((t62 = true → (True ∧ (True) ∧ (True) ∧ (0 ≤ (8 : Int)) ∧ (True) ∧ (True ∧ ((True) ∧ (True) ∧ (.tup [.one (.sc (.int .u32 (bits .or .u32 (shl .u32 (IntKind.wrap .u32 ((bits .or .i64 a1 (128 : Int)))) (8 : Int)) (127 : Int)))), .one (.err none)] : Tm) = status_Of.R r ∧ ([] : List Box) = [])))) ∧ (t62 = false → (True ∧ (True ∧ (True ∧ ((True) ∧ (True) ∧ (.tup [.one (.sc (.int .u32 (0 : Int))), .one (.err (some (22 : Int)))] : Tm) = status_Of.R r ∧ ([] : List Box) = [])))))))))) ∧ ((a0 == (3 : Int)) = false → ((a0 == (3 : Int)) = false ∧ ((a0 == (3 : Int)) = false ∧ (false = false ∧ (True ∧ (True ∧ (True ∧ ((True) ∧ (True) ∧ (.tup [.one (.sc (.int .u32 (0 : Int))), .one (.err (some (22 : Int)))] : Tm) = status_Of.R r ∧ ([] : List Box) = []))))))))))))))) ∧ ((a0 == (2 : Int)) = false → ((a0 == (2 : Int)) = false ∧ ((a0 == (2 : Int)) = false ∧ (false = false ∧ (True) ∧ (((a0 == (3 : Int)) = true → ((a0 == (3 : Int)) = true ∧ (∃ t65 : Bool, (Fun cfg 62 [.one (.sc (.int .i64 a1))] [] (status_signal.R t65) [] ∧ True) ∧ ((a0 == (3 : Int)) = true ∧ ((t65 = true → (True ∧ (True) ∧ (True) ∧ (0 ≤ (8 : Int)) ∧ (True) ∧ (True ∧ ((True) ∧ (True) ∧ (.tup [.one (.sc (.int .u32 (bits .or .u32 (shl .u32 (IntKind.wrap .u32 ((bits .or .i64 a1 (128 : Int)))) (8 : Int)) (127 : Int)))), .one (.err none)] : Tm) = status_Of.R r ∧ ([] : List Box) = [])))) ∧ (t65 = false → (True ∧ (True ∧ (True ∧ ((True) ∧ (True) ∧ (.tup [.one (.sc (.int .u32 (0 : Int))), .one (.err (some (22 : Int)))] : Tm) = status_Of.R r ∧ ([] : List Box) = [])))))))))) ∧ ((a0 == (3 : Int)) = false → ((a0 == (3 : Int)) = false ∧ ((a0 == (3 : Int)) = false ∧ (false = false ∧ (True ∧ (True ∧ (True ∧ ((True) ∧ (True) ∧ (.tup [.one (.sc (.int .u32 (0 : Int))), .one (.err (some (22 : Int)))] : Tm) = status_Of.R r ∧ ([] : List Box) = [])))))))))))))))))))))))))))) (by kernel_rfl) ?_)
  refine ⟨trivial, ?_⟩
  refine ⟨fun b1 => ?_, fun b1 => ?_⟩
  · rw [if_pos (beq_t b1)] at h
    refine ⟨b1, ?_⟩
    refine ⟨trivial, ?_⟩
    refine ⟨b1, ?_⟩
    refine ⟨fun b2 => ?_, fun b2 => ?_⟩
    · rw [if_pos (of_decide_eq_true b2)] at h
      refine ⟨b2, ?_⟩
      refine ⟨trivial, ?_⟩
      refine ⟨b2, ?_⟩
      refine ⟨fun b3 => ?_, fun b3 => ?_⟩
      · rw [if_pos (of_decide_eq_true b3)] at h
        refine ⟨trivial, ?_⟩
        refine ⟨trivial, ?_⟩
        refine ⟨(by decide), ?_⟩
        refine ⟨trivial, ?_⟩
        obtain rfl := Option.some.inj h
        exact ⟨trivial, trivial, rfl, rfl⟩
      · rw [if_neg (of_decide_eq_false b3)] at h
        refine ⟨trivial, ?_⟩
        refine ⟨fun b4 => ?_, fun b4 => ?_⟩
        · rw [if_pos (beq_t b4)] at h
          refine ⟨b4, ?_⟩
          obtain ⟨t5, ht5, h⟩ := of_bind h
          refine ⟨t5, ⟨status_signal.fun_ ht5, trivial⟩, ?_⟩
          refine ⟨b4, ?_⟩
          refine ⟨fun b6 => ?_, fun b6 => ?_⟩
          · rw [if_pos b6] at h
            refine ⟨trivial, ?_⟩
            refine ⟨trivial, ?_⟩
            refine ⟨trivial, ?_⟩
            obtain rfl := Option.some.inj h
            exact ⟨trivial, trivial, rfl, rfl⟩
          · rw [if_neg (ff b6)] at h
            refine ⟨trivial, ?_⟩
            refine ⟨fun b7 => ?_, fun b7 => ?_⟩
            · rw [if_pos (beq_t b7)] at h
              refine ⟨b7, ?_⟩
              obtain ⟨t8, ht8, h⟩ := of_bind h
              refine ⟨t8, ⟨status_signal.fun_ ht8, trivial⟩, ?_⟩
              refine ⟨b7, ?_⟩
              refine ⟨fun b9 => ?_, fun b9 => ?_⟩
              · rw [if_pos b9] at h
                refine ⟨trivial, ?_⟩
                refine ⟨trivial, ?_⟩
                refine ⟨(by decide), ?_⟩
                refine ⟨trivial, ?_⟩
                refine ⟨trivial, ?_⟩
                obtain rfl := Option.some.inj h
                exact ⟨trivial, trivial, rfl, rfl⟩
              · rw [if_neg (ff b9)] at h
                refine ⟨trivial, ?_⟩
                refine ⟨fun b10 => ?_, fun b10 => ?_⟩
                · rw [if_pos (beq_t b10)] at h
                  refine ⟨b10, ?_⟩
                  obtain ⟨t11, ht11, h⟩ := of_bind h
                  refine ⟨t11, ⟨status_signal.fun_ ht11, trivial⟩, ?_⟩
                  refine ⟨b10, ?_⟩
                  refine ⟨fun b12 => ?_, fun b12 => ?_⟩
                  · rw [if_pos b12] at h
                    refine ⟨trivial, ?_⟩
                    refine ⟨trivial, ?_⟩
                    refine ⟨trivial, ?_⟩
                    refine ⟨(by decide), ?_⟩
                    refine ⟨trivial, ?_⟩
                    refine ⟨trivial, ?_⟩
                    obtain rfl := Option.some.inj h
                    exact ⟨trivial, trivial, rfl, rfl⟩
                  · rw [if_neg (ff b12)] at h
                    refine ⟨trivial, ?_⟩
                    refine ⟨trivial, ?_⟩
                    refine ⟨trivial, ?_⟩
                    obtain rfl := Option.some.inj h
                    exact ⟨trivial, trivial, rfl, rfl⟩
                · rw [if_neg (beq_f b10)] at h
                  refine ⟨b10, ?_⟩
                  refine ⟨b10, ?_⟩
                  refine ⟨rfl, ?_⟩
                  refine ⟨trivial, ?_⟩
                  refine ⟨trivial, ?_⟩
                  refine ⟨trivial, ?_⟩
                  obtain rfl := Option.some.inj h
                  exact ⟨trivial, trivial, rfl, rfl⟩
            · rw [if_neg (beq_f b7)] at h
              refine ⟨b7, ?_⟩
              refine ⟨b7, ?_⟩
              refine ⟨rfl, ?_⟩
              refine ⟨trivial, ?_⟩
              refine ⟨fun b13 => ?_, fun b13 => ?_⟩
              · rw [if_pos (beq_t b13)] at h
                refine ⟨b13, ?_⟩
                obtain ⟨t14, ht14, h⟩ := of_bind h
                refine ⟨t14, ⟨status_signal.fun_ ht14, trivial⟩, ?_⟩
                refine ⟨b13, ?_⟩
                refine ⟨fun b15 => ?_, fun b15 => ?_⟩
                · rw [if_pos b15] at h
                  refine ⟨trivial, ?_⟩
                  refine ⟨trivial, ?_⟩
                  refine ⟨trivial, ?_⟩
                  refine ⟨(by decide), ?_⟩
                  refine ⟨trivial, ?_⟩
                  refine ⟨trivial, ?_⟩
                  obtain rfl := Option.some.inj h
                  exact ⟨trivial, trivial, rfl, rfl⟩
                · rw [if_neg (ff b15)] at h
                  refine ⟨trivial, ?_⟩
                  refine ⟨trivial, ?_⟩
                  refine ⟨trivial, ?_⟩
                  obtain rfl := Option.some.inj h
                  exact ⟨trivial, trivial, rfl, rfl⟩
              · rw [if_neg (beq_f b13)] at h
                refine ⟨b13, ?_⟩
                refine ⟨b13, ?_⟩
                refine ⟨rfl, ?_⟩
                refine ⟨trivial, ?_⟩
                refine ⟨trivial, ?_⟩
                refine ⟨trivial, ?_⟩
                obtain rfl := Option.some.inj h
                exact ⟨trivial, trivial, rfl, rfl⟩
        · rw [if_neg (beq_f b4)] at h
          refine ⟨b4, ?_⟩
          refine ⟨b4, ?_⟩
          refine ⟨rfl, ?_⟩
          refine ⟨trivial, ?_⟩
          refine ⟨fun b16 => ?_, fun b16 => ?_⟩
          · rw [if_pos (beq_t b16)] at h
            refine ⟨b16, ?_⟩
            obtain ⟨t17, ht17, h⟩ := of_bind h
            refine ⟨t17, ⟨status_signal.fun_ ht17, trivial⟩, ?_⟩
            refine ⟨b16, ?_⟩
            refine ⟨fun b18 => ?_, fun b18 => ?_⟩
            · rw [if_pos b18] at h
              refine ⟨trivial, ?_⟩
              refine ⟨trivial, ?_⟩
              refine ⟨(by decide), ?_⟩
              refine ⟨trivial, ?_⟩
              refine ⟨trivial, ?_⟩
              obtain rfl := Option.some.inj h
              exact ⟨trivial, trivial, rfl, rfl⟩
            · rw [if_neg (ff b18)] at h
              refine ⟨trivial, ?_⟩
              refine ⟨fun b19 => ?_, fun b19 => ?_⟩
              · rw [if_pos (beq_t b19)] at h
                refine ⟨b19, ?_⟩
                obtain ⟨t20, ht20, h⟩ := of_bind h
                refine ⟨t20, ⟨status_signal.fun_ ht20, trivial⟩, ?_⟩
                refine ⟨b19, ?_⟩
                refine ⟨fun b21 => ?_, fun b21 => ?_⟩
                · rw [if_pos b21] at h
                  refine ⟨trivial, ?_⟩
                  refine ⟨trivial, ?_⟩
                  refine ⟨trivial, ?_⟩
                  refine ⟨(by decide), ?_⟩
                  refine ⟨trivial, ?_⟩
                  refine ⟨trivial, ?_⟩
                  obtain rfl := Option.some.inj h
                  exact ⟨trivial, trivial, rfl, rfl⟩
                · rw [if_neg (ff b21)] at h
                  refine ⟨trivial, ?_⟩
                  refine ⟨trivial, ?_⟩
                  refine ⟨trivial, ?_⟩
                  obtain rfl := Option.some.inj h
                  exact ⟨trivial, trivial, rfl, rfl⟩
              · rw [if_neg (beq_f b19)] at h
                refine ⟨b19, ?_⟩
                refine ⟨b19, ?_⟩
                refine ⟨rfl, ?_⟩
                refine ⟨trivial, ?_⟩
                refine ⟨trivial, ?_⟩
                refine ⟨trivial, ?_⟩
                obtain rfl := Option.some.inj h
                exact ⟨trivial, trivial, rfl, rfl⟩
          · rw [if_neg (beq_f b16)] at h
            refine ⟨b16, ?_⟩
            refine ⟨b16, ?_⟩
            refine ⟨rfl, ?_⟩
            refine ⟨trivial, ?_⟩
            refine ⟨fun b22 => ?_, fun b22 => ?_⟩
            · rw [if_pos (beq_t b22)] at h
              refine ⟨b22, ?_⟩
              obtain ⟨t23, ht23, h⟩ := of_bind h
              refine ⟨t23, ⟨status_signal.fun_ ht23, trivial⟩, ?_⟩
              refine ⟨b22, ?_⟩
              refine ⟨fun b24 => ?_, fun b24 => ?_⟩
              · rw [if_pos b24] at h
                refine ⟨trivial, ?_⟩
                refine ⟨trivial, ?_⟩
                refine ⟨trivial, ?_⟩
                refine ⟨(by decide), ?_⟩
                refine ⟨trivial, ?_⟩
                refine ⟨trivial, ?_⟩
                obtain rfl := Option.some.inj h
                exact ⟨trivial, trivial, rfl, rfl⟩
              · rw [if_neg (ff b24)] at h
                refine ⟨trivial, ?_⟩
                refine ⟨trivial, ?_⟩
                refine ⟨trivial, ?_⟩
                obtain rfl := Option.some.inj h
                exact ⟨trivial, trivial, rfl, rfl⟩
            · rw [if_neg (beq_f b22)] at h
              refine ⟨b22, ?_⟩
              refine ⟨b22, ?_⟩
              refine ⟨rfl, ?_⟩
              refine ⟨trivial, ?_⟩
              refine ⟨trivial, ?_⟩
              refine ⟨trivial, ?_⟩
              obtain rfl := Option.some.inj h
              exact ⟨trivial, trivial, rfl, rfl⟩
    · rw [if_neg (of_decide_eq_false b2)] at h
      refine ⟨b2, ?_⟩
      refine ⟨b2, ?_⟩
      refine ⟨rfl, ?_⟩
      refine ⟨trivial, ?_⟩
      refine ⟨fun b25 => ?_, fun b25 => ?_⟩
      · rw [if_pos (beq_t b25)] at h
        refine ⟨b25, ?_⟩
        obtain ⟨t26, ht26, h⟩ := of_bind h
        refine ⟨t26, ⟨status_signal.fun_ ht26, trivial⟩, ?_⟩
        refine ⟨b25, ?_⟩
        refine ⟨fun b27 => ?_, fun b27 => ?_⟩
        · rw [if_pos b27] at h
          refine ⟨trivial, ?_⟩
          refine ⟨trivial, ?_⟩
          refine ⟨trivial, ?_⟩
          obtain rfl := Option.some.inj h
          exact ⟨trivial, trivial, rfl, rfl⟩
        · rw [if_neg (ff b27)] at h
          refine ⟨trivial, ?_⟩
          refine ⟨fun b28 => ?_, fun b28 => ?_⟩
          · rw [if_pos (beq_t b28)] at h
            refine ⟨b28, ?_⟩
            obtain ⟨t29, ht29, h⟩ := of_bind h
            refine ⟨t29, ⟨status_signal.fun_ ht29, trivial⟩, ?_⟩
            refine ⟨b28, ?_⟩
            refine ⟨fun b30 => ?_, fun b30 => ?_⟩
            · rw [if_pos b30] at h
              refine ⟨trivial, ?_⟩
              refine ⟨trivial, ?_⟩
              refine ⟨(by decide), ?_⟩
              refine ⟨trivial, ?_⟩
              refine ⟨trivial, ?_⟩
              obtain rfl := Option.some.inj h
              exact ⟨trivial, trivial, rfl, rfl⟩
            · rw [if_neg (ff b30)] at h
              refine ⟨trivial, ?_⟩
              refine ⟨fun b31 => ?_, fun b31 => ?_⟩
              · rw [if_pos (beq_t b31)] at h
                refine ⟨b31, ?_⟩
                obtain ⟨t32, ht32, h⟩ := of_bind h
                refine ⟨t32, ⟨status_signal.fun_ ht32, trivial⟩, ?_⟩
                refine ⟨b31, ?_⟩
                refine ⟨fun b33 => ?_, fun b33 => ?_⟩
                · rw [if_pos b33] at h
                  refine ⟨trivial, ?_⟩
                  refine ⟨trivial, ?_⟩
                  refine ⟨trivial, ?_⟩
                  refine ⟨(by decide), ?_⟩
                  refine ⟨trivial, ?_⟩
                  refine ⟨trivial, ?_⟩
                  obtain rfl := Option.some.inj h
                  exact ⟨trivial, trivial, rfl, rfl⟩
                · rw [if_neg (ff b33)] at h
                  refine ⟨trivial, ?_⟩
                  refine ⟨trivial, ?_⟩
                  refine ⟨trivial, ?_⟩
                  obtain rfl := Option.some.inj h
                  exact ⟨trivial, trivial, rfl, rfl⟩
              · rw [if_neg (beq_f b31)] at h
                refine ⟨b31, ?_⟩
                refine ⟨b31, ?_⟩
                refine ⟨rfl, ?_⟩
                refine ⟨trivial, ?_⟩
                refine ⟨trivial, ?_⟩
                refine ⟨trivial, ?_⟩
                obtain rfl := Option.some.inj h
                exact ⟨trivial, trivial, rfl, rfl⟩
          · rw [if_neg (beq_f b28)] at h
            refine ⟨b28, ?_⟩
            refine ⟨b28, ?_⟩
            refine ⟨rfl, ?_⟩
            refine ⟨trivial, ?_⟩
            refine ⟨fun b34 => ?_, fun b34 => ?_⟩
            · rw [if_pos (beq_t b34)] at h
              refine ⟨b34, ?_⟩
              obtain ⟨t35, ht35, h⟩ := of_bind h
              refine ⟨t35, ⟨status_signal.fun_ ht35, trivial⟩, ?_⟩
              refine ⟨b34, ?_⟩
              refine ⟨fun b36 => ?_, fun b36 => ?_⟩
              · rw [if_pos b36] at h
                refine ⟨trivial, ?_⟩
                refine ⟨trivial, ?_⟩
                refine ⟨trivial, ?_⟩
                refine ⟨(by decide), ?_⟩
                refine ⟨trivial, ?_⟩
                refine ⟨trivial, ?_⟩
                obtain rfl := Option.some.inj h
                exact ⟨trivial, trivial, rfl, rfl⟩
              · rw [if_neg (ff b36)] at h
                refine ⟨trivial, ?_⟩
                refine ⟨trivial, ?_⟩
                refine ⟨trivial, ?_⟩
                obtain rfl := Option.some.inj h
                exact ⟨trivial, trivial, rfl, rfl⟩
            · rw [if_neg (beq_f b34)] at h
              refine ⟨b34, ?_⟩
              refine ⟨b34, ?_⟩
              refine ⟨rfl, ?_⟩
              refine ⟨trivial, ?_⟩
              refine ⟨trivial, ?_⟩
              refine ⟨trivial, ?_⟩
              obtain rfl := Option.some.inj h
              exact ⟨trivial, trivial, rfl, rfl⟩
      · rw [if_neg (beq_f b25)] at h
        refine ⟨b25, ?_⟩
        refine ⟨b25, ?_⟩
        refine ⟨rfl, ?_⟩
        refine ⟨trivial, ?_⟩
        refine ⟨fun b37 => ?_, fun b37 => ?_⟩
        · rw [if_pos (beq_t b37)] at h
          refine ⟨b37, ?_⟩
          obtain ⟨t38, ht38, h⟩ := of_bind h
          refine ⟨t38, ⟨status_signal.fun_ ht38, trivial⟩, ?_⟩
          refine ⟨b37, ?_⟩
          refine ⟨fun b39 => ?_, fun b39 => ?_⟩
          · rw [if_pos b39] at h
            refine ⟨trivial, ?_⟩
            refine ⟨trivial, ?_⟩
            refine ⟨(by decide), ?_⟩
            refine ⟨trivial, ?_⟩
            refine ⟨trivial, ?_⟩
            obtain rfl := Option.some.inj h
            exact ⟨trivial, trivial, rfl, rfl⟩
          · rw [if_neg (ff b39)] at h
            refine ⟨trivial, ?_⟩
            refine ⟨fun b40 => ?_, fun b40 => ?_⟩
            · rw [if_pos (beq_t b40)] at h
              refine ⟨b40, ?_⟩
              obtain ⟨t41, ht41, h⟩ := of_bind h
              refine ⟨t41, ⟨status_signal.fun_ ht41, trivial⟩, ?_⟩
              refine ⟨b40, ?_⟩
              refine ⟨fun b42 => ?_, fun b42 => ?_⟩
              · rw [if_pos b42] at h
                refine ⟨trivial, ?_⟩
                refine ⟨trivial, ?_⟩
                refine ⟨trivial, ?_⟩
                refine ⟨(by decide), ?_⟩
                refine ⟨trivial, ?_⟩
                refine ⟨trivial, ?_⟩
                obtain rfl := Option.some.inj h
                exact ⟨trivial, trivial, rfl, rfl⟩
              · rw [if_neg (ff b42)] at h
                refine ⟨trivial, ?_⟩
                refine ⟨trivial, ?_⟩
                refine ⟨trivial, ?_⟩
                obtain rfl := Option.some.inj h
                exact ⟨trivial, trivial, rfl, rfl⟩
            · rw [if_neg (beq_f b40)] at h
              refine ⟨b40, ?_⟩
              refine ⟨b40, ?_⟩
              refine ⟨rfl, ?_⟩
              refine ⟨trivial, ?_⟩
              refine ⟨trivial, ?_⟩
              refine ⟨trivial, ?_⟩
              obtain rfl := Option.some.inj h
              exact ⟨trivial, trivial, rfl, rfl⟩
        · rw [if_neg (beq_f b37)] at h
          refine ⟨b37, ?_⟩
          refine ⟨b37, ?_⟩
          refine ⟨rfl, ?_⟩
          refine ⟨trivial, ?_⟩
          refine ⟨fun b43 => ?_, fun b43 => ?_⟩
          · rw [if_pos (beq_t b43)] at h
            refine ⟨b43, ?_⟩
            obtain ⟨t44, ht44, h⟩ := of_bind h
            refine ⟨t44, ⟨status_signal.fun_ ht44, trivial⟩, ?_⟩
            refine ⟨b43, ?_⟩
            refine ⟨fun b45 => ?_, fun b45 => ?_⟩
            · rw [if_pos b45] at h
              refine ⟨trivial, ?_⟩
              refine ⟨trivial, ?_⟩
              refine ⟨trivial, ?_⟩
              refine ⟨(by decide), ?_⟩
              refine ⟨trivial, ?_⟩
              refine ⟨trivial, ?_⟩
              obtain rfl := Option.some.inj h
              exact ⟨trivial, trivial, rfl, rfl⟩
            · rw [if_neg (ff b45)] at h
              refine ⟨trivial, ?_⟩
              refine ⟨trivial, ?_⟩
              refine ⟨trivial, ?_⟩
              obtain rfl := Option.some.inj h
              exact ⟨trivial, trivial, rfl, rfl⟩
          · rw [if_neg (beq_f b43)] at h
            refine ⟨b43, ?_⟩
            refine ⟨b43, ?_⟩
            refine ⟨rfl, ?_⟩
            refine ⟨trivial, ?_⟩
            refine ⟨trivial, ?_⟩
            refine ⟨trivial, ?_⟩
            obtain rfl := Option.some.inj h
            exact ⟨trivial, trivial, rfl, rfl⟩
  · rw [if_neg (beq_f b1)] at h
    refine ⟨b1, ?_⟩
    refine ⟨b1, ?_⟩
    refine ⟨rfl, ?_⟩
    refine ⟨rfl, ?_⟩
    refine ⟨rfl, ?_⟩
    refine ⟨rfl, ?_⟩
    refine ⟨trivial, ?_⟩
    refine ⟨fun b46 => ?_, fun b46 => ?_⟩
    · rw [if_pos (beq_t b46)] at h
      refine ⟨b46, ?_⟩
      obtain ⟨t47, ht47, h⟩ := of_bind h
      refine ⟨t47, ⟨status_signal.fun_ ht47, trivial⟩, ?_⟩
      refine ⟨b46, ?_⟩
      refine ⟨fun b48 => ?_, fun b48 => ?_⟩
      · rw [if_pos b48] at h
        refine ⟨trivial, ?_⟩
        refine ⟨trivial, ?_⟩
        refine ⟨trivial, ?_⟩
        obtain rfl := Option.some.inj h
        exact ⟨trivial, trivial, rfl, rfl⟩
      · rw [if_neg (ff b48)] at h
        refine ⟨trivial, ?_⟩
        refine ⟨fun b49 => ?_, fun b49 => ?_⟩
        · rw [if_pos (beq_t b49)] at h
          refine ⟨b49, ?_⟩
          obtain ⟨t50, ht50, h⟩ := of_bind h
          refine ⟨t50, ⟨status_signal.fun_ ht50, trivial⟩, ?_⟩
          refine ⟨b49, ?_⟩
          refine ⟨fun b51 => ?_, fun b51 => ?_⟩
          · rw [if_pos b51] at h
            refine ⟨trivial, ?_⟩
            refine ⟨trivial, ?_⟩
            refine ⟨(by decide), ?_⟩
            refine ⟨trivial, ?_⟩
            refine ⟨trivial, ?_⟩
            obtain rfl := Option.some.inj h
            exact ⟨trivial, trivial, rfl, rfl⟩
          · rw [if_neg (ff b51)] at h
            refine ⟨trivial, ?_⟩
            refine ⟨fun b52 => ?_, fun b52 => ?_⟩
            · rw [if_pos (beq_t b52)] at h
              refine ⟨b52, ?_⟩
              obtain ⟨t53, ht53, h⟩ := of_bind h
              refine ⟨t53, ⟨status_signal.fun_ ht53, trivial⟩, ?_⟩
              refine ⟨b52, ?_⟩
              refine ⟨fun b54 => ?_, fun b54 => ?_⟩
              · rw [if_pos b54] at h
                refine ⟨trivial, ?_⟩
                refine ⟨trivial, ?_⟩
                refine ⟨trivial, ?_⟩
                refine ⟨(by decide), ?_⟩
                refine ⟨trivial, ?_⟩
                refine ⟨trivial, ?_⟩
                obtain rfl := Option.some.inj h
                exact ⟨trivial, trivial, rfl, rfl⟩
              · rw [if_neg (ff b54)] at h
                refine ⟨trivial, ?_⟩
                refine ⟨trivial, ?_⟩
                refine ⟨trivial, ?_⟩
                obtain rfl := Option.some.inj h
                exact ⟨trivial, trivial, rfl, rfl⟩
            · rw [if_neg (beq_f b52)] at h
              refine ⟨b52, ?_⟩
              refine ⟨b52, ?_⟩
              refine ⟨rfl, ?_⟩
              refine ⟨trivial, ?_⟩
              refine ⟨trivial, ?_⟩
              refine ⟨trivial, ?_⟩
              obtain rfl := Option.some.inj h
              exact ⟨trivial, trivial, rfl, rfl⟩
        · rw [if_neg (beq_f b49)] at h
          refine ⟨b49, ?_⟩
          refine ⟨b49, ?_⟩
          refine ⟨rfl, ?_⟩
          refine ⟨trivial, ?_⟩
          refine ⟨fun b55 => ?_, fun b55 => ?_⟩
          · rw [if_pos (beq_t b55)] at h
            refine ⟨b55, ?_⟩
            obtain ⟨t56, ht56, h⟩ := of_bind h
            refine ⟨t56, ⟨status_signal.fun_ ht56, trivial⟩, ?_⟩
            refine ⟨b55, ?_⟩
            refine ⟨fun b57 => ?_, fun b57 => ?_⟩
            · rw [if_pos b57] at h
              refine ⟨trivial, ?_⟩
              refine ⟨trivial, ?_⟩
              refine ⟨trivial, ?_⟩
              refine ⟨(by decide), ?_⟩
              refine ⟨trivial, ?_⟩
              refine ⟨trivial, ?_⟩
              obtain rfl := Option.some.inj h
              exact ⟨trivial, trivial, rfl, rfl⟩
            · rw [if_neg (ff b57)] at h
              refine ⟨trivial, ?_⟩
              refine ⟨trivial, ?_⟩
              refine ⟨trivial, ?_⟩
              obtain rfl := Option.some.inj h
              exact ⟨trivial, trivial, rfl, rfl⟩
          · rw [if_neg (beq_f b55)] at h
            refine ⟨b55, ?_⟩
            refine ⟨b55, ?_⟩
            refine ⟨rfl, ?_⟩
            refine ⟨trivial, ?_⟩
            refine ⟨trivial, ?_⟩
            refine ⟨trivial, ?_⟩
            obtain rfl := Option.some.inj h
            exact ⟨trivial, trivial, rfl, rfl⟩
    · rw [if_neg (beq_f b46)] at h
      refine ⟨b46, ?_⟩
      refine ⟨b46, ?_⟩
      refine ⟨rfl, ?_⟩
      refine ⟨trivial, ?_⟩
      refine ⟨fun b58 => ?_, fun b58 => ?_⟩
      · rw [if_pos (beq_t b58)] at h
        refine ⟨b58, ?_⟩
        obtain ⟨t59, ht59, h⟩ := of_bind h
        refine ⟨t59, ⟨status_signal.fun_ ht59, trivial⟩, ?_⟩
        refine ⟨b58, ?_⟩
        refine ⟨fun b60 => ?_, fun b60 => ?_⟩
        · rw [if_pos b60] at h
          refine ⟨trivial, ?_⟩
          refine ⟨trivial, ?_⟩
          refine ⟨(by decide), ?_⟩
          refine ⟨trivial, ?_⟩
          refine ⟨trivial, ?_⟩
          obtain rfl := Option.some.inj h
          exact ⟨trivial, trivial, rfl, rfl⟩
        · rw [if_neg (ff b60)] at h
          refine ⟨trivial, ?_⟩
          refine ⟨fun b61 => ?_, fun b61 => ?_⟩
          · rw [if_pos (beq_t b61)] at h
            refine ⟨b61, ?_⟩
            obtain ⟨t62, ht62, h⟩ := of_bind h
            refine ⟨t62, ⟨status_signal.fun_ ht62, trivial⟩, ?_⟩
            refine ⟨b61, ?_⟩
            refine ⟨fun b63 => ?_, fun b63 => ?_⟩
            · rw [if_pos b63] at h
              refine ⟨trivial, ?_⟩
              refine ⟨trivial, ?_⟩
              refine ⟨trivial, ?_⟩
              refine ⟨(by decide), ?_⟩
              refine ⟨trivial, ?_⟩
              refine ⟨trivial, ?_⟩
              obtain rfl := Option.some.inj h
              exact ⟨trivial, trivial, rfl, rfl⟩
            · rw [if_neg (ff b63)] at h
              refine ⟨trivial, ?_⟩
              refine ⟨trivial, ?_⟩
              refine ⟨trivial, ?_⟩
              obtain rfl := Option.some.inj h
              exact ⟨trivial, trivial, rfl, rfl⟩
          · rw [if_neg (beq_f b61)] at h
            refine ⟨b61, ?_⟩
            refine ⟨b61, ?_⟩
            refine ⟨rfl, ?_⟩
            refine ⟨trivial, ?_⟩
            refine ⟨trivial, ?_⟩
            refine ⟨trivial, ?_⟩
            obtain rfl := Option.some.inj h
            exact ⟨trivial, trivial, rfl, rfl⟩
      · rw [if_neg (beq_f b58)] at h
        refine ⟨b58, ?_⟩
        refine ⟨b58, ?_⟩
        refine ⟨rfl, ?_⟩
        refine ⟨trivial, ?_⟩
        refine ⟨fun b64 => ?_, fun b64 => ?_⟩
        · rw [if_pos (beq_t b64)] at h
          refine ⟨b64, ?_⟩
          obtain ⟨t65, ht65, h⟩ := of_bind h
          refine ⟨t65, ⟨status_signal.fun_ ht65, trivial⟩, ?_⟩
          refine ⟨b64, ?_⟩
          refine ⟨fun b66 => ?_, fun b66 => ?_⟩
          · rw [if_pos b66] at h
            refine ⟨trivial, ?_⟩
            refine ⟨trivial, ?_⟩
            refine ⟨trivial, ?_⟩
            refine ⟨(by decide), ?_⟩
            refine ⟨trivial, ?_⟩
            refine ⟨trivial, ?_⟩
            obtain rfl := Option.some.inj h
            exact ⟨trivial, trivial, rfl, rfl⟩
          · rw [if_neg (ff b66)] at h
            refine ⟨trivial, ?_⟩
            refine ⟨trivial, ?_⟩
            refine ⟨trivial, ?_⟩
            obtain rfl := Option.some.inj h
            exact ⟨trivial, trivial, rfl, rfl⟩
        · rw [if_neg (beq_f b64)] at h
          refine ⟨b64, ?_⟩
          refine ⟨b64, ?_⟩
          refine ⟨rfl, ?_⟩
          refine ⟨trivial, ?_⟩
          refine ⟨trivial, ?_⟩
          refine ⟨trivial, ?_⟩
          obtain rfl := Option.some.inj h
          exact ⟨trivial, trivial, rfl, rfl⟩
/-! halter/status.What -/
def status_What.f (a0 : Int) : Option (Int × Int × (Option Int)) :=
  (status_kind.f a0).bind fun t1 =>
  (status_Of.f t1.1 t1.2).bind fun t2 =>
  if ¬ (t2.2 = none) then
    some ((0 : Int), (0 : Int), (some (22 : Int)))
  else
    if ¬ t2.1 = a0 then
      some ((0 : Int), (0 : Int), (some (22 : Int)))
    else
      some (t1.1, t1.2, none)
def status_What.R (r : Int × Int × (Option Int)) : Tm := .tup [.one (.sc (.int .i64 r.1)), .one (.sc (.int .i64 r.2.1)), .one (.err r.2.2)]
theorem status_What.fun_ {a0 : Int} {r : Int × Int × (Option Int)} (h : status_What.f a0 = some r) : Fun cfg 46 [.one (.sc (.int .u32 a0))] [] (status_What.R r) [] := by
  unfold status_What.f at h
  refine fun_of_run cfg_ok (f := 46) (fn := Tryd.f46) Tryd.func46 rfl (by kernel_rfl) (rs := [.tmp 2, .tmp 3, .tmp 4]) rfl (nt := 30) rfl (l := fin) (k := (.call true [] (Int × Int) (fun t1 => status_kind.R t1) (fun t1 => (.call true [] (Int × (Option Int)) (fun t2 => status_Of.R t2) (fun t2 => (.br (.one true (.one true (.one true (.one true (.adj [] (.adj [] (.adj [] .nil))))))) (.one false (.one false (.one false (.br (.adj [] (.adj [] (.adj [] .nil))) (.adj [] (.adj [] (.adj [] (.adj [] .nil)))))))))))))) (to_goal (q := (∃ t1 : Int × Int, (Fun cfg 55 [.one (.sc (.int .u32 a0))] [] (status_kind.R t1) [] ∧ True) ∧ (∃ t2 : Int × (Option Int), (Fun cfg 56 [.one (.sc (.int .i64 t1.1)), .one (.sc (.int .i64 t1.2))] [] (status_Of.R t2) [] ∧ True) ∧ (True) ∧ (((!(Option.isNone t2.2)) = false → ((!(Option.isNone t2.2)) = false ∧ ((!(Option.isNone t2.2)) = false ∧ (True) ∧ ((!(Option.isNone t2.2)) = false ∧ (((t2.1 != a0) = true → (True ∧ (True ∧ ((True) ∧ (True) ∧ (.tup [.one (.sc (.int .i64 (0 : Int))), .one (.sc (.int .i64 (0 : Int))), .one (.err (some (22 : Int)))] : Tm) = status_What.R r ∧ ([] : List Box) = [])))) ∧ ((t2.1 != a0) = false → (True ∧ (True ∧ (True ∧ ((True) ∧ (True) ∧ (.tup [.one (.sc (.int .i64 t1.1)), .one (.sc (.int .i64 t1.2)), .one (.err none)] : Tm) = status_What.R r ∧ ([] : List Box) = [])))))))))) ∧ ((!(Option.isNone t2.2)) = true → ((!(Option.isNone t2.2)) = true ∧ ((!(Option.isNone t2.2)) = true ∧ ((!(Option.isNone t2.2)) = true ∧ (true = true ∧ (True ∧ (True ∧ ((True) ∧ (True) ∧ (.tup [.one (.sc (.int .i64 (0 : Int))), .one (.sc (.int .i64 (0 : Int))), .one (.err (some (22 : Int)))] : Tm) = status_What.R r ∧ ([] : List Box) = [])))))))))))) (by kernel_rfl) ?_)
  obtain ⟨t1, ht1, h⟩ := of_bind h
  refine ⟨t1, ⟨status_kind.fun_ ht1, trivial⟩, ?_⟩
  obtain ⟨t2, ht2, h⟩ := of_bind h
  refine ⟨t2, ⟨status_Of.fun_ ht2, trivial⟩, ?_⟩
  refine ⟨trivial, ?_⟩
  refine ⟨fun b3 => ?_, fun b3 => ?_⟩
  · rw [if_neg (not_not_intro (none_t (not_f b3)))] at h
    refine ⟨b3, ?_⟩
    refine ⟨b3, ?_⟩
    refine ⟨trivial, ?_⟩
    refine ⟨b3, ?_⟩
    refine ⟨fun b4 => ?_, fun b4 => ?_⟩
    · rw [if_pos (bne_t b4)] at h
      refine ⟨trivial, ?_⟩
      refine ⟨trivial, ?_⟩
      obtain rfl := Option.some.inj h
      exact ⟨trivial, trivial, rfl, rfl⟩
    · rw [if_neg (not_not_intro (bne_f b4))] at h
      refine ⟨trivial, ?_⟩
      refine ⟨trivial, ?_⟩
      refine ⟨trivial, ?_⟩
      obtain rfl := Option.some.inj h
      exact ⟨trivial, trivial, rfl, rfl⟩
  · rw [if_pos (none_f (not_t b3))] at h
    refine ⟨b3, ?_⟩
    refine ⟨b3, ?_⟩
    refine ⟨b3, ?_⟩
    refine ⟨rfl, ?_⟩
    refine ⟨trivial, ?_⟩
    refine ⟨trivial, ?_⟩
    obtain rfl := Option.some.inj h
    exact ⟨trivial, trivial, rfl, rfl⟩
/-! halter/trace.report -/
def trace_report.f (a0 : Int) : Option Bool :=
  (status_What.f a0).bind fun t1 =>
  if t1.2.2 = none then
    if t1.1 = (2 : Int) then
      some true
    else
      some (t1.1 == (3 : Int))
  else
    some false
def trace_report.R (r : Bool) : Tm := .v (.one (.sc (.bool r)))
theorem trace_report.fun_ {a0 : Int} {r : Bool} (h : trace_report.f a0 = some r) : Fun cfg 34 [.one (.sc (.int .u32 a0))] [] (trace_report.R r) [] := by
  unfold trace_report.f at h
  refine fun_of_run cfg_ok (f := 34) (fn := Tryd.f34) Tryd.func34 rfl (by kernel_rfl) (rs := [.tmp 2]) rfl (nt := 22) rfl (l := fin) (k := (.call true [] (Int × Int × (Option Int)) (fun t1 => status_What.R t1) (fun t1 => (.br (.one true (.one true (.br (.one true (.one true (.one true (.one true (.adj [] (.adj [] .nil)))))) (.one false (.one true (.one false (.one true (.adj [] (.adj [] .nil))))))))) (.one false (.one false (.one false (.one false (.adj [] (.adj [] .nil)))))))))) (to_goal (q := (∃ t1 : Int × Int × (Option Int), (Fun cfg 46 [.one (.sc (.int .u32 a0))] [] (status_What.R t1) [] ∧ True) ∧ (True) ∧ (((Option.isNone t1.2.2) = true → ((Option.isNone t1.2.2) = true ∧ (True) ∧ ((Option.isNone t1.2.2) = true ∧ (((t1.1 == (2 : Int)) = false → ((t1.1 == (2 : Int)) = false ∧ (True) ∧ ((Option.isNone t1.2.2) = true ∧ ((t1.1 == (2 : Int)) = false ∧ ((Option.isNone t1.2.2) = true ∧ (True ∧ ((True) ∧ (True) ∧ (.v (.one (.sc (.bool (t1.1 == (3 : Int))))) : Tm) = trace_report.R r ∧ ([] : List Box) = []))))))) ∧ ((t1.1 == (2 : Int)) = true → ((t1.1 == (2 : Int)) = true ∧ ((Option.isNone t1.2.2) = true ∧ ((t1.1 == (2 : Int)) = true ∧ ((Option.isNone t1.2.2) = true ∧ (True ∧ ((True) ∧ (True) ∧ (.v (.one (.sc (.bool true))) : Tm) = trace_report.R r ∧ ([] : List Box) = []))))))))))) ∧ ((Option.isNone t1.2.2) = false → ((Option.isNone t1.2.2) = false ∧ ((Option.isNone t1.2.2) = false ∧ ((Option.isNone t1.2.2) = false ∧ ((Option.isNone t1.2.2) = false ∧ (True ∧ ((True) ∧ (True) ∧ (.v (.one (.sc (.bool false))) : Tm) = trace_report.R r ∧ ([] : List Box) = [])))))))))) (by kernel_rfl) ?_)
  obtain ⟨t1, ht1, h⟩ := of_bind h
  refine ⟨t1, ⟨status_What.fun_ ht1, trivial⟩, ?_⟩
  refine ⟨trivial, ?_⟩
  refine ⟨fun b2 => ?_, fun b2 => ?_⟩
  · rw [if_pos (none_t b2)] at h
    refine ⟨b2, ?_⟩
    refine ⟨trivial, ?_⟩
    refine ⟨b2, ?_⟩
    refine ⟨fun b3 => ?_, fun b3 => ?_⟩
    · rw [if_neg (beq_f b3)] at h
      refine ⟨b3, ?_⟩
      refine ⟨trivial, ?_⟩
      refine ⟨b2, ?_⟩
      refine ⟨b3, ?_⟩
      refine ⟨b2, ?_⟩
      refine ⟨trivial, ?_⟩
      obtain rfl := Option.some.inj h
      exact ⟨trivial, trivial, rfl, rfl⟩
    · rw [if_pos (beq_t b3)] at h
      refine ⟨b3, ?_⟩
      refine ⟨b2, ?_⟩
      refine ⟨b3, ?_⟩
      refine ⟨b2, ?_⟩
      refine ⟨trivial, ?_⟩
      obtain rfl := Option.some.inj h
      exact ⟨trivial, trivial, rfl, rfl⟩
  · rw [if_neg (none_f b2)] at h
    refine ⟨b2, ?_⟩
    refine ⟨b2, ?_⟩
    refine ⟨b2, ?_⟩
    refine ⟨b2, ?_⟩
    refine ⟨trivial, ?_⟩
    obtain rfl := Option.some.inj h
    exact ⟨trivial, trivial, rfl, rfl⟩
/-! halter/trace.Check -/
def trace_Check.f (a0 : Int) (a1 : Bool) (a2 : Int) (a3 : Int) (a4 : Int) (a5 : Bool) : Option (Option Int) :=
  if a0 = (0 : Int) then
    if ¬ ((a0 = (0 : Int) ∧ (a1 = false ∧ (a2 = (0 : Int) ∧ (a3 = (0 : Int) ∧ (a4 = (0 : Int) ∧ a5 = false)))))) then
      some (some (22 : Int))
    else
      some none
  else
    (pids_Check.f a0).bind fun t3 =>
    if t3 = none then
      (trace_mode.f a3).bind fun t5 =>
      if t5 = true then
        (trace_signal.f a4).bind fun t7 =>
        if ¬ (t7 = true) then
          some (some (22 : Int))
        else
          if ¬ a2 = (0 : Int) then
            if ¬ (a1 = true) then
              some (some (22 : Int))
            else
              (trace_report.f a2).bind fun t11 =>
              if ¬ (t11 = true) then
                some (some (22 : Int))
              else
                if a5 = true then
                  if ¬ a3 = (2 : Int) then
                    some (some (22 : Int))
                  else
                    some none
                else
                  some none
          else
            if a5 = true then
              if ¬ a3 = (2 : Int) then
                some (some (22 : Int))
              else
                some none
            else
              some none
      else
        some (some (22 : Int))
    else
      some (some (22 : Int))
def trace_Check.R (r : (Option Int)) : Tm := .v (.one (.err r))
theorem trace_Check.fun_ {a0 : Int} {a1 : Bool} {a2 : Int} {a3 : Int} {a4 : Int} {a5 : Bool} {r : (Option Int)} (h : trace_Check.f a0 a1 a2 a3 a4 a5 = some r) : Fun cfg 22 [.agg [.c (.sc (.int .i64 a0)), .c (.sc (.bool a1)), .c (.sc (.int .u32 a2)), .c (.sc (.int .i64 a3)), .c (.sc (.int .i64 a4)), .c (.sc (.bool a5))]] [] (trace_Check.R r) [] := by
  unfold trace_Check.f at h
  refine fun_of_run cfg_ok (f := 22) (fn := Tryd.f22) Tryd.func22 rfl (by kernel_rfl) (rs := [.tmp 2]) rfl (nt := 53) rfl (l := fin) (k := (.br (.br (.adj [] (.adj [] (.adj [.drop 0] .nil))) (.adj [] (.adj [] (.adj [] (.adj [.drop 0] .nil))))) (.call true [] ((Option Int)) (fun t3 => pids_Check.R t3) (fun t3 => (.br (.one true (.one true (.call true [] (Bool) (fun t5 => trace_mode.R t5) (fun t5 => (.one true (.br (.one true (.one true (.call true [] (Bool) (fun t7 => trace_signal.R t7) (fun t7 => (.one true (.br (.one true (.one true (.one true (.one true (.one true (.one true (.one true (.one true (.one true (.one true (.one true (.adj [] (.adj [] (.adj [.drop 0] .nil)))))))))))))) (.one false (.one false (.one false (.br (.one true (.one true (.one true (.br (.one true (.one true (.one true (.one true (.one true (.one false (.one true (.one false (.one true (.one true (.one true (.one true (.one true (.one true (.adj [] (.adj [] (.adj [.drop 0] .nil))))))))))))))))) (.one false (.one false (.call true [] (Bool) (fun t11 => trace_report.R t11) (fun t11 => (.one false (.one true (.one false (.one false (.one true (.one false (.br (.one true (.one true (.one true (.one true (.one true (.adj [] (.adj [] (.adj [.drop 0] .nil)))))))) (.one false (.one false (.br (.one true (.one true (.one false (.one true (.one false (.br (.adj [] (.adj [] (.adj [.drop 0] .nil))) (.adj [] (.adj [] (.adj [] (.adj [.drop 0] .nil)))))))))) (.one false (.one false (.one false (.one false (.one false (.one false (.adj [] (.adj [] (.adj [] (.adj [.drop 0] .nil)))))))))))))))))))))))))))) (.one false (.one false (.one false (.one false (.one false (.one false (.one false (.one false (.one false (.one false (.br (.one true (.one true (.one false (.one true (.one false (.br (.adj [] (.adj [] (.adj [.drop 0] .nil))) (.adj [] (.adj [] (.adj [] (.adj [.drop 0] .nil)))))))))) (.one false (.one false (.one false (.one false (.one false (.one false (.adj [] (.adj [] (.adj [] (.adj [.drop 0] .nil))))))))))))))))))))))))))))))) (.one false (.one false (.one false (.one true (.one true (.one true (.one true (.one true (.one true (.one true (.one true (.one true (.one true (.one true (.one true (.adj [] (.adj [] (.adj [.drop 0] .nil)))))))))))))))))))))))) (.one false (.one false (.one false (.one false (.one false (.one false (.one false (.one true (.one true (.one true (.one true (.one true (.one true (.one true (.one true (.one true (.one true (.one true (.one true (.adj [] (.adj [] (.adj [.drop 0] .nil))))))))))))))))))))))))))) (to_goal (q := (True) ∧ (True) ∧ (((a0 == (0 : Int)) = true → (True) ∧ (True) ∧ (((!((a0 == (0 : Int)) && ((a1 == false) && ((a2 == (0 : Int)) && ((a3 == (0 : Int)) && ((a4 == (0 : Int)) && ((a5 == false) && true))))))) = true → (True ∧ (True ∧ ((True) ∧ ((True) ∧ True) ∧ (.v (.one (.err (some (22 : Int)))) : Tm) = trace_Check.R r ∧ ([] : List Box) = [])))) ∧ ((!((a0 == (0 : Int)) && ((a1 == false) && ((a2 == (0 : Int)) && ((a3 == (0 : Int)) && ((a4 == (0 : Int)) && ((a5 == false) && true))))))) = false → (True ∧ (True ∧ (True ∧ ((True) ∧ ((True) ∧ True) ∧ (.v (.one (.err none)) : Tm) = trace_Check.R r ∧ ([] : List Box) = []))))))) ∧ ((a0 == (0 : Int)) = false → (True) ∧ (∃ t3 : (Option Int), (Fun cfg 16 [.one (.sc (.int .i64 a0))] [] (pids_Check.R t3) [] ∧ True) ∧ (True) ∧ (((Option.isNone t3) = true → ((Option.isNone t3) = true ∧ (True) ∧ ((Option.isNone t3) = true ∧ (∃ t5 : Bool, (Fun cfg 32 [.one (.sc (.int .i64 a3))] [] (trace_mode.R t5) [] ∧ True) ∧ ((Option.isNone t3) = true ∧ ((t5 = true → (t5 = true ∧ (True) ∧ (t5 = true ∧ (∃ t7 : Bool, (Fun cfg 33 [.one (.sc (.int .i64 a4))] [] (trace_signal.R t7) [] ∧ True) ∧ (t5 = true ∧ (((!t7) = false → ((!t7) = false ∧ (True) ∧ ((!t7) = false ∧ (True) ∧ ((!t7) = false ∧ (((a2 != (0 : Int)) = true → ((a2 != (0 : Int)) = true ∧ (True) ∧ ((a2 != (0 : Int)) = true ∧ ((a2 != (0 : Int)) = true ∧ (((!a1) = false → ((!a1) = false ∧ (True) ∧ ((!a1) = false ∧ (∃ t11 : Bool, (Fun cfg 34 [.one (.sc (.int .u32 a2))] [] (trace_report.R t11) [] ∧ True) ∧ ((!a1) = false ∧ ((a2 != (0 : Int)) = true ∧ ((!a1) = false ∧ ((!t7) = false ∧ ((a2 != (0 : Int)) = true ∧ ((!t7) = false ∧ (((!t11) = false → ((!t11) = false ∧ (True) ∧ ((!t11) = false ∧ ((a5 = true → (a5 = true ∧ (True) ∧ (a5 = true ∧ (True) ∧ ((!t11) = false ∧ (a5 = true ∧ ((!t11) = false ∧ (((a3 != (2 : Int)) = true → (True ∧ (True ∧ ((True) ∧ ((True) ∧ True) ∧ (.v (.one (.err (some (22 : Int)))) : Tm) = trace_Check.R r ∧ ([] : List Box) = [])))) ∧ ((a3 != (2 : Int)) = false → (True ∧ (True ∧ (True ∧ ((True) ∧ ((True) ∧ True) ∧ (.v (.one (.err none)) : Tm) = trace_Check.R r ∧ ([] : List Box) = [])))))))))))) ∧ (a5 = false → (a5 = false ∧ (a5 = false ∧ ((!t11) = false ∧ (a5 = false ∧ ((!t11) = false ∧ (false = false ∧ (True ∧ (True ∧ (True ∧ ((True) ∧ ((True) ∧ True) ∧ (.v (.one (.err none)) : Tm) = trace_Check.R r ∧ ([] : List Box) = []))))))))))))))) ∧ ((!t11) = true → ((!t11) = true ∧ ((!t11) = true ∧ ((!t11) = true ∧ ((!t11) = true ∧ (true = true ∧ (True ∧ (True ∧ ((True) ∧ ((True) ∧ True) ∧ (.v (.one (.err (some (22 : Int)))) : Tm) = trace_Check.R r ∧ ([] : List Box) = [])))))))))))))))))))) ∧ ((!a1) = true → ((!a1) = true ∧ ((!a1) = true ∧ ((!a1) = true ∧ ((a2 != (0 : Int)) = true ∧ ((!a1) = true ∧ ((!t7) = false ∧ ((a2 != (0 : Int)) = true ∧ ((!t7) = false ∧ (true = true ∧ (true = true ∧ (true = true ∧ (true = true ∧ (true = true ∧ (true = true ∧ (True ∧ (True ∧ ((True) ∧ ((True) ∧ True) ∧ (.v (.one (.err (some (22 : Int)))) : Tm) = trace_Check.R r ∧ ([] : List Box) = []))))))))))))))))))))))) ∧ ((a2 != (0 : Int)) = false → ((a2 != (0 : Int)) = false ∧ ((a2 != (0 : Int)) = false ∧ ((a2 != (0 : Int)) = false ∧ ((a2 != (0 : Int)) = false ∧ ((!t7) = false ∧ ((a2 != (0 : Int)) = false ∧ ((!t7) = false ∧ (false = false ∧ (false = false ∧ (True) ∧ (false = false ∧ ((a5 = true → (a5 = true ∧ (True) ∧ (a5 = true ∧ (True) ∧ (false = false ∧ (a5 = true ∧ (false = false ∧ (((a3 != (2 : Int)) = true → (True ∧ (True ∧ ((True) ∧ ((True) ∧ True) ∧ (.v (.one (.err (some (22 : Int)))) : Tm) = trace_Check.R r ∧ ([] : List Box) = [])))) ∧ ((a3 != (2 : Int)) = false → (True ∧ (True ∧ (True ∧ ((True) ∧ ((True) ∧ True) ∧ (.v (.one (.err none)) : Tm) = trace_Check.R r ∧ ([] : List Box) = [])))))))))))) ∧ (a5 = false → (a5 = false ∧ (a5 = false ∧ (false = false ∧ (a5 = false ∧ (false = false ∧ (false = false ∧ (True ∧ (True ∧ (True ∧ ((True) ∧ ((True) ∧ True) ∧ (.v (.one (.err none)) : Tm) = trace_Check.R r ∧ ([] : List Box) = [])))))))))))))))))))))))))))) ∧ ((!t7) = true → ((!t7) = true ∧ ((!t7) = true ∧ ((!t7) = true ∧ ((!t7) = true ∧ ((!t7) = true ∧ (true = true ∧ (true = true ∧ (true = true ∧ (true = true ∧ (true = true ∧ (true = true ∧ (True ∧ (True ∧ ((True) ∧ ((True) ∧ True) ∧ (.v (.one (.err (some (22 : Int)))) : Tm) = trace_Check.R r ∧ ([] : List Box) = []))))))))))))))))))))) ∧ (t5 = false → (t5 = false ∧ (t5 = false ∧ (t5 = false ∧ (true = true ∧ (true = true ∧ (true = true ∧ (true = true ∧ (true = true ∧ (true = true ∧ (true = true ∧ (true = true ∧ (true = true ∧ (true = true ∧ (true = true ∧ (true = true ∧ (True ∧ (True ∧ ((True) ∧ ((True) ∧ True) ∧ (.v (.one (.err (some (22 : Int)))) : Tm) = trace_Check.R r ∧ ([] : List Box) = []))))))))))))))))))))))))) ∧ ((Option.isNone t3) = false → ((Option.isNone t3) = false ∧ ((Option.isNone t3) = false ∧ ((Option.isNone t3) = false ∧ (false = false ∧ (false = false ∧ (false = false ∧ (false = false ∧ (true = true ∧ (true = true ∧ (true = true ∧ (true = true ∧ (true = true ∧ (true = true ∧ (true = true ∧ (true = true ∧ (true = true ∧ (true = true ∧ (true = true ∧ (true = true ∧ (True ∧ (True ∧ ((True) ∧ ((True) ∧ True) ∧ (.v (.one (.err (some (22 : Int)))) : Tm) = trace_Check.R r ∧ ([] : List Box) = [])))))))))))))))))))))))))))) (by kernel_rfl) ?_)
  refine ⟨trivial, ?_⟩
  refine ⟨trivial, ?_⟩
  refine ⟨fun b1 => ?_, fun b1 => ?_⟩
  · rw [if_pos (beq_t b1)] at h
    refine ⟨trivial, ?_⟩
    refine ⟨trivial, ?_⟩
    refine ⟨fun b2 => ?_, fun b2 => ?_⟩
    · rw [if_pos (and_f (fun h => (beq_f h)) (fun h => (and_f (fun h => (bb_f h)) (fun h => (and_f (fun h => (beq_f h)) (fun h => (and_f (fun h => (beq_f h)) (fun h => (and_f (fun h => (beq_f h)) (fun h => (bb_f (and_l0 h))) h)) h)) h)) h)) (not_t b2))] at h
      refine ⟨trivial, ?_⟩
      refine ⟨trivial, ?_⟩
      obtain rfl := Option.some.inj h
      exact ⟨trivial, ⟨trivial, trivial⟩, rfl, rfl⟩
    · rw [if_neg (not_not_intro (and_t (fun h => (beq_t h)) (fun h => (and_t (fun h => (bb_t h)) (fun h => (and_t (fun h => (beq_t h)) (fun h => (and_t (fun h => (beq_t h)) (fun h => (and_t (fun h => (beq_t h)) (fun h => (bb_t (and_l h))) h)) h)) h)) h)) (not_f b2)))] at h
      refine ⟨trivial, ?_⟩
      refine ⟨trivial, ?_⟩
      refine ⟨trivial, ?_⟩
      obtain rfl := Option.some.inj h
      exact ⟨trivial, ⟨trivial, trivial⟩, rfl, rfl⟩
  · rw [if_neg (beq_f b1)] at h
    refine ⟨trivial, ?_⟩
    obtain ⟨t3, ht3, h⟩ := of_bind h
    refine ⟨t3, ⟨pids_Check.fun_ ht3, trivial⟩, ?_⟩
    refine ⟨trivial, ?_⟩
    refine ⟨fun b4 => ?_, fun b4 => ?_⟩
    · rw [if_pos (none_t b4)] at h
      refine ⟨b4, ?_⟩
      refine ⟨trivial, ?_⟩
      refine ⟨b4, ?_⟩
      obtain ⟨t5, ht5, h⟩ := of_bind h
      refine ⟨t5, ⟨trace_mode.fun_ ht5, trivial⟩, ?_⟩
      refine ⟨b4, ?_⟩
      refine ⟨fun b6 => ?_, fun b6 => ?_⟩
      · rw [if_pos b6] at h
        refine ⟨b6, ?_⟩
        refine ⟨trivial, ?_⟩
        refine ⟨b6, ?_⟩
        obtain ⟨t7, ht7, h⟩ := of_bind h
        refine ⟨t7, ⟨trace_signal.fun_ ht7, trivial⟩, ?_⟩
        refine ⟨b6, ?_⟩
        refine ⟨fun b8 => ?_, fun b8 => ?_⟩
        · rw [if_neg (not_not_intro (not_f b8))] at h
          refine ⟨b8, ?_⟩
          refine ⟨trivial, ?_⟩
          refine ⟨b8, ?_⟩
          refine ⟨trivial, ?_⟩
          refine ⟨b8, ?_⟩
          refine ⟨fun b9 => ?_, fun b9 => ?_⟩
          · rw [if_pos (bne_t b9)] at h
            refine ⟨b9, ?_⟩
            refine ⟨trivial, ?_⟩
            refine ⟨b9, ?_⟩
            refine ⟨b9, ?_⟩
            refine ⟨fun b10 => ?_, fun b10 => ?_⟩
            · rw [if_neg (not_not_intro (not_f b10))] at h
              refine ⟨b10, ?_⟩
              refine ⟨trivial, ?_⟩
              refine ⟨b10, ?_⟩
              obtain ⟨t11, ht11, h⟩ := of_bind h
              refine ⟨t11, ⟨trace_report.fun_ ht11, trivial⟩, ?_⟩
              refine ⟨b10, ?_⟩
              refine ⟨b9, ?_⟩
              refine ⟨b10, ?_⟩
              refine ⟨b8, ?_⟩
              refine ⟨b9, ?_⟩
              refine ⟨b8, ?_⟩
              refine ⟨fun b12 => ?_, fun b12 => ?_⟩
              · rw [if_neg (not_not_intro (not_f b12))] at h
                refine ⟨b12, ?_⟩
                refine ⟨trivial, ?_⟩
                refine ⟨b12, ?_⟩
                refine ⟨fun b13 => ?_, fun b13 => ?_⟩
                · rw [if_pos b13] at h
                  refine ⟨b13, ?_⟩
                  refine ⟨trivial, ?_⟩
                  refine ⟨b13, ?_⟩
                  refine ⟨trivial, ?_⟩
                  refine ⟨b12, ?_⟩
                  refine ⟨b13, ?_⟩
                  refine ⟨b12, ?_⟩
                  refine ⟨fun b14 => ?_, fun b14 => ?_⟩
                  · rw [if_pos (bne_t b14)] at h
                    refine ⟨trivial, ?_⟩
                    refine ⟨trivial, ?_⟩
                    obtain rfl := Option.some.inj h
                    exact ⟨trivial, ⟨trivial, trivial⟩, rfl, rfl⟩
                  · rw [if_neg (not_not_intro (bne_f b14))] at h
                    refine ⟨trivial, ?_⟩
                    refine ⟨trivial, ?_⟩
                    refine ⟨trivial, ?_⟩
                    obtain rfl := Option.some.inj h
                    exact ⟨trivial, ⟨trivial, trivial⟩, rfl, rfl⟩
                · rw [if_neg (ff b13)] at h
                  refine ⟨b13, ?_⟩
                  refine ⟨b13, ?_⟩
                  refine ⟨b12, ?_⟩
                  refine ⟨b13, ?_⟩
                  refine ⟨b12, ?_⟩
                  refine ⟨rfl, ?_⟩
                  refine ⟨trivial, ?_⟩
                  refine ⟨trivial, ?_⟩
                  refine ⟨trivial, ?_⟩
                  obtain rfl := Option.some.inj h
                  exact ⟨trivial, ⟨trivial, trivial⟩, rfl, rfl⟩
              · rw [if_pos (ff (not_t b12))] at h
                refine ⟨b12, ?_⟩
                refine ⟨b12, ?_⟩
                refine ⟨b12, ?_⟩
                refine ⟨b12, ?_⟩
                refine ⟨rfl, ?_⟩
                refine ⟨trivial, ?_⟩
                refine ⟨trivial, ?_⟩
                obtain rfl := Option.some.inj h
                exact ⟨trivial, ⟨trivial, trivial⟩, rfl, rfl⟩
            · rw [if_pos (ff (not_t b10))] at h
              refine ⟨b10, ?_⟩
              refine ⟨b10, ?_⟩
              refine ⟨b10, ?_⟩
              refine ⟨b9, ?_⟩
              refine ⟨b10, ?_⟩
              refine ⟨b8, ?_⟩
              refine ⟨b9, ?_⟩
              refine ⟨b8, ?_⟩
              refine ⟨rfl, ?_⟩
              refine ⟨rfl, ?_⟩
              refine ⟨rfl, ?_⟩
              refine ⟨rfl, ?_⟩
              refine ⟨rfl, ?_⟩
              refine ⟨rfl, ?_⟩
              refine ⟨trivial, ?_⟩
              refine ⟨trivial, ?_⟩
              obtain rfl := Option.some.inj h
              exact ⟨trivial, ⟨trivial, trivial⟩, rfl, rfl⟩
          · rw [if_neg (not_not_intro (bne_f b9))] at h
            refine ⟨b9, ?_⟩
            refine ⟨b9, ?_⟩
            refine ⟨b9, ?_⟩
            refine ⟨b9, ?_⟩
            refine ⟨b8, ?_⟩
            refine ⟨b9, ?_⟩
            refine ⟨b8, ?_⟩
            refine ⟨rfl, ?_⟩
            refine ⟨rfl, ?_⟩
            refine ⟨trivial, ?_⟩
            refine ⟨rfl, ?_⟩
            refine ⟨fun b15 => ?_, fun b15 => ?_⟩
            · rw [if_pos b15] at h
              refine ⟨b15, ?_⟩
              refine ⟨trivial, ?_⟩
              refine ⟨b15, ?_⟩
              refine ⟨trivial, ?_⟩
              refine ⟨rfl, ?_⟩
              refine ⟨b15, ?_⟩
              refine ⟨rfl, ?_⟩
              refine ⟨fun b16 => ?_, fun b16 => ?_⟩
              · rw [if_pos (bne_t b16)] at h
                refine ⟨trivial, ?_⟩
                refine ⟨trivial, ?_⟩
                obtain rfl := Option.some.inj h
                exact ⟨trivial, ⟨trivial, trivial⟩, rfl, rfl⟩
              · rw [if_neg (not_not_intro (bne_f b16))] at h
                refine ⟨trivial, ?_⟩
                refine ⟨trivial, ?_⟩
                refine ⟨trivial, ?_⟩
                obtain rfl := Option.some.inj h
                exact ⟨trivial, ⟨trivial, trivial⟩, rfl, rfl⟩
            · rw [if_neg (ff b15)] at h
              refine ⟨b15, ?_⟩
              refine ⟨b15, ?_⟩
              refine ⟨rfl, ?_⟩
              refine ⟨b15, ?_⟩
              refine ⟨rfl, ?_⟩
              refine ⟨rfl, ?_⟩
              refine ⟨trivial, ?_⟩
              refine ⟨trivial, ?_⟩
              refine ⟨trivial, ?_⟩
              obtain rfl := Option.some.inj h
              exact ⟨trivial, ⟨trivial, trivial⟩, rfl, rfl⟩
        · rw [if_pos (ff (not_t b8))] at h
          refine ⟨b8, ?_⟩
          refine ⟨b8, ?_⟩
          refine ⟨b8, ?_⟩
          refine ⟨b8, ?_⟩
          refine ⟨b8, ?_⟩
          refine ⟨rfl, ?_⟩
          refine ⟨rfl, ?_⟩
          refine ⟨rfl, ?_⟩
          refine ⟨rfl, ?_⟩
          refine ⟨rfl, ?_⟩
          refine ⟨rfl, ?_⟩
          refine ⟨trivial, ?_⟩
          refine ⟨trivial, ?_⟩
          obtain rfl := Option.some.inj h
          exact ⟨trivial, ⟨trivial, trivial⟩, rfl, rfl⟩
      · rw [if_neg (ff b6)] at h
        refine ⟨b6, ?_⟩
        refine ⟨b6, ?_⟩
        refine ⟨b6, ?_⟩
        refine ⟨rfl, ?_⟩
        refine ⟨rfl, ?_⟩
        refine ⟨rfl, ?_⟩
        refine ⟨rfl, ?_⟩
        refine ⟨rfl, ?_⟩
        refine ⟨rfl, ?_⟩
        refine ⟨rfl, ?_⟩
        refine ⟨rfl, ?_⟩
        refine ⟨rfl, ?_⟩
        refine ⟨rfl, ?_⟩
        refine ⟨rfl, ?_⟩
        refine ⟨rfl, ?_⟩
        refine ⟨trivial, ?_⟩
        refine ⟨trivial, ?_⟩
        obtain rfl := Option.some.inj h
        exact ⟨trivial, ⟨trivial, trivial⟩, rfl, rfl⟩
    · rw [if_neg (none_f b4)] at h
      refine ⟨b4, ?_⟩
      refine ⟨b4, ?_⟩
      refine ⟨b4, ?_⟩
      refine ⟨rfl, ?_⟩
      refine ⟨rfl, ?_⟩
      refine ⟨rfl, ?_⟩
      refine ⟨rfl, ?_⟩
      refine ⟨rfl, ?_⟩
      refine ⟨rfl, ?_⟩
      refine ⟨rfl, ?_⟩
      refine ⟨rfl, ?_⟩
      refine ⟨rfl, ?_⟩
      refine ⟨rfl, ?_⟩
      refine ⟨rfl, ?_⟩
      refine ⟨rfl, ?_⟩
      refine ⟨rfl, ?_⟩
      refine ⟨rfl, ?_⟩
      refine ⟨rfl, ?_⟩
      refine ⟨rfl, ?_⟩
      refine ⟨trivial, ?_⟩
      refine ⟨trivial, ?_⟩
      obtain rfl := Option.some.inj h
      exact ⟨trivial, ⟨trivial, trivial⟩, rfl, rfl⟩
/-! halter/proc.Check -/
def proc_Check.f (a0 : Int) (a1 : Int) (a2 : ByteArray) (a3 : (List Int)) (a4 : Int) (a5 : Int) (a6 : (List Int)) (a7 : (List Int)) (a8 : Int) (a9 : Int) (a10 : (List Int)) (a11 : Int) (a12 : Bool) (a13 : Int) (a14 : Int) (a15 : Int) (a16 : Bool) (a17 : Bool) (a18 : Bool) (a19 : Int) (a20 : Int) : Option (Option Int) :=
  (pids_Check.f a0).bind fun t1 =>
  if t1 = none then
    (cred_Check.f a1).bind fun t3 =>
    if t3 = none then
      (path_Check.f a2).bind fun t5 =>
      (regs_Check.f a3 a4 a5 a6).bind fun t6 =>
      if t6 = none then
        (fds_Check.f a7).bind fun t8 =>
        if t8 = none then
          (sig_Check.f a8 a9 a10).bind fun t10 =>
          if t10 = none then
            (trace_Check.f a11 a12 a13 a14 a15 a16).bind fun t12 =>
            if a19 ≥ (0 : Int) then
              if a19 < (30 : Int) then
                if a20 ≥ (0 : Int) then
                  if a20 ≤ (4080 : Int) then
                    if a17 = true then
                      if ¬ (t5 = none) then
                        some (some (22 : Int))
                      else
                        if ¬ (t12 = none) then
                          some (some (22 : Int))
                        else
                          some none
                    else
                      if ¬ (t5 = none) then
                        some (some (22 : Int))
                      else
                        if ¬ (t12 = none) then
                          some (some (22 : Int))
                        else
                          if ¬ (¬ (a18 = true)) then
                            some (some (22 : Int))
                          else
                            some none
                  else
                    if ¬ (t5 = none) then
                      some (some (22 : Int))
                    else
                      if ¬ (t12 = none) then
                        some (some (22 : Int))
                      else
                        some (some (22 : Int))
                else
                  if ¬ (t5 = none) then
                    some (some (22 : Int))
                  else
                    if ¬ (t12 = none) then
                      some (some (22 : Int))
                    else
                      some (some (22 : Int))
              else
                if ¬ (t5 = none) then
                  some (some (22 : Int))
                else
                  if ¬ (t12 = none) then
                    some (some (22 : Int))
                  else
                    some (some (22 : Int))
            else
              if ¬ (t5 = none) then
                some (some (22 : Int))
              else
                if ¬ (t12 = none) then
                  some (some (22 : Int))
                else
                  some (some (22 : Int))
          else
            if a19 ≥ (0 : Int) then
              if a19 < (30 : Int) then
                if a20 ≥ (0 : Int) then
                  if a20 ≤ (4080 : Int) then
                    if a17 = true then
                      if ¬ (t5 = none) then
                        some (some (22 : Int))
                      else
                        some (some (22 : Int))
                    else
                      if ¬ (t5 = none) then
                        some (some (22 : Int))
                      else
                        some (some (22 : Int))
                  else
                    if ¬ (t5 = none) then
                      some (some (22 : Int))
                    else
                      some (some (22 : Int))
                else
                  if ¬ (t5 = none) then
                    some (some (22 : Int))
                  else
                    some (some (22 : Int))
              else
                if ¬ (t5 = none) then
                  some (some (22 : Int))
                else
                  some (some (22 : Int))
            else
              if ¬ (t5 = none) then
                some (some (22 : Int))
              else
                some (some (22 : Int))
        else
          if a19 ≥ (0 : Int) then
            if a19 < (30 : Int) then
              if a20 ≥ (0 : Int) then
                if a20 ≤ (4080 : Int) then
                  if a17 = true then
                    if ¬ (t5 = none) then
                      some (some (22 : Int))
                    else
                      some (some (22 : Int))
                  else
                    if ¬ (t5 = none) then
                      some (some (22 : Int))
                    else
                      some (some (22 : Int))
                else
                  if ¬ (t5 = none) then
                    some (some (22 : Int))
                  else
                    some (some (22 : Int))
              else
                if ¬ (t5 = none) then
                  some (some (22 : Int))
                else
                  some (some (22 : Int))
            else
              if ¬ (t5 = none) then
                some (some (22 : Int))
              else
                some (some (22 : Int))
          else
            if ¬ (t5 = none) then
              some (some (22 : Int))
            else
              some (some (22 : Int))
      else
        if a19 ≥ (0 : Int) then
          if a19 < (30 : Int) then
            if a20 ≥ (0 : Int) then
              if a20 ≤ (4080 : Int) then
                if a17 = true then
                  if ¬ (t5 = none) then
                    some (some (22 : Int))
                  else
                    some (some (22 : Int))
                else
                  if ¬ (t5 = none) then
                    some (some (22 : Int))
                  else
                    some (some (22 : Int))
              else
                if ¬ (t5 = none) then
                  some (some (22 : Int))
                else
                  some (some (22 : Int))
            else
              if ¬ (t5 = none) then
                some (some (22 : Int))
              else
                some (some (22 : Int))
          else
            if ¬ (t5 = none) then
              some (some (22 : Int))
            else
              some (some (22 : Int))
        else
          if ¬ (t5 = none) then
            some (some (22 : Int))
          else
            some (some (22 : Int))
    else
      (regs_Check.f a3 a4 a5 a6).bind fun t64 =>
      if t64 = none then
        (fds_Check.f a7).bind fun t66 =>
        if t66 = none then
          (sig_Check.f a8 a9 a10).bind fun t68 =>
          if t68 = none then
            (trace_Check.f a11 a12 a13 a14 a15 a16).bind fun t70 =>
            if a19 ≥ (0 : Int) then
              if a19 < (30 : Int) then
                if a20 ≥ (0 : Int) then
                  if a20 ≤ (4080 : Int) then
                    if a17 = true then
                      some (some (22 : Int))
                    else
                      some (some (22 : Int))
                  else
                    some (some (22 : Int))
                else
                  some (some (22 : Int))
              else
                some (some (22 : Int))
            else
              some (some (22 : Int))
          else
            if a19 ≥ (0 : Int) then
              if a19 < (30 : Int) then
                if a20 ≥ (0 : Int) then
                  if a20 ≤ (4080 : Int) then
                    if a17 = true then
                      some (some (22 : Int))
                    else
                      some (some (22 : Int))
                  else
                    some (some (22 : Int))
                else
                  some (some (22 : Int))
              else
                some (some (22 : Int))
            else
              some (some (22 : Int))
        else
          if a19 ≥ (0 : Int) then
            if a19 < (30 : Int) then
              if a20 ≥ (0 : Int) then
                if a20 ≤ (4080 : Int) then
                  if a17 = true then
                    some (some (22 : Int))
                  else
                    some (some (22 : Int))
                else
                  some (some (22 : Int))
              else
                some (some (22 : Int))
            else
              some (some (22 : Int))
          else
            some (some (22 : Int))
      else
        if a19 ≥ (0 : Int) then
          if a19 < (30 : Int) then
            if a20 ≥ (0 : Int) then
              if a20 ≤ (4080 : Int) then
                if a17 = true then
                  some (some (22 : Int))
                else
                  some (some (22 : Int))
              else
                some (some (22 : Int))
            else
              some (some (22 : Int))
          else
            some (some (22 : Int))
        else
          some (some (22 : Int))
  else
    (regs_Check.f a3 a4 a5 a6).bind fun t91 =>
    if t91 = none then
      (fds_Check.f a7).bind fun t93 =>
      if t93 = none then
        (sig_Check.f a8 a9 a10).bind fun t95 =>
        if t95 = none then
          (trace_Check.f a11 a12 a13 a14 a15 a16).bind fun t97 =>
          if a19 ≥ (0 : Int) then
            if a19 < (30 : Int) then
              if a20 ≥ (0 : Int) then
                if a20 ≤ (4080 : Int) then
                  if a17 = true then
                    some (some (22 : Int))
                  else
                    some (some (22 : Int))
                else
                  some (some (22 : Int))
              else
                some (some (22 : Int))
            else
              some (some (22 : Int))
          else
            some (some (22 : Int))
        else
          if a19 ≥ (0 : Int) then
            if a19 < (30 : Int) then
              if a20 ≥ (0 : Int) then
                if a20 ≤ (4080 : Int) then
                  if a17 = true then
                    some (some (22 : Int))
                  else
                    some (some (22 : Int))
                else
                  some (some (22 : Int))
              else
                some (some (22 : Int))
            else
              some (some (22 : Int))
          else
            some (some (22 : Int))
      else
        if a19 ≥ (0 : Int) then
          if a19 < (30 : Int) then
            if a20 ≥ (0 : Int) then
              if a20 ≤ (4080 : Int) then
                if a17 = true then
                  some (some (22 : Int))
                else
                  some (some (22 : Int))
              else
                some (some (22 : Int))
            else
              some (some (22 : Int))
          else
            some (some (22 : Int))
        else
          some (some (22 : Int))
    else
      if a19 ≥ (0 : Int) then
        if a19 < (30 : Int) then
          if a20 ≥ (0 : Int) then
            if a20 ≤ (4080 : Int) then
              if a17 = true then
                some (some (22 : Int))
              else
                some (some (22 : Int))
            else
              some (some (22 : Int))
          else
            some (some (22 : Int))
        else
          some (some (22 : Int))
      else
        some (some (22 : Int))
def proc_Check.R (r : (Option Int)) : Tm := .v (.one (.err r))
end Go.Proofs.YtbnlochgbhcfnaaDoorGProcLetters
