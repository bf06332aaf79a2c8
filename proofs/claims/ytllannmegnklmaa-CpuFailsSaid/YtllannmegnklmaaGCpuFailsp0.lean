/- Printed by gen.py: what functions of the program compute, in plain Lean, and that they do. -/
import Derived.Test.YtllannmegnklmaaEY
import Derived.Test.YtllannmegnklmaaProg
import Derived.Test.YtllannmegnklmaaF
set_option linter.unusedVariables false
set_option maxRecDepth 100000
set_option maxHeartbeats 4000000
namespace Go.Proofs.YtllannmegnklmaaGCpuFails
open Go Go.Proofs.YtllannmegnklmaaE
abbrev pt (a b c : Nat) : Tm := .v (.one (.ptr 0 ⟨a, b, c, 0⟩))
abbrev P0 : Tm := pt 0 0 0
abbrev vb (b : Bool) : Tm := .v (.one (.sc (.bool b)))
abbrev rA (n : Nat) (l : List Tm) : List Tm := List.replicate n .any ++ l
abbrev nd (n : List Nat) (l : List (Nat × PD)) : List (Nat × PD) := n.map (fun k => (k, dN)) ++ l
abbrev nr (a n : Nat) (l : List (Nat × PD)) : List (Nat × PD) := (List.range n).map (fun k => (a + k, dN)) ++ l
abbrev ol (p : List Nat) (l : List (List Nat)) : List (List Nat) := l.map (p ++ ·)
abbrev om (p q r : List Nat) (l : List (List Nat)) : List (List Nat × List Nat) := l.map (fun x => (p ++ x ++ q, r))
abbrev kB0 (x0 : (List Int)) (x1 : Int) (x2 : Int) (x3 : (List Int)) (x4 : Int) (x5 : Int) (x6 : Int) (x7 : Int) (x8 : Int) (x9 : Int) (x10 : (List Int)) (x11 : Int) (x12 : Int) : List Box := [.ex false [.c (.ip 29 1), .row 16 (.int .u32) x0, .c (.sc (.int .u32 x1)), .c (.sc (.int .u32 x2)), .row 4 (.int .u64) x3, .c (.sc (.int .i64 x4)), .c (.sc (.int .i64 x5)), .c (.sc (.int .i64 x6)), .c (.sc (.int .i64 x7)), .c (.sc (.int .u32 x8)), .c (.sc (.int .i64 x9))] 62, .ex false [.c (.os 2 0 0 1 (List.length x10) none), .c (.sc (.int .i64 x11)), .c (.sc (.int .i64 x12))] 33, .fix false (.int .u8) x10 5]
abbrev kB1 (x0 : (List Int)) (x1 : Int) (x2 : Int) : List Box := [.ex false [.c (.os 1 0 0 1 (List.length x0) none), .c (.sc (.int .i64 x1)), .c (.sc (.int .i64 x2))] 33, .fix false (.int .u8) x0 5]
abbrev kB2 (x0 : (List Int)) (x1 : Int) (x2 : Int) (x3 : (List Int)) (x4 : Int) (x5 : Int) (x6 : (List Int)) : List Box := [.ex false [.c (.os 1 0 0 1 (List.length x0) none), .c (.sc (.int .i64 x1)), .c (.sc (.int .i64 x2))] 33, .fix false (.int .u8) x0 5, .ex false [.row 16 (.int .u32) x3, .c (.sc (.int .u32 x4)), .c (.sc (.int .u32 x5)), .row 4 (.int .u64) x6] 34, .ex false [.row 16 (.int .u32) x3, .c (.sc (.int .u32 x4)), .c (.sc (.int .u32 x5)), .row 4 (.int .u64) x6] 34, .ex false [.c (.sc (.int .i64 (4 : Int))), .c (.sc (.int .i64 (7 : Int))), .c (.sc (.int .u32 x4))] 36]
abbrev kB3 (x0 : (List Int)) (x1 : Int) (x2 : Int) (x3 : (List Int)) : List Box := [.ex false [.row 16 (.int .u32) x0, .c (.sc (.int .u32 x1)), .c (.sc (.int .u32 x2)), .row 4 (.int .u64) x3] 34, .ex false [.row 16 (.int .u32) x0, .c (.sc (.int .u32 x1)), .c (.sc (.int .u32 x2)), .row 4 (.int .u64) x3] 34, .ex false [.c (.sc (.int .i64 (4 : Int))), .c (.sc (.int .i64 (7 : Int))), .c (.sc (.int .u32 x1))] 36]
abbrev vi (k : IntKind) (x : Int) : Tm := .v (.one (.sc (.int k x)))
abbrev A : Tm := .any
abbrev U : Prop := True
theorem T : True := trivial
theorem tI {p : Prop} (h : p) : True ∧ p := ⟨trivial, h⟩
theorem dF_ {p : Prop} [h : Decidable p] : decide p = false → ¬ p := of_decide_eq_false
theorem dT_ {p : Prop} [h : Decidable p] : decide p = true → p := of_decide_eq_true
theorem oi {α : Type} {a b : α} (h : some a = some b) : a = b := Option.some.inj h
def tiL : List (Nat × TI) := [
  (2, ⟨1, 8, false, .int .i64, [.c (.sc (.int .i64 (0 : Int)))], some (.int .i64)⟩),
  (3, ⟨1, 8, false, .int .i64, [.c (.sc (.int .i64 (0 : Int)))], some (.int .i64)⟩),
  (4, ⟨1, 1, false, .bool, [.c (.sc (.bool false))], some .bool⟩),
  (5, ⟨1, 1, false, .int .u8, [.c (.sc (.int .u8 (0 : Int)))], some (.int .u8)⟩),
  (9, ⟨1, 16, false, .str, [.c (.sc (.string ByteArray.empty))], some .str⟩),
  (20, ⟨1, 16, false, .iface, [.c (.err none)], none⟩),
  (21, ⟨1, 4, false, .int .i32, [.c (.sc (.int .i32 (0 : Int)))], some (.int .i32)⟩),
  (22, ⟨1, 24, false, (.slice 23), [.c (.sc (.slice none 0 0))], some (.sl (.int .u32))⟩),
  (23, ⟨1, 4, false, .int .u32, [.c (.sc (.int .u32 (0 : Int)))], some (.int .u32)⟩),
  (24, ⟨16, 64, true, (.array 16 23), [.row 16 (.int .u32) (List.replicate 16 (0 : Int))], some (.arr 16 (.int .u32))⟩),
  (25, ⟨1, 8, false, .int .u64, [.c (.sc (.int .u64 (0 : Int)))], some (.int .u64)⟩),
  (26, ⟨4, 32, true, (.array 4 25), [.row 4 (.int .u64) (List.replicate 4 (0 : Int))], some (.arr 4 (.int .u64))⟩),
  (28, ⟨22, 104, true, (.struct [(0, 24), (16, 23), (17, 23), (18, 26)]), [.row 16 (.int .u32) (List.replicate 16 (0 : Int)), .c (.sc (.int .u32 (0 : Int))), .c (.sc (.int .u32 (0 : Int))), .row 4 (.int .u64) (List.replicate 4 (0 : Int))], some (.pair (.arr 16 (.int .u32)) (.pair (.int .u32) (.pair (.int .u32) (.arr 4 (.int .u64)))))⟩),
  (29, ⟨1, 8, false, (.ptr 33), [.c (.sc (.pointer none))], none⟩),
  (31, ⟨1, 24, false, (.slice 5), [.c (.sc (.slice none 0 0))], some (.sl (.int .u8))⟩),
  (33, ⟨3, 40, true, (.struct [(0, 31), (1, 3), (2, 3)]), [.c (.sc (.slice none 0 0)), .c (.sc (.int .i64 (0 : Int))), .c (.sc (.int .i64 (0 : Int)))], some (.pair (.sl (.int .u8)) (.pair (.int .i64) (.int .i64)))⟩),
  (34, ⟨22, 104, true, (.struct [(0, 24), (16, 23), (17, 23), (18, 26)]), [.row 16 (.int .u32) (List.replicate 16 (0 : Int)), .c (.sc (.int .u32 (0 : Int))), .c (.sc (.int .u32 (0 : Int))), .row 4 (.int .u64) (List.replicate 4 (0 : Int))], some (.pair (.arr 16 (.int .u32)) (.pair (.int .u32) (.pair (.int .u32) (.arr 4 (.int .u64)))))⟩),
  (36, ⟨3, 24, true, (.struct [(0, 3), (1, 3), (2, 23)]), [.c (.sc (.int .i64 (0 : Int))), .c (.sc (.int .i64 (0 : Int))), .c (.sc (.int .u32 (0 : Int)))], some (.pair (.int .i64) (.pair (.int .i64) (.int .u32)))⟩),
  (42, ⟨4, 32, true, (.struct [(0, 3), (1, 3), (2, 3), (3, 3)]), [.c (.sc (.int .i64 (0 : Int))), .c (.sc (.int .i64 (0 : Int))), .c (.sc (.int .i64 (0 : Int))), .c (.sc (.int .i64 (0 : Int)))], some (.pair (.int .i64) (.pair (.int .i64) (.pair (.int .i64) (.int .i64))))⟩),
  (47, ⟨1, 8, false, .int .u64, [.c (.sc (.int .u64 (0 : Int)))], some (.int .u64)⟩),
  (55, ⟨1, 16, false, .iface, [.c (.err none)], none⟩),
  (57, ⟨1, 16, false, .iface, [.c (.err none)], none⟩),
  (59, ⟨1, 8, false, (.ptr 62), [.c (.sc (.pointer none))], none⟩),
  (60, ⟨4, 32, true, (.struct [(0, 3), (1, 3), (2, 3), (3, 3)]), [.c (.sc (.int .i64 (0 : Int))), .c (.sc (.int .i64 (0 : Int))), .c (.sc (.int .i64 (0 : Int))), .c (.sc (.int .i64 (0 : Int)))], some (.pair (.int .i64) (.pair (.int .i64) (.pair (.int .i64) (.int .i64))))⟩),
  (62, ⟨29, 168, true, (.struct [(0, 55), (1, 34), (23, 60), (27, 23), (28, 3)]), [.c (.err none), .row 16 (.int .u32) (List.replicate 16 (0 : Int)), .c (.sc (.int .u32 (0 : Int))), .c (.sc (.int .u32 (0 : Int))), .row 4 (.int .u64) (List.replicate 4 (0 : Int)), .c (.sc (.int .i64 (0 : Int))), .c (.sc (.int .i64 (0 : Int))), .c (.sc (.int .i64 (0 : Int))), .c (.sc (.int .i64 (0 : Int))), .c (.sc (.int .u32 (0 : Int))), .c (.sc (.int .i64 (0 : Int)))], none⟩),
  (64, ⟨2, 16, true, (.struct [(0, 3), (1, 23)]), [.c (.sc (.int .i64 (0 : Int))), .c (.sc (.int .u32 (0 : Int)))], some (.pair (.int .i64) (.int .u32))⟩),
  (66, ⟨1, 8, false, .int .i64, [.c (.sc (.int .i64 (0 : Int)))], some (.int .i64)⟩),
  (75, ⟨1, 2, false, .int .i16, [.c (.sc (.int .i16 (0 : Int)))], some (.int .i16)⟩)]
def tabs : List (Nat × IntKind × List Int) := []
def mts : List (TypeId × String × FuncId) := [(29, "Fetch", 83), (29, "Load", 84), (29, "Store", 85)]
noncomputable def cfg : Cfg := ⟨Try.prog, 66, [] ++ tabs.flatMap tabG, tiL, [34, 36], tabs, mts⟩
theorem cfg_ok : COk cfg := by
  refine ⟨fun p hp => ?_, by kernel_rfl, fun p hp => ?_, fun t ht => ?_, fun x hx y hy => List.mem_append_right _ (List.mem_flatMap.2 ⟨x, hx, hy⟩), fun e he v w => ?_⟩
  · simp only [cfg, tiL, List.mem_cons, List.not_mem_nil, or_false] at hp
    rcases hp with rfl | rfl | rfl | rfl | rfl | rfl | rfl | rfl | rfl | rfl | rfl | rfl | rfl | rfl | rfl | rfl | rfl | rfl | rfl | rfl | rfl | rfl | rfl | rfl | rfl | rfl | rfl | rfl <;> exact ⟨by kernel_rfl, by kernel_rfl, by kernel_rfl, by kernel_rfl, by kernel_rfl, by kernel_rfl⟩
  · simp only [cfg, tiL, List.mem_cons, List.not_mem_nil, or_false] at hp
    rcases hp with rfl | rfl | rfl | rfl | rfl | rfl | rfl | rfl | rfl | rfl | rfl | rfl | rfl | rfl | rfl | rfl | rfl | rfl | rfl | rfl | rfl | rfl | rfl | rfl | rfl | rfl | rfl | rfl <;> intro fs hfs bl hbl
    · cases hfs
    · cases hfs
    · cases hfs
    · cases hfs
    · cases hfs
    · cases hfs
    · cases hfs
    · cases hfs
    · cases hfs
    · cases hfs
    · cases hfs
    · cases hfs
    · cases hfs
      have e : fieldsZ cfg.L 0 [(0, 24), (16, 23), (17, 23), (18, 26)] = some [[.row 16 (.int .u32) (List.replicate 16 (0 : Int))], [.c (.sc (.int .u32 (0 : Int)))], [.c (.sc (.int .u32 (0 : Int)))], [.row 4 (.int .u64) (List.replicate 4 (0 : Int))]] := by kernel_rfl
      rw [e] at hbl
      cases hbl
      exact (by kernel_rfl : encPs (List.flatten [[.row 16 (.int .u32) (List.replicate 16 (0 : Int))], [.c (.sc (.int .u32 (0 : Int)))], [.c (.sc (.int .u32 (0 : Int)))], [.row 4 (.int .u64) (List.replicate 4 (0 : Int))]]) = encPs [.row 16 (.int .u32) (List.replicate 16 (0 : Int)), .c (.sc (.int .u32 (0 : Int))), .c (.sc (.int .u32 (0 : Int))), .row 4 (.int .u64) (List.replicate 4 (0 : Int))])
    · cases hfs
    · cases hfs
    · cases hfs
      have e : fieldsZ cfg.L 0 [(0, 31), (1, 3), (2, 3)] = some [[.c (.sc (.slice none 0 0))], [.c (.sc (.int .i64 (0 : Int)))], [.c (.sc (.int .i64 (0 : Int)))]] := by kernel_rfl
      rw [e] at hbl
      cases hbl
      exact (by kernel_rfl : encPs (List.flatten [[.c (.sc (.slice none 0 0))], [.c (.sc (.int .i64 (0 : Int)))], [.c (.sc (.int .i64 (0 : Int)))]]) = encPs [.c (.sc (.slice none 0 0)), .c (.sc (.int .i64 (0 : Int))), .c (.sc (.int .i64 (0 : Int)))])
    · cases hfs
      have e : fieldsZ cfg.L 0 [(0, 24), (16, 23), (17, 23), (18, 26)] = some [[.row 16 (.int .u32) (List.replicate 16 (0 : Int))], [.c (.sc (.int .u32 (0 : Int)))], [.c (.sc (.int .u32 (0 : Int)))], [.row 4 (.int .u64) (List.replicate 4 (0 : Int))]] := by kernel_rfl
      rw [e] at hbl
      cases hbl
      exact (by kernel_rfl : encPs (List.flatten [[.row 16 (.int .u32) (List.replicate 16 (0 : Int))], [.c (.sc (.int .u32 (0 : Int)))], [.c (.sc (.int .u32 (0 : Int)))], [.row 4 (.int .u64) (List.replicate 4 (0 : Int))]]) = encPs [.row 16 (.int .u32) (List.replicate 16 (0 : Int)), .c (.sc (.int .u32 (0 : Int))), .c (.sc (.int .u32 (0 : Int))), .row 4 (.int .u64) (List.replicate 4 (0 : Int))])
    · cases hfs
      have e : fieldsZ cfg.L 0 [(0, 3), (1, 3), (2, 23)] = some [[.c (.sc (.int .i64 (0 : Int)))], [.c (.sc (.int .i64 (0 : Int)))], [.c (.sc (.int .u32 (0 : Int)))]] := by kernel_rfl
      rw [e] at hbl
      cases hbl
      exact (by kernel_rfl : encPs (List.flatten [[.c (.sc (.int .i64 (0 : Int)))], [.c (.sc (.int .i64 (0 : Int)))], [.c (.sc (.int .u32 (0 : Int)))]]) = encPs [.c (.sc (.int .i64 (0 : Int))), .c (.sc (.int .i64 (0 : Int))), .c (.sc (.int .u32 (0 : Int)))])
    · cases hfs
      have e : fieldsZ cfg.L 0 [(0, 3), (1, 3), (2, 3), (3, 3)] = some [[.c (.sc (.int .i64 (0 : Int)))], [.c (.sc (.int .i64 (0 : Int)))], [.c (.sc (.int .i64 (0 : Int)))], [.c (.sc (.int .i64 (0 : Int)))]] := by kernel_rfl
      rw [e] at hbl
      cases hbl
      exact (by kernel_rfl : encPs (List.flatten [[.c (.sc (.int .i64 (0 : Int)))], [.c (.sc (.int .i64 (0 : Int)))], [.c (.sc (.int .i64 (0 : Int)))], [.c (.sc (.int .i64 (0 : Int)))]]) = encPs [.c (.sc (.int .i64 (0 : Int))), .c (.sc (.int .i64 (0 : Int))), .c (.sc (.int .i64 (0 : Int))), .c (.sc (.int .i64 (0 : Int)))])
    · cases hfs
    · cases hfs
    · cases hfs
    · cases hfs
    · cases hfs
      have e : fieldsZ cfg.L 0 [(0, 3), (1, 3), (2, 3), (3, 3)] = some [[.c (.sc (.int .i64 (0 : Int)))], [.c (.sc (.int .i64 (0 : Int)))], [.c (.sc (.int .i64 (0 : Int)))], [.c (.sc (.int .i64 (0 : Int)))]] := by kernel_rfl
      rw [e] at hbl
      cases hbl
      exact (by kernel_rfl : encPs (List.flatten [[.c (.sc (.int .i64 (0 : Int)))], [.c (.sc (.int .i64 (0 : Int)))], [.c (.sc (.int .i64 (0 : Int)))], [.c (.sc (.int .i64 (0 : Int)))]]) = encPs [.c (.sc (.int .i64 (0 : Int))), .c (.sc (.int .i64 (0 : Int))), .c (.sc (.int .i64 (0 : Int))), .c (.sc (.int .i64 (0 : Int)))])
    · cases hfs
      have e : fieldsZ cfg.L 0 [(0, 55), (1, 34), (23, 60), (27, 23), (28, 3)] = some [[.c (.err none)], [.row 16 (.int .u32) (List.replicate 16 (0 : Int)), .c (.sc (.int .u32 (0 : Int))), .c (.sc (.int .u32 (0 : Int))), .row 4 (.int .u64) (List.replicate 4 (0 : Int))], [.c (.sc (.int .i64 (0 : Int))), .c (.sc (.int .i64 (0 : Int))), .c (.sc (.int .i64 (0 : Int))), .c (.sc (.int .i64 (0 : Int)))], [.c (.sc (.int .u32 (0 : Int)))], [.c (.sc (.int .i64 (0 : Int)))]] := by kernel_rfl
      rw [e] at hbl
      cases hbl
      exact (by kernel_rfl : encPs (List.flatten [[.c (.err none)], [.row 16 (.int .u32) (List.replicate 16 (0 : Int)), .c (.sc (.int .u32 (0 : Int))), .c (.sc (.int .u32 (0 : Int))), .row 4 (.int .u64) (List.replicate 4 (0 : Int))], [.c (.sc (.int .i64 (0 : Int))), .c (.sc (.int .i64 (0 : Int))), .c (.sc (.int .i64 (0 : Int))), .c (.sc (.int .i64 (0 : Int)))], [.c (.sc (.int .u32 (0 : Int)))], [.c (.sc (.int .i64 (0 : Int)))]]) = encPs [.c (.err none), .row 16 (.int .u32) (List.replicate 16 (0 : Int)), .c (.sc (.int .u32 (0 : Int))), .c (.sc (.int .u32 (0 : Int))), .row 4 (.int .u64) (List.replicate 4 (0 : Int)), .c (.sc (.int .i64 (0 : Int))), .c (.sc (.int .i64 (0 : Int))), .c (.sc (.int .i64 (0 : Int))), .c (.sc (.int .i64 (0 : Int))), .c (.sc (.int .u32 (0 : Int))), .c (.sc (.int .i64 (0 : Int)))])
    · cases hfs
      have e : fieldsZ cfg.L 0 [(0, 3), (1, 23)] = some [[.c (.sc (.int .i64 (0 : Int)))], [.c (.sc (.int .u32 (0 : Int)))]] := by kernel_rfl
      rw [e] at hbl
      cases hbl
      exact (by kernel_rfl : encPs (List.flatten [[.c (.sc (.int .i64 (0 : Int)))], [.c (.sc (.int .u32 (0 : Int)))]]) = encPs [.c (.sc (.int .i64 (0 : Int))), .c (.sc (.int .u32 (0 : Int)))])
    · cases hfs
    · cases hfs
  · simp only [cfg, List.mem_cons, List.not_mem_nil, or_false] at ht
    rcases ht with rfl | rfl <;> kernel_rfl
  · simp only [cfg, mts, List.mem_cons, List.not_mem_nil, or_false] at he
    rcases he with rfl | rfl | rfl <;> kernel_rfl
def fin : Scr → List Adj
  | .adj l _ => l
  | _ => []
abbrev TY0 : Type := (List Int) × Int × Int × (List Int) × Int × Int × (List Int)
abbrev TY1 : Type := (List Int) × Int × Int × (List Int) × Int × Int × Int
abbrev TY2 : Type := (List Int) × Int × Int × (List Int) × Int × Int × Int × Int × Int × (List Int)
abbrev TY3 : Type := (List Int) × Int × Int × (List Int) × Int × Int × Int × Int × Int × Int × Int × (List Int)
abbrev TY4 : Type := Int × Int × Int × Int × Int × Int × Int × Int × Int × (List Int)
abbrev p10 {a0 a1 a2 a3 a4 a5 a6 a7 a8 a9 a10 a11 : Type} (x : a0 × a1 × a2 × a3 × a4 × a5 × a6 × a7 × a8 × a9 × a10 × a11) : a10 := x.2.2.2.2.2.2.2.2.2.2.1
abbrev p2 {a0 a1 a2 a3 : Type} (x : a0 × a1 × a2 × a3) : a2 := x.2.2.1
abbrev p3 {a0 a1 a2 a3 a4 : Type} (x : a0 × a1 × a2 × a3 × a4) : a3 := x.2.2.2.1
abbrev p4 {a0 a1 a2 a3 a4 a5 : Type} (x : a0 × a1 × a2 × a3 × a4 × a5) : a4 := x.2.2.2.2.1
abbrev p5 {a0 a1 a2 a3 a4 a5 a6 : Type} (x : a0 × a1 × a2 × a3 × a4 × a5 × a6) : a5 := x.2.2.2.2.2.1
abbrev p6 {a0 a1 a2 a3 a4 a5 a6 a7 : Type} (x : a0 × a1 × a2 × a3 × a4 × a5 × a6 × a7) : a6 := x.2.2.2.2.2.2.1
abbrev p7 {a0 a1 a2 a3 a4 a5 a6 a7 a8 : Type} (x : a0 × a1 × a2 × a3 × a4 × a5 × a6 × a7 × a8) : a7 := x.2.2.2.2.2.2.2.1
abbrev p8 {a0 a1 a2 a3 a4 a5 a6 a7 a8 a9 : Type} (x : a0 × a1 × a2 × a3 × a4 × a5 × a6 × a7 × a8 × a9) : a8 := x.2.2.2.2.2.2.2.2.1
abbrev p9 {a0 a1 a2 a3 a4 a5 a6 a7 a8 a9 a10 : Type} (x : a0 × a1 × a2 × a3 × a4 × a5 × a6 × a7 × a8 × a9 × a10) : a9 := x.2.2.2.2.2.2.2.2.2.1
abbrev z11 {a0 a1 a2 a3 a4 a5 a6 a7 a8 a9 a10 a11 : Type} (x : a0 × a1 × a2 × a3 × a4 × a5 × a6 × a7 × a8 × a9 × a10 × a11) : a11 := x.2.2.2.2.2.2.2.2.2.2.2
abbrev z2 {a0 a1 a2 : Type} (x : a0 × a1 × a2) : a2 := x.2.2
abbrev z3 {a0 a1 a2 a3 : Type} (x : a0 × a1 × a2 × a3) : a3 := x.2.2.2
abbrev z4 {a0 a1 a2 a3 a4 : Type} (x : a0 × a1 × a2 × a3 × a4) : a4 := x.2.2.2.2
abbrev z6 {a0 a1 a2 a3 a4 a5 a6 : Type} (x : a0 × a1 × a2 × a3 × a4 × a5 × a6) : a6 := x.2.2.2.2.2.2
abbrev z9 {a0 a1 a2 a3 a4 a5 a6 a7 a8 a9 : Type} (x : a0 × a1 × a2 × a3 × a4 × a5 × a6 × a7 × a8 × a9) : a9 := x.2.2.2.2.2.2.2.2.2
def errors_Is.f (a0 a1 : Option Int) : Option Bool := YtllannmegnklmaaF.errors_Is.f a0 a1
def errors_Is.R (r : Bool) : Tm := vb r
theorem errors_Is.fun_ {a0 a1 : Option Int} {r : Bool} (h : errors_Is.f a0 a1 = some r) : Fun cfg 23 [.one (.err a0), .one (.err a1)] [] (errors_Is.R r) [] := by
  refine Fun.of_below (f := 23) (fn := Try.f23) Try.func23 rfl (by kernel_rfl) (r := .bool r) (fun X => ⟨⟨rfl, rfl⟩, rfl⟩) fun X vs hE hvs hG => ?_
  obtain ⟨v, us, rfl, hv, v2, us2, rfl, hv2, rfl⟩ := hvs
  have hv : v = errV X.E a0 := hv.1
  have hv2 : v2 = errV X.E a1 := hv2.1
  have e : ∀ a, errV cfg.E a = YtllannmegnklmaaF.errV12 a := fun a => by cases a <;> rfl
  rw [hv, hv2, hE, e, e]
  exact YtllannmegnklmaaF.errors_Is.calls a0 a1 r X.w h
def soft_Add.f (a0 : Int) (a1 : Int) : Option Int := YtllannmegnklmaaF.soft_Add.f a0 a1
def soft_Add.R (r : Int) : Tm := vi .u64 r
theorem soft_Add.fun_ {a0 a1 r : Int} (h : soft_Add.f a0 a1 = some r) : Fun cfg 49 [.one (.sc (.int .u64 a0)), .one (.sc (.int .u64 a1))] [] (soft_Add.R r) [] := by
  refine Fun.of_below (f := 49) (fn := Try.f49) Try.func49 rfl (by kernel_rfl) (r := .int .u64 r) (fun X => ⟨⟨rfl, rfl⟩, rfl⟩) fun X vs hE hvs hG => ?_
  obtain ⟨v0, us0, rfl, hv0, v1, us1, rfl, hv1, rfl⟩ := hvs
  have hv0 : v0 = .int .u64 a0 := hv0.1.1
  have hv1 : v1 = .int .u64 a1 := hv1.1.1
  rw [hv0, hv1]
  exact YtllannmegnklmaaF.soft_Add.calls a0 a1 r X.w h
def soft_Sub.f (a0 : Int) (a1 : Int) : Option Int := YtllannmegnklmaaF.soft_Sub.f a0 a1
def soft_Sub.R (r : Int) : Tm := vi .u64 r
theorem soft_Sub.fun_ {a0 a1 r : Int} (h : soft_Sub.f a0 a1 = some r) : Fun cfg 50 [.one (.sc (.int .u64 a0)), .one (.sc (.int .u64 a1))] [] (soft_Sub.R r) [] := by
  refine Fun.of_below (f := 50) (fn := Try.f50) Try.func50 rfl (by kernel_rfl) (r := .int .u64 r) (fun X => ⟨⟨rfl, rfl⟩, rfl⟩) fun X vs hE hvs hG => ?_
  obtain ⟨v0, us0, rfl, hv0, v1, us1, rfl, hv1, rfl⟩ := hvs
  have hv0 : v0 = .int .u64 a0 := hv0.1.1
  have hv1 : v1 = .int .u64 a1 := hv1.1.1
  rw [hv0, hv1]
  exact YtllannmegnklmaaF.soft_Sub.calls a0 a1 r X.w h
def soft_Mul.f (a0 : Int) (a1 : Int) : Option Int := YtllannmegnklmaaF.soft_Mul.f a0 a1
def soft_Mul.R (r : Int) : Tm := vi .u64 r
theorem soft_Mul.fun_ {a0 a1 r : Int} (h : soft_Mul.f a0 a1 = some r) : Fun cfg 51 [.one (.sc (.int .u64 a0)), .one (.sc (.int .u64 a1))] [] (soft_Mul.R r) [] := by
  refine Fun.of_below (f := 51) (fn := Try.f51) Try.func51 rfl (by kernel_rfl) (r := .int .u64 r) (fun X => ⟨⟨rfl, rfl⟩, rfl⟩) fun X vs hE hvs hG => ?_
  obtain ⟨v0, us0, rfl, hv0, v1, us1, rfl, hv1, rfl⟩ := hvs
  have hv0 : v0 = .int .u64 a0 := hv0.1.1
  have hv1 : v1 = .int .u64 a1 := hv1.1.1
  rw [hv0, hv1]
  exact YtllannmegnklmaaF.soft_Mul.calls a0 a1 r X.w h
def soft_Div.f (a0 : Int) (a1 : Int) : Option Int := YtllannmegnklmaaF.soft_Div.f a0 a1
def soft_Div.R (r : Int) : Tm := vi .u64 r
theorem soft_Div.fun_ {a0 a1 r : Int} (h : soft_Div.f a0 a1 = some r) : Fun cfg 52 [.one (.sc (.int .u64 a0)), .one (.sc (.int .u64 a1))] [] (soft_Div.R r) [] := by
  refine Fun.of_below (f := 52) (fn := Try.f52) Try.func52 rfl (by kernel_rfl) (r := .int .u64 r) (fun X => ⟨⟨rfl, rfl⟩, rfl⟩) fun X vs hE hvs hG => ?_
  obtain ⟨v0, us0, rfl, hv0, v1, us1, rfl, hv1, rfl⟩ := hvs
  have hv0 : v0 = .int .u64 a0 := hv0.1.1
  have hv1 : v1 = .int .u64 a1 := hv1.1.1
  rw [hv0, hv1]
  exact YtllannmegnklmaaF.soft_Div.calls a0 a1 r X.w h
def soft_Cmp.f (a0 : Int) (a1 : Int) : Option Int := YtllannmegnklmaaF.soft_Cmp.f a0 a1
def soft_Cmp.R (r : Int) : Tm := vi .i64 r
theorem soft_Cmp.fun_ {a0 a1 r : Int} (h : soft_Cmp.f a0 a1 = some r) : Fun cfg 48 [.one (.sc (.int .u64 a0)), .one (.sc (.int .u64 a1))] [] (soft_Cmp.R r) [] := by
  refine Fun.of_below (f := 48) (fn := Try.f48) Try.func48 rfl (by kernel_rfl) (r := .int .i64 r) (fun X => ⟨⟨rfl, rfl⟩, rfl⟩) fun X vs hE hvs hG => ?_
  obtain ⟨v0, us0, rfl, hv0, v1, us1, rfl, hv1, rfl⟩ := hvs
  have hv0 : v0 = .int .u64 a0 := hv0.1.1
  have hv1 : v1 = .int .u64 a1 := hv1.1.1
  rw [hv0, hv1]
  exact YtllannmegnklmaaF.soft_Cmp.calls a0 a1 r X.w h
def soft_Sqrt.f (a0 : Int) : Option Int := YtllannmegnklmaaF.soft_Sqrt.f a0
def soft_Sqrt.R (r : Int) : Tm := vi .u64 r
theorem soft_Sqrt.fun_ {a0 r : Int} (h : soft_Sqrt.f a0 = some r) : Fun cfg 53 [.one (.sc (.int .u64 a0))] [] (soft_Sqrt.R r) [] := by
  refine Fun.of_below (f := 53) (fn := Try.f53) Try.func53 rfl (by kernel_rfl) (r := .int .u64 r) (fun X => ⟨⟨rfl, rfl⟩, rfl⟩) fun X vs hE hvs hG => ?_
  obtain ⟨v0, us0, rfl, hv0, rfl⟩ := hvs
  have hv0 : v0 = .int .u64 a0 := hv0.1.1
  rw [hv0]
  exact YtllannmegnklmaaF.soft_Sqrt.calls a0 r X.w h
def soft_FromInt.f (a0 : Int) : Option Int := YtllannmegnklmaaF.soft_FromInt.f a0
def soft_FromInt.R (r : Int) : Tm := vi .u64 r
theorem soft_FromInt.fun_ {a0 r : Int} (h : soft_FromInt.f a0 = some r) : Fun cfg 39 [.one (.sc (.int .u32 a0))] [] (soft_FromInt.R r) [] := by
  refine Fun.of_below (f := 39) (fn := Try.f39) Try.func39 rfl (by kernel_rfl) (r := .int .u64 r) (fun X => ⟨⟨rfl, rfl⟩, rfl⟩) fun X vs hE hvs hG => ?_
  obtain ⟨v0, us0, rfl, hv0, rfl⟩ := hvs
  have hv0 : v0 = .int .u32 a0 := hv0.1.1
  rw [hv0]
  exact YtllannmegnklmaaF.soft_FromInt.calls a0 r X.w h
def soft_ToInt.f (a0 : Int) : Option Int := YtllannmegnklmaaF.soft_ToInt.f a0
def soft_ToInt.R (r : Int) : Tm := vi .u32 r
theorem soft_ToInt.fun_ {a0 r : Int} (h : soft_ToInt.f a0 = some r) : Fun cfg 38 [.one (.sc (.int .u64 a0))] [] (soft_ToInt.R r) [] := by
  refine Fun.of_below (f := 38) (fn := Try.f38) Try.func38 rfl (by kernel_rfl) (r := .int .u32 r) (fun X => ⟨⟨rfl, rfl⟩, rfl⟩) fun X vs hE hvs hG => ?_
  obtain ⟨v0, us0, rfl, hv0, rfl⟩ := hvs
  have hv0 : v0 = .int .u64 a0 := hv0.1.1
  rw [hv0]
  exact YtllannmegnklmaaF.soft_ToInt.calls a0 r X.w h
def halterref01_Store.l0 (a1 : Int) : Nat → (List Int) → Int → Int → Option (List Int)
  | 0, _, _, _ => none
  | n + 1, x9, x10, x11 =>
    if x11 < a1 then
      if 0 ≤ x11 ∧ x11 < (((Int.toNat a1) : Nat) : Int) then
        if (0 + (Int.toNat x11)) < (Int.toNat a1) then
          halterref01_Store.l0 a1 n (List.set x9 (0 + (Int.toNat x11)) (IntKind.wrap .u8 ((Int.tmod x10 (256 : Int))))) (IntKind.wrap .i64 (Int.tdiv x10 (256 : Int))) (IntKind.wrap .i64 (x11 + (1 : Int)))
        else none
      else none
    else
      some x9
def halterref01_Store.l0_S (a1 : Int) (x9 : List Int) (x10 : Int) (x11 : Int) : St := ⟨([A, vi .i64 a1, A, A, A, A, .v (.one (.os 0 0 0 1 (Int.toNat a1) none)), vi .i64 x10, vi .i64 x11] ++ (rA 28 [])), [.ex false [.row (Int.toNat a1) (.int .u8) x9] 5], 0⟩
def halterref01_Store.l0_Q (a1 : Int) (t : (List Int)) : Exit → St → Prop := fun e s => e = (.exit 0) ∧ s = ⟨(rA 6 ([.v (.one (.os 0 0 0 1 (Int.toNat a1) none))] ++ (rA 30 []))), [.ex false [.row (Int.toNat a1) (.int .u8) t] 5], 0⟩
theorem halterref01_Store.l0_ok (a1 : Int) : ∀ (n : Nat) (x9 : List Int) (x10 : Int) (x11 : Int) (r : (List Int)), halterref01_Store.l0 a1 n x9 x10 x11 = some r → TripN cfg (cpath (Try.f13.body.getD .skip) [1, 1, 1, 1, 0, 1, 0, 0]) n (halterref01_Store.l0_S a1 x9 x10 x11) (halterref01_Store.l0_Q a1 r) := by
  intro n
  induction n with
  | zero => intro x9 x10 x11 r h; cases h
  | succ n ih =>
    intro x9 x10 x11 r h
    rw [halterref01_Store.l0] at h
    refine TripN.of_run cfg_ok (k := (.br (aE 5 (.adj [.keep [1, 6, 7, 8], .drop 1] .nil)) (.adj [.keep [6], .drop 1] .nil))) (to_goal (q := (U) ∧ (((decide (x11 < a1)) = true → (U ∧ (U ∧ (U ∧ ((256 : Int) ≠ 0) ∧ (U) ∧ (0 ≤ x11 ∧ x11 < (((Int.toNat a1) : Nat) : Int)) ∧ ((0 + (Int.toNat x11)) < (Int.toNat a1)) ∧ (U ∧ ((256 : Int) ≠ 0) ∧ (U ∧ (U) ∧ (((U) ∧ (U) ∧ U) ∧ TripN cfg (cpath (Try.f13.body.getD .skip) [1, 1, 1, 1, 0, 1, 0, 0]) n (halterref01_Store.l0_S a1 (List.set x9 (0 + (Int.toNat x11)) (IntKind.wrap .u8 ((Int.tmod x10 (256 : Int))))) (IntKind.wrap .i64 (Int.tdiv x10 (256 : Int))) (IntKind.wrap .i64 (x11 + (1 : Int)))) (halterref01_Store.l0_Q a1 r)))))))) ∧ ((decide (x11 < a1)) = false → (((U) ∧ (U) ∧ U) ∧ halterref01_Store.l0_Q a1 r (.exit 0) ⟨(rA 6 ([.v (.one (.os 0 0 0 1 (Int.toNat a1) none))] ++ (rA 30 []))), [.ex false [.row (Int.toNat a1) (.int .u8) x9] 5], 0⟩)))) (by kernel_rfl) ?_)
    refine tI ?_
    refine ⟨fun b17 => ?_, fun b17 => ?_⟩
    · rw [if_pos (dT_ b17)] at h
      refine ⟨T, T, T, ?_⟩
      refine ⟨(by decide), ?_⟩
      refine tI ?_
      obtain ⟨g19, h⟩ := of_guard h
      refine ⟨g19, ?_⟩
      obtain ⟨g18, h⟩ := of_guard h
      refine ⟨g18, ?_⟩
      refine tI ?_
      refine ⟨(by decide), ?_⟩
      refine ⟨T, T, ?_⟩
      exact ⟨⟨T, T, T⟩, ih (List.set x9 (0 + (Int.toNat x11)) (IntKind.wrap .u8 ((Int.tmod x10 (256 : Int))))) (IntKind.wrap .i64 (Int.tdiv x10 (256 : Int))) (IntKind.wrap .i64 (x11 + (1 : Int))) r h⟩
    · rw [if_neg (dF_ b17)] at h
      obtain rfl := oi h
      exact ⟨⟨T, T, T⟩, rfl, rfl⟩
def halterref01_Store.l1 (a1 : Int) : Nat → (List Int) → Int → Int → Option (List Int)
  | 0, _, _, _ => none
  | n + 1, x29, x30, x31 =>
    if x31 < a1 then
      if 0 ≤ x31 ∧ x31 < (((Int.toNat a1) : Nat) : Int) then
        if (0 + (Int.toNat x31)) < (Int.toNat a1) then
          halterref01_Store.l1 a1 n (List.set x29 (0 + (Int.toNat x31)) (IntKind.wrap .u8 ((Int.tmod x30 (256 : Int))))) (IntKind.wrap .i64 (Int.tdiv x30 (256 : Int))) (IntKind.wrap .i64 (x31 + (1 : Int)))
        else none
      else none
    else
      some x29
def halterref01_Store.l1_S (a1 : Int) (x29 : List Int) (x30 : Int) (x31 : Int) : St := ⟨([A, vi .i64 a1, A, A, A, A, .v (.one (.os 0 0 0 1 (Int.toNat a1) none)), vi .i64 x30, vi .i64 x31] ++ (rA 28 [])), [.ex false [.row (Int.toNat a1) (.int .u8) x29] 5], 0⟩
def halterref01_Store.l1_Q (a1 : Int) (t : (List Int)) : Exit → St → Prop := fun e s => e = (.exit 0) ∧ s = ⟨(rA 6 ([.v (.one (.os 0 0 0 1 (Int.toNat a1) none))] ++ (rA 30 []))), [.ex false [.row (Int.toNat a1) (.int .u8) t] 5], 0⟩
theorem halterref01_Store.l1_ok (a1 : Int) : ∀ (n : Nat) (x29 : List Int) (x30 : Int) (x31 : Int) (r : (List Int)), halterref01_Store.l1 a1 n x29 x30 x31 = some r → TripN cfg (cpath (Try.f13.body.getD .skip) [1, 1, 1, 1, 0, 1, 0, 0]) n (halterref01_Store.l1_S a1 x29 x30 x31) (halterref01_Store.l1_Q a1 r) := by
  intro n
  induction n with
  | zero => intro x29 x30 x31 r h; cases h
  | succ n ih =>
    intro x29 x30 x31 r h
    rw [halterref01_Store.l1] at h
    refine TripN.of_run cfg_ok (k := (.br (aE 5 (.adj [.keep [1, 6, 7, 8], .drop 1] .nil)) (.adj [.keep [6], .drop 1] .nil))) (to_goal (q := (U) ∧ (((decide (x31 < a1)) = true → (U ∧ (U ∧ (U ∧ ((256 : Int) ≠ 0) ∧ (U) ∧ (0 ≤ x31 ∧ x31 < (((Int.toNat a1) : Nat) : Int)) ∧ ((0 + (Int.toNat x31)) < (Int.toNat a1)) ∧ (U ∧ ((256 : Int) ≠ 0) ∧ (U ∧ (U) ∧ (((U) ∧ (U) ∧ U) ∧ TripN cfg (cpath (Try.f13.body.getD .skip) [1, 1, 1, 1, 0, 1, 0, 0]) n (halterref01_Store.l1_S a1 (List.set x29 (0 + (Int.toNat x31)) (IntKind.wrap .u8 ((Int.tmod x30 (256 : Int))))) (IntKind.wrap .i64 (Int.tdiv x30 (256 : Int))) (IntKind.wrap .i64 (x31 + (1 : Int)))) (halterref01_Store.l1_Q a1 r)))))))) ∧ ((decide (x31 < a1)) = false → (((U) ∧ (U) ∧ U) ∧ halterref01_Store.l1_Q a1 r (.exit 0) ⟨(rA 6 ([.v (.one (.os 0 0 0 1 (Int.toNat a1) none))] ++ (rA 30 []))), [.ex false [.row (Int.toNat a1) (.int .u8) x29] 5], 0⟩)))) (by kernel_rfl) ?_)
    refine tI ?_
    refine ⟨fun b37 => ?_, fun b37 => ?_⟩
    · rw [if_pos (dT_ b37)] at h
      refine ⟨T, T, T, ?_⟩
      refine ⟨(by decide), ?_⟩
      refine tI ?_
      obtain ⟨g39, h⟩ := of_guard h
      refine ⟨g39, ?_⟩
      obtain ⟨g38, h⟩ := of_guard h
      refine ⟨g38, ?_⟩
      refine tI ?_
      refine ⟨(by decide), ?_⟩
      refine ⟨T, T, ?_⟩
      exact ⟨⟨T, T, T⟩, ih (List.set x29 (0 + (Int.toNat x31)) (IntKind.wrap .u8 ((Int.tmod x30 (256 : Int))))) (IntKind.wrap .i64 (Int.tdiv x30 (256 : Int))) (IntKind.wrap .i64 (x31 + (1 : Int))) r h⟩
    · rw [if_neg (dF_ b37)] at h
      obtain rfl := oi h
      exact ⟨⟨T, T, T⟩, rfl, rfl⟩
def halterref01_Store.l2 (a1 : Int) : Nat → (List Int) → Int → Int → Option (List Int)
  | 0, _, _, _ => none
  | n + 1, x49, x50, x51 =>
    if x51 < a1 then
      if 0 ≤ x51 ∧ x51 < (((Int.toNat a1) : Nat) : Int) then
        if (0 + (Int.toNat x51)) < (Int.toNat a1) then
          halterref01_Store.l2 a1 n (List.set x49 (0 + (Int.toNat x51)) (IntKind.wrap .u8 ((Int.tmod x50 (256 : Int))))) (IntKind.wrap .i64 (Int.tdiv x50 (256 : Int))) (IntKind.wrap .i64 (x51 + (1 : Int)))
        else none
      else none
    else
      some x49
def halterref01_Store.l2_S (a1 : Int) (x49 : List Int) (x50 : Int) (x51 : Int) : St := ⟨([A, vi .i64 a1, A, A, A, A, .v (.one (.os 0 0 0 1 (Int.toNat a1) none)), vi .i64 x50, vi .i64 x51] ++ (rA 28 [])), [.ex false [.row (Int.toNat a1) (.int .u8) x49] 5], 0⟩
def halterref01_Store.l2_Q (a1 : Int) (t : (List Int)) : Exit → St → Prop := fun e s => e = (.exit 0) ∧ s = ⟨(rA 6 ([.v (.one (.os 0 0 0 1 (Int.toNat a1) none))] ++ (rA 30 []))), [.ex false [.row (Int.toNat a1) (.int .u8) t] 5], 0⟩
theorem halterref01_Store.l2_ok (a1 : Int) : ∀ (n : Nat) (x49 : List Int) (x50 : Int) (x51 : Int) (r : (List Int)), halterref01_Store.l2 a1 n x49 x50 x51 = some r → TripN cfg (cpath (Try.f13.body.getD .skip) [1, 1, 1, 1, 0, 1, 0, 0]) n (halterref01_Store.l2_S a1 x49 x50 x51) (halterref01_Store.l2_Q a1 r) := by
  intro n
  induction n with
  | zero => intro x49 x50 x51 r h; cases h
  | succ n ih =>
    intro x49 x50 x51 r h
    rw [halterref01_Store.l2] at h
    refine TripN.of_run cfg_ok (k := (.br (aE 5 (.adj [.keep [1, 6, 7, 8], .drop 1] .nil)) (.adj [.keep [6], .drop 1] .nil))) (to_goal (q := (U) ∧ (((decide (x51 < a1)) = true → (U ∧ (U ∧ (U ∧ ((256 : Int) ≠ 0) ∧ (U) ∧ (0 ≤ x51 ∧ x51 < (((Int.toNat a1) : Nat) : Int)) ∧ ((0 + (Int.toNat x51)) < (Int.toNat a1)) ∧ (U ∧ ((256 : Int) ≠ 0) ∧ (U ∧ (U) ∧ (((U) ∧ (U) ∧ U) ∧ TripN cfg (cpath (Try.f13.body.getD .skip) [1, 1, 1, 1, 0, 1, 0, 0]) n (halterref01_Store.l2_S a1 (List.set x49 (0 + (Int.toNat x51)) (IntKind.wrap .u8 ((Int.tmod x50 (256 : Int))))) (IntKind.wrap .i64 (Int.tdiv x50 (256 : Int))) (IntKind.wrap .i64 (x51 + (1 : Int)))) (halterref01_Store.l2_Q a1 r)))))))) ∧ ((decide (x51 < a1)) = false → (((U) ∧ (U) ∧ U) ∧ halterref01_Store.l2_Q a1 r (.exit 0) ⟨(rA 6 ([.v (.one (.os 0 0 0 1 (Int.toNat a1) none))] ++ (rA 30 []))), [.ex false [.row (Int.toNat a1) (.int .u8) x49] 5], 0⟩)))) (by kernel_rfl) ?_)
    refine tI ?_
    refine ⟨fun b57 => ?_, fun b57 => ?_⟩
    · rw [if_pos (dT_ b57)] at h
      refine ⟨T, T, T, ?_⟩
      refine ⟨(by decide), ?_⟩
      refine tI ?_
      obtain ⟨g59, h⟩ := of_guard h
      refine ⟨g59, ?_⟩
      obtain ⟨g58, h⟩ := of_guard h
      refine ⟨g58, ?_⟩
      refine tI ?_
      refine ⟨(by decide), ?_⟩
      refine ⟨T, T, ?_⟩
      exact ⟨⟨T, T, T⟩, ih (List.set x49 (0 + (Int.toNat x51)) (IntKind.wrap .u8 ((Int.tmod x50 (256 : Int))))) (IntKind.wrap .i64 (Int.tdiv x50 (256 : Int))) (IntKind.wrap .i64 (x51 + (1 : Int))) r h⟩
    · rw [if_neg (dF_ b57)] at h
      obtain rfl := oi h
      exact ⟨⟨T, T, T⟩, rfl, rfl⟩
def halterref01_Store.f (a0 : Int) (a1 : Int) : Option ((List Int) × Int) :=
  if ¬ a1 = (1 : Int) then
    if ¬ a1 = (2 : Int) then
      if ¬ a1 = (4 : Int) then
        some (([] : List Int), (22 : Int))
      else
        if 0 ≤ a1 ∧ a1 = a1 ∧ (1 : Int) * a1 ≤ 281474976710656 ∧ a1 ≤ 9223372036854775807 then
          (halterref01_Store.l0 a1 FUEL (List.replicate (Int.toNat a1) (0 : Int)) (IntKind.wrap .i64 (a0)) (0 : Int)).bind fun t16 =>
          if (0 + (Int.toNat a1) ≤ (Int.toNat a1)) ∧ U then
            some ((List.take (Int.toNat a1) t16), (0 : Int))
          else none
        else none
    else
      if 0 ≤ a1 ∧ a1 = a1 ∧ (1 : Int) * a1 ≤ 281474976710656 ∧ a1 ≤ 9223372036854775807 then
        (halterref01_Store.l1 a1 FUEL (List.replicate (Int.toNat a1) (0 : Int)) (IntKind.wrap .i64 (a0)) (0 : Int)).bind fun t36 =>
        if (0 + (Int.toNat a1) ≤ (Int.toNat a1)) ∧ U then
          some ((List.take (Int.toNat a1) t36), (0 : Int))
        else none
      else none
  else
    if 0 ≤ a1 ∧ a1 = a1 ∧ (1 : Int) * a1 ≤ 281474976710656 ∧ a1 ≤ 9223372036854775807 then
      (halterref01_Store.l2 a1 FUEL (List.replicate (Int.toNat a1) (0 : Int)) (IntKind.wrap .i64 (a0)) (0 : Int)).bind fun t56 =>
      if (0 + (Int.toNat a1) ≤ (Int.toNat a1)) ∧ U then
        some ((List.take (Int.toNat a1) t56), (0 : Int))
      else none
    else none
def halterref01_Store.R (r : (List Int) × Int) : Tm := .tup [.one (.fs (.int .u8) r.1 false), .one (.sc (.int .i64 r.2))]
theorem halterref01_Store.fun_ {a0 : Int} {a1 : Int} {r : (List Int) × Int} (h : halterref01_Store.f a0 a1 = some r) : Fun cfg 13 [.one (.sc (.int .u32 a0)), .one (.sc (.int .i64 a1))] [] (halterref01_Store.R r) [] := by
  unfold halterref01_Store.f at h
  refine fun_of_run cfg_ok (f := 13) (fn := Try.f13) Try.func13 rfl (by kernel_rfl) (rs := [.tmp 4, .tmp 5]) rfl (nt := 37) rfl (l := fin) (k := (.br (oT 2 (.br (oT 2 (.br (aE 2 (.adj [.co 0 true [(.int .u8)]] .nil)) (.d .no (aE 3 (.adj [.keep [1, 6, 7, 8], .nocap] (.sub ((List Int)) (fun _ => (.exit 0)) (fun t16 => ⟨(rA 6 ([.v (.one (.os 0 0 0 1 (Int.toNat a1) none))] ++ (rA 30 []))), [.ex false [.row (Int.toNat a1) (.int .u8) t16] 5], 0⟩) (fun t16 => (aE 2 (.adj [.co 0 false [], .drop 0] .nil))))))))) (oF 3 (.d .no (aE 3 (.adj [.keep [1, 6, 7, 8], .nocap] (.sub ((List Int)) (fun _ => (.exit 0)) (fun t36 => ⟨(rA 6 ([.v (.one (.os 0 0 0 1 (Int.toNat a1) none))] ++ (rA 30 []))), [.ex false [.row (Int.toNat a1) (.int .u8) t36] 5], 0⟩) (fun t36 => (aE 2 (.adj [.co 0 false [], .drop 0] .nil)))))))))) (oF 6 (.d .no (aE 3 (.adj [.keep [1, 6, 7, 8], .nocap] (.sub ((List Int)) (fun _ => (.exit 0)) (fun t56 => ⟨(rA 6 ([.v (.one (.os 0 0 0 1 (Int.toNat a1) none))] ++ (rA 30 []))), [.ex false [.row (Int.toNat a1) (.int .u8) t56] 5], 0⟩) (fun t56 => (aE 2 (.adj [.co 0 false [], .drop 0] .nil)))))))))) (to_goal (q := (U) ∧ (((a1 != (1 : Int)) = true → ((a1 != (1 : Int)) = true ∧ (U) ∧ ((a1 != (1 : Int)) = true ∧ (((a1 != (2 : Int)) = true → ((a1 != (2 : Int)) = true ∧ (U) ∧ ((a1 != (2 : Int)) = true ∧ (((a1 != (4 : Int)) = true → (U ∧ (U ∧ ((U) ∧ ((U) ∧ U) ∧ (.tup [.one (.fs (.int .u8) ([] : List Int) false), .one (.sc (.int .i64 (22 : Int)))] : Tm) = halterref01_Store.R r ∧ ([] : List Box) = [])))) ∧ ((a1 != (4 : Int)) = false → (0 ≤ a1 ∧ a1 = a1 ∧ (1 : Int) * a1 ≤ 281474976710656 ∧ a1 ≤ 9223372036854775807) ∧ (U ∧ (U) ∧ (U ∧ (U ∧ (((U) ∧ (U) ∧ U) ∧ (∃ t16 : (List Int), Trip cfg (.loop (cpath (Try.f13.body.getD .skip) [1, 1, 1, 1, 0, 1, 0, 0])) ⟨([A, vi .i64 a1, A, A, A, A, .v (.one (.os 0 0 0 1 (Int.toNat a1) none)), vi .i64 (IntKind.wrap .i64 (a0)), vi .i64 (0 : Int)] ++ (rA 28 [])), [.ex false [.row (Int.toNat a1) (.int .u8) (List.replicate (Int.toNat a1) (0 : Int))] 5], 0⟩ (fun e s => e = (.exit 0) ∧ s = ⟨(rA 6 ([.v (.one (.os 0 0 0 1 (Int.toNat a1) none))] ++ (rA 30 []))), [.ex false [.row (Int.toNat a1) (.int .u8) t16] 5], 0⟩) ∧ (U ∧ (U ∧ ((U) ∧ (((0 + (Int.toNat a1) ≤ (Int.toNat a1)) ∧ U) ∧ (U) ∧ U) ∧ (.tup [.one (.fs (.int .u8) (List.take (Int.toNat a1) t16) false), .one (.sc (.int .i64 (0 : Int)))] : Tm) = halterref01_Store.R r ∧ ([] : List Box) = []))))))))))))) ∧ ((a1 != (2 : Int)) = false → ((a1 != (2 : Int)) = false ∧ ((a1 != (2 : Int)) = false ∧ (false = false ∧ (0 ≤ a1 ∧ a1 = a1 ∧ (1 : Int) * a1 ≤ 281474976710656 ∧ a1 ≤ 9223372036854775807) ∧ (U ∧ (U) ∧ (U ∧ (U ∧ (((U) ∧ (U) ∧ U) ∧ (∃ t36 : (List Int), Trip cfg (.loop (cpath (Try.f13.body.getD .skip) [1, 1, 1, 1, 0, 1, 0, 0])) ⟨([A, vi .i64 a1, A, A, A, A, .v (.one (.os 0 0 0 1 (Int.toNat a1) none)), vi .i64 (IntKind.wrap .i64 (a0)), vi .i64 (0 : Int)] ++ (rA 28 [])), [.ex false [.row (Int.toNat a1) (.int .u8) (List.replicate (Int.toNat a1) (0 : Int))] 5], 0⟩ (fun e s => e = (.exit 0) ∧ s = ⟨(rA 6 ([.v (.one (.os 0 0 0 1 (Int.toNat a1) none))] ++ (rA 30 []))), [.ex false [.row (Int.toNat a1) (.int .u8) t36] 5], 0⟩) ∧ (U ∧ (U ∧ ((U) ∧ (((0 + (Int.toNat a1) ≤ (Int.toNat a1)) ∧ U) ∧ (U) ∧ U) ∧ (.tup [.one (.fs (.int .u8) (List.take (Int.toNat a1) t36) false), .one (.sc (.int .i64 (0 : Int)))] : Tm) = halterref01_Store.R r ∧ ([] : List Box) = [])))))))))))))))) ∧ ((a1 != (1 : Int)) = false → ((a1 != (1 : Int)) = false ∧ ((a1 != (1 : Int)) = false ∧ (false = false ∧ (false = false ∧ (false = false ∧ (false = false ∧ (0 ≤ a1 ∧ a1 = a1 ∧ (1 : Int) * a1 ≤ 281474976710656 ∧ a1 ≤ 9223372036854775807) ∧ (U ∧ (U) ∧ (U ∧ (U ∧ (((U) ∧ (U) ∧ U) ∧ (∃ t56 : (List Int), Trip cfg (.loop (cpath (Try.f13.body.getD .skip) [1, 1, 1, 1, 0, 1, 0, 0])) ⟨([A, vi .i64 a1, A, A, A, A, .v (.one (.os 0 0 0 1 (Int.toNat a1) none)), vi .i64 (IntKind.wrap .i64 (a0)), vi .i64 (0 : Int)] ++ (rA 28 [])), [.ex false [.row (Int.toNat a1) (.int .u8) (List.replicate (Int.toNat a1) (0 : Int))] 5], 0⟩ (fun e s => e = (.exit 0) ∧ s = ⟨(rA 6 ([.v (.one (.os 0 0 0 1 (Int.toNat a1) none))] ++ (rA 30 []))), [.ex false [.row (Int.toNat a1) (.int .u8) t56] 5], 0⟩) ∧ (U ∧ (U ∧ ((U) ∧ (((0 + (Int.toNat a1) ≤ (Int.toNat a1)) ∧ U) ∧ (U) ∧ U) ∧ (.tup [.one (.fs (.int .u8) (List.take (Int.toNat a1) t56) false), .one (.sc (.int .i64 (0 : Int)))] : Tm) = halterref01_Store.R r ∧ ([] : List Box) = []))))))))))))))))) (by kernel_rfl) ?_)
  refine tI ?_
  refine ⟨fun b1 => ?_, fun b1 => ?_⟩
  · rw [if_pos (bne_t b1)] at h
    refine ⟨b1, ?_⟩
    refine tI ?_
    refine ⟨b1, ?_⟩
    refine ⟨fun b2 => ?_, fun b2 => ?_⟩
    · rw [if_pos (bne_t b2)] at h
      refine ⟨b2, ?_⟩
      refine tI ?_
      refine ⟨b2, ?_⟩
      refine ⟨fun b3 => ?_, fun b3 => ?_⟩
      · rw [if_pos (bne_t b3)] at h
        refine ⟨T, T, ?_⟩
        obtain rfl := oi h
        exact ⟨T, ⟨T, T⟩, rfl, rfl⟩
      · rw [if_neg (not_not_intro (bne_f b3))] at h
        obtain ⟨g23, h⟩ := of_guard h
        refine ⟨g23, ?_⟩
        refine ⟨T, T, T, T, ?_⟩
        obtain ⟨t16, ht16, h⟩ := of_bind h
        refine ⟨⟨T, T, T⟩, t16, Trip.loop FUEL (halterref01_Store.l0_ok a1 FUEL (List.replicate (Int.toNat a1) (0 : Int)) (IntKind.wrap .i64 (a0)) (0 : Int) t16 ht16), ?_⟩
        refine ⟨T, T, ?_⟩
        obtain ⟨g22, h⟩ := of_guard h
        obtain rfl := oi h
        exact ⟨T, ⟨g22, T, T⟩, rfl, rfl⟩
    · rw [if_neg (not_not_intro (bne_f b2))] at h
      refine ⟨b2, ?_⟩
      refine ⟨b2, ?_⟩
      refine ⟨rfl, ?_⟩
      obtain ⟨g43, h⟩ := of_guard h
      refine ⟨g43, ?_⟩
      refine ⟨T, T, T, T, ?_⟩
      obtain ⟨t36, ht36, h⟩ := of_bind h
      refine ⟨⟨T, T, T⟩, t36, Trip.loop FUEL (halterref01_Store.l1_ok a1 FUEL (List.replicate (Int.toNat a1) (0 : Int)) (IntKind.wrap .i64 (a0)) (0 : Int) t36 ht36), ?_⟩
      refine ⟨T, T, ?_⟩
      obtain ⟨g42, h⟩ := of_guard h
      obtain rfl := oi h
      exact ⟨T, ⟨g42, T, T⟩, rfl, rfl⟩
  · rw [if_neg (not_not_intro (bne_f b1))] at h
    refine ⟨b1, ?_⟩
    refine ⟨b1, ?_⟩
    refine ⟨rfl, rfl, rfl, rfl, ?_⟩
    obtain ⟨g63, h⟩ := of_guard h
    refine ⟨g63, ?_⟩
    refine ⟨T, T, T, T, ?_⟩
    obtain ⟨t56, ht56, h⟩ := of_bind h
    refine ⟨⟨T, T, T⟩, t56, Trip.loop FUEL (halterref01_Store.l2_ok a1 FUEL (List.replicate (Int.toNat a1) (0 : Int)) (IntKind.wrap .i64 (a0)) (0 : Int) t56 ht56), ?_⟩
    refine ⟨T, T, ?_⟩
    obtain ⟨g62, h⟩ := of_guard h
    obtain rfl := oi h
    exact ⟨T, ⟨g62, T, T⟩, rfl, rfl⟩
def halterlaw12_laid.l0 (a0 : (List Int)) : Nat → (List Int) → Int → Option (List Int)
  | 0, _, _ => none
  | n + 1, x13, x14 =>
    if x14 < (((List.length a0) : Nat) : Int) then
      if x14 < (64 : Int) then
        if 0 ≤ x14 ∧ x14 < (((List.length a0) : Nat) : Int) then
          (halterref01_Store.f (List.getD a0 (Int.toNat x14) (0 : Int)) (4 : Int)).bind fun t24 =>
          if U ∧ 0 = 0 ∧ (List.length x13) = (List.length x13) ∧ (((List.length x13) + (List.length t24.1)) * 1 ≤ 140737488355328 ∧ (List.length x13) + (List.length t24.1) ≤ 9223372036854775807) then
            halterlaw12_laid.l0 a0 n (x13 ++ t24.1) (IntKind.wrap .i64 (x14 + (1 : Int)))
          else none
        else none
      else
        some x13
    else
      some x13
def halterlaw12_laid.l0_S (a0 : (List Int)) (x13 : List Int) (x14 : Int) : St := ⟨([.v (.one (.fs (.int .u32) a0 false)), A, A, P0, vi .i64 x14] ++ (rA 32 [])), [.ex false [.c (.os 1 0 0 1 (List.length x13) none), .c (.sc (.int .i64 (0 : Int))), .c (.sc (.int .i64 (0 : Int)))] 33, .gro false (.int .u8) x13 5], 0⟩
def halterlaw12_laid.l0_Q (a0 : (List Int)) (t : (List Int)) : Exit → St → Prop := fun e s => e = (.exit 0) ∧ s = ⟨([A, A, A, P0] ++ (rA 33 [])), [.ex false [.c (.os 1 0 0 1 (List.length t) none), .c (.sc (.int .i64 (0 : Int))), .c (.sc (.int .i64 (0 : Int)))] 33, .gro false (.int .u8) t 5], 0⟩
theorem halterlaw12_laid.l0_ok (a0 : (List Int)) : ∀ (n : Nat) (x13 : List Int) (x14 : Int) (r : (List Int)), halterlaw12_laid.l0 a0 n x13 x14 = some r → TripN cfg (cpath (Try.f6.body.getD .skip) [1, 1, 0, 1, 0, 0]) n (halterlaw12_laid.l0_S a0 x13 x14) (halterlaw12_laid.l0_Q a0 r) := by
  intro n
  induction n with
  | zero => intro x13 x14 r h; cases h
  | succ n ih =>
    intro x13 x14 r h
    rw [halterlaw12_laid.l0] at h
    refine TripN.of_run cfg_ok (k := (.br (oT 2 (.br (.call true [] ((List Int) × Int) halterref01_Store.R (fun t24 => (.d (.mv false) (.adj [] (.adj [.keep [0, 3, 4], .drop 2] .nil))))) (.adj [.keep [3], .drop 2] .nil))) (oF 3 (.adj [.keep [3], .drop 2] .nil)))) (to_goal (q := (U) ∧ (U) ∧ (((decide (x14 < (((List.length a0) : Nat) : Int))) = true → ((decide (x14 < (((List.length a0) : Nat) : Int))) = true ∧ (U) ∧ ((decide (x14 < (((List.length a0) : Nat) : Int))) = true ∧ (((decide (x14 < (64 : Int))) = true → (0 ≤ x14 ∧ x14 < (((List.length a0) : Nat) : Int)) ∧ (U) ∧ (∃ t24 : (List Int) × Int, (Fun cfg 13 [.one (.sc (.int .u32 (List.getD a0 (Int.toNat x14) (0 : Int)))), .one (.sc (.int .i64 (4 : Int)))] [] (halterref01_Store.R t24) [] ∧ U) ∧ (U) ∧ (U ∧ 0 = 0 ∧ (List.length x13) = (List.length x13) ∧ (((List.length x13) + (List.length t24.1)) * 1 ≤ 140737488355328 ∧ (List.length x13) + (List.length t24.1) ≤ 9223372036854775807)) ∧ (U) ∧ (U ∧ (U) ∧ (((U) ∧ (U) ∧ U) ∧ TripN cfg (cpath (Try.f6.body.getD .skip) [1, 1, 0, 1, 0, 0]) n (halterlaw12_laid.l0_S a0 (x13 ++ t24.1) (IntKind.wrap .i64 (x14 + (1 : Int)))) (halterlaw12_laid.l0_Q a0 r))))) ∧ ((decide (x14 < (64 : Int))) = false → (((U) ∧ (U) ∧ U) ∧ halterlaw12_laid.l0_Q a0 r (.exit 0) ⟨([A, A, A, P0] ++ (rA 33 [])), [.ex false [.c (.os 1 0 0 1 (List.length x13) none), .c (.sc (.int .i64 (0 : Int))), .c (.sc (.int .i64 (0 : Int)))] 33, .gro false (.int .u8) x13 5], 0⟩)))))) ∧ ((decide (x14 < (((List.length a0) : Nat) : Int))) = false → ((decide (x14 < (((List.length a0) : Nat) : Int))) = false ∧ ((decide (x14 < (((List.length a0) : Nat) : Int))) = false ∧ (false = false ∧ (((U) ∧ (U) ∧ U) ∧ halterlaw12_laid.l0_Q a0 r (.exit 0) ⟨([A, A, A, P0] ++ (rA 33 [])), [.ex false [.c (.os 1 0 0 1 (List.length x13) none), .c (.sc (.int .i64 (0 : Int))), .c (.sc (.int .i64 (0 : Int)))] 33, .gro false (.int .u8) x13 5], 0⟩))))))) (by kernel_rfl) ?_)
    refine ⟨T, T, ?_⟩
    refine ⟨fun b22 => ?_, fun b22 => ?_⟩
    · rw [if_pos (dT_ b22)] at h
      refine ⟨b22, ?_⟩
      refine tI ?_
      refine ⟨b22, ?_⟩
      refine ⟨fun b23 => ?_, fun b23 => ?_⟩
      · rw [if_pos (dT_ b23)] at h
        obtain ⟨g26, h⟩ := of_guard h
        refine ⟨g26, ?_⟩
        refine tI ?_
        obtain ⟨t24, ht24, h⟩ := of_bind h
        refine ⟨t24, ⟨halterref01_Store.fun_ ht24, T⟩, ?_⟩
        refine tI ?_
        obtain ⟨g25, h⟩ := of_guard h
        refine ⟨g25, ?_⟩
        refine ⟨T, T, T, ?_⟩
        exact ⟨⟨T, T, T⟩, ih (x13 ++ t24.1) (IntKind.wrap .i64 (x14 + (1 : Int))) r h⟩
      · rw [if_neg (dF_ b23)] at h
        obtain rfl := oi h
        exact ⟨⟨T, T, T⟩, rfl, rfl⟩
    · rw [if_neg (dF_ b22)] at h
      refine ⟨b22, ?_⟩
      refine ⟨b22, ?_⟩
      refine ⟨rfl, ?_⟩
      obtain rfl := oi h
      exact ⟨⟨T, T, T⟩, rfl, rfl⟩
def halterlaw12_laid.f (a0 : (List Int)) : Option (Int × Int × (List Int)) :=
  (halterlaw12_laid.l0 a0 FUEL ([] : List Int) (0 : Int)).bind fun t21 =>
  some ((0 : Int), (0 : Int), t21)
def halterlaw12_laid.R (r : Int × Int × (List Int)) : Tm := P0
def halterlaw12_laid.B (a0 : (List Int)) (r : Int × Int × (List Int)) : List Box := [.ex false [.c (.os 1 0 0 1 (List.length r.2.2) none), .c (.sc (.int .i64 r.1)), .c (.sc (.int .i64 r.2.1))] 33, .gro false (.int .u8) r.2.2 5]
theorem halterlaw12_laid.fun_ {a0 : (List Int)} {r : Int × Int × (List Int)} (h : halterlaw12_laid.f a0 = some r) : Fun cfg 6 [.one (.fs (.int .u32) a0 false)] [] (halterlaw12_laid.R r) (halterlaw12_laid.B a0 r) := by
  unfold halterlaw12_laid.f at h
  refine fun_of_run cfg_ok (f := 6) (fn := Try.f6) Try.func6 rfl (by kernel_rfl) (rs := [.tmp 2]) rfl (nt := 37) rfl (l := fin) (k := (aE 4 (.adj [.keep [0, 3, 4], .newG (.int .u8) 5, .nilB 0 0 1 1] (.sub ((List Int)) (fun _ => (.exit 0)) (fun t21 => ⟨([A, A, A, P0] ++ (rA 33 [])), [.ex false [.c (.os 1 0 0 1 (List.length t21) none), .c (.sc (.int .i64 (0 : Int))), .c (.sc (.int .i64 (0 : Int)))] 33, .gro false (.int .u8) t21 5], 0⟩) (fun t21 => (aE 3 .nil)))))) (to_goal (q := (U ∧ (U ∧ (U ∧ (U ∧ (((U) ∧ (U) ∧ (U) ∧ U) ∧ (∃ t21 : (List Int), Trip cfg (.loop (cpath (Try.f6.body.getD .skip) [1, 1, 0, 1, 0, 0])) ⟨([.v (.one (.fs (.int .u32) a0 false)), A, A, P0, vi .i64 (0 : Int)] ++ (rA 32 [])), [.ex false [.c (.os 1 0 0 1 0 none), .c (.sc (.int .i64 (0 : Int))), .c (.sc (.int .i64 (0 : Int)))] 33, .gro false (.int .u8) ([] : List Int) 5], 0⟩ (fun e s => e = (.exit 0) ∧ s = ⟨([A, A, A, P0] ++ (rA 33 [])), [.ex false [.c (.os 1 0 0 1 (List.length t21) none), .c (.sc (.int .i64 (0 : Int))), .c (.sc (.int .i64 (0 : Int)))] 33, .gro false (.int .u8) t21 5], 0⟩) ∧ (U ∧ (U ∧ ((U) ∧ (U) ∧ (P0 : Tm) = halterlaw12_laid.R r ∧ ([.ex false [.c (.os 1 0 0 1 (List.length t21) none), .c (.sc (.int .i64 (0 : Int))), .c (.sc (.int .i64 (0 : Int)))] 33, .gro false (.int .u8) t21 5] : List Box) = halterlaw12_laid.B a0 r)))))))))) (by kernel_rfl) ?_)
  refine ⟨T, T, T, T, ?_⟩
  obtain ⟨t21, ht21, h⟩ := of_bind h
  refine ⟨⟨T, T, T, T⟩, t21, Trip.loop FUEL (halterlaw12_laid.l0_ok a0 FUEL ([] : List Int) (0 : Int) t21 ht21), ?_⟩
  refine ⟨T, T, ?_⟩
  obtain rfl := oi h
  exact ⟨T, T, rfl, rfl⟩
def regs_Check.f (a0 : (List Int)) (a1 : Int) (a2 : Int) (a3 : (List Int)) : Option (Option Int) :=
  if a2 ≥ (32 : Int) then
    some (some (22 : Int))
  else
    some none
def regs_Check.R (r : (Option Int)) : Tm := .v (.one (.err r))
theorem regs_Check.fun_ {a0 : (List Int)} {a1 : Int} {a2 : Int} {a3 : (List Int)} {r : (Option Int)} (h : regs_Check.f a0 a1 a2 a3 = some r) : Fun cfg 14 [.agg [.row 16 (.int .u32) a0, .c (.sc (.int .u32 a1)), .c (.sc (.int .u32 a2)), .row 4 (.int .u64) a3]] [] (regs_Check.R r) [] := by
  unfold regs_Check.f at h
  refine fun_of_run cfg_ok (f := 14) (fn := Try.f14) Try.func14 rfl (by kernel_rfl) (rs := [.tmp 2]) rfl (nt := 7) rfl (l := fin) (k := (.br (aE 2 (.adj [.drop 0] .nil)) (aE 3 (.adj [.drop 0] .nil)))) (to_goal (q := (U) ∧ (U) ∧ (((decide (a2 ≥ (32 : Int))) = true → (U ∧ (U ∧ ((U) ∧ ((U) ∧ U) ∧ (.v (.one (.err (some (22 : Int)))) : Tm) = regs_Check.R r ∧ ([] : List Box) = [])))) ∧ ((decide (a2 ≥ (32 : Int))) = false → (U ∧ (U ∧ (U ∧ ((U) ∧ ((U) ∧ U) ∧ (.v (.one (.err none)) : Tm) = regs_Check.R r ∧ ([] : List Box) = []))))))) (by kernel_rfl) ?_)
  refine ⟨T, T, ?_⟩
  refine ⟨fun b1 => ?_, fun b1 => ?_⟩
  · rw [if_pos (dT_ b1)] at h
    refine ⟨T, T, ?_⟩
    obtain rfl := oi h
    exact ⟨T, ⟨T, T⟩, rfl, rfl⟩
  · rw [if_neg (dF_ b1)] at h
    refine ⟨T, T, T, ?_⟩
    obtain rfl := oi h
    exact ⟨T, ⟨T, T⟩, rfl, rfl⟩
def cpu_fail.f (a0 : Int) (a1 : Int) : Option (Int × Int) :=
  some (a0, a1)
def cpu_fail.R (r : Int × Int) : Tm := .v (.one (.sc (.iface 64 (.agg #[.int .i64 r.1, .int .u32 r.2]))))
def cpu_fail.B (a0 : Int) (a1 : Int) (r : Int × Int) : List Box := []
def cpu_fail.P (r : Int × Int) : Bool := true
theorem cpu_fail.P_ (r : Int × Int) (_ : cpu_fail.P r = true) : ∃ t p, cpu_fail.R r = .v (.one (.sc (.iface t p))) := ⟨_, _, rfl⟩
theorem cpu_fail.fun_ {a0 : Int} {a1 : Int} {r : Int × Int} (h : cpu_fail.f a0 a1 = some r) : FunG cfg 21 [.one (.sc (.int .i64 a0)), .one (.sc (.int .u32 a1))] [] (cpu_fail.P r) (cpu_fail.R r) (cpu_fail.B a0 a1 r) := by
  unfold cpu_fail.f at h
  refine funG_of_run cfg_ok (f := 21) (fn := Try.f21) Try.func21 rfl (by kernel_rfl) (rs := []) rfl (nt := 8) rfl (l := fin) (ho := cpu_fail.P_ r) (k := (.pan (.adj [] .nil))) (to_goal (q := (cpu_fail.P r = true ∧ (U) ∧ (.v (.one (.sc (.iface 64 (.agg #[.int .i64 a0, .int .u32 a1])))) : Tm) = cpu_fail.R r ∧ ([] : List Box) = cpu_fail.B a0 a1 r)) (by kernel_rfl) ?_)
  obtain rfl := oi h
  exact ⟨rfl, T, rfl, rfl⟩
def cpu_whole.f (a0 : Int) (a1 : Int) : Option ((Int × Int) ⊕ (Unit)) :=
  if a1 ≠ 0 then
    if ¬ (Int.tmod a0 a1) = (0 : Int) then
      (cpu_fail.f (7 : Int) a0).bind fun t2 =>
      some (.inl (t2.1, t2.2))
    else
      some (.inr ())
  else none
def cpu_whole.R : (Int × Int) ⊕ (Unit) → Tm
  | .inl r => .v (.one (.sc (.iface 64 (.agg #[.int .i64 r.1, .int .u32 r.2]))))
  | .inr r => .tup []
def cpu_whole.B (a0 : Int) (a1 : Int) : (Int × Int) ⊕ (Unit) → List Box
  | .inl r => []
  | .inr r => []
def cpu_whole.P : (Int × Int) ⊕ (Unit) → Bool
  | .inl _ => true
  | .inr _ => false
theorem cpu_whole.P_ : ∀ r : (Int × Int) ⊕ (Unit), cpu_whole.P r = true → ∃ t p, cpu_whole.R r = .v (.one (.sc (.iface t p)))
  | .inl _, h => ⟨_, _, rfl⟩
  | .inr _, h => by cases h
theorem cpu_whole.fun_ {a0 : Int} {a1 : Int} {r : (Int × Int) ⊕ (Unit)} (h : cpu_whole.f a0 a1 = some r) : FunG cfg 18 [.one (.sc (.int .u32 a0)), .one (.sc (.int .u32 a1))] [] (cpu_whole.P r) (cpu_whole.R r) (cpu_whole.B a0 a1 r) := by
  unfold cpu_whole.f at h
  refine funG_of_run cfg_ok (f := 18) (fn := Try.f18) Try.func18 rfl (by kernel_rfl) (rs := []) rfl (nt := 10) rfl (l := fin) (ho := cpu_whole.P_ r) (k := (.br (.callX true [] [] (Int × Int) (fun t2 => (.iface 64 (.agg #[.int .i64 t2.1, .int .u32 t2.2]))) (fun t2 => (cpu_fail.B (7 : Int) a0 t2)) (fun t2 => (.adj [] .nil))) (aE 2 .nil))) (to_goal (q := (a1 ≠ 0) ∧ (U) ∧ ((((Int.tmod a0 a1) != (0 : Int)) = true → (∃ t2 : Int × Int, (FunX cfg 21 [.one (.sc (.int .i64 (7 : Int))), .one (.sc (.int .u32 a0))] [] (.iface 64 (.agg #[.int .i64 t2.1, .int .u32 t2.2])) (cpu_fail.B (7 : Int) a0 t2) ∧ U) ∧ (cpu_whole.P r = true ∧ (U) ∧ (.v (.one (.sc (.iface 64 (.agg #[.int .i64 t2.1, .int .u32 t2.2])))) : Tm) = cpu_whole.R r ∧ ([] : List Box) = cpu_whole.B a0 a1 r))) ∧ (((Int.tmod a0 a1) != (0 : Int)) = false → (U ∧ (cpu_whole.P r = false ∧ (U) ∧ (U) ∧ (.tup [] : Tm) = cpu_whole.R r ∧ ([] : List Box) = cpu_whole.B a0 a1 r))))) (by kernel_rfl) ?_)
  obtain ⟨g3, h⟩ := of_guard h
  refine ⟨g3, ?_⟩
  refine tI ?_
  refine ⟨fun b1 => ?_, fun b1 => ?_⟩
  · rw [if_pos (bne_t b1)] at h
    obtain ⟨t2, ht2, h⟩ := of_bind h
    refine ⟨t2, ⟨cpu_fail.fun_ ht2, T⟩, ?_⟩
    obtain rfl := oi h
    exact ⟨rfl, T, rfl, rfl⟩
  · rw [if_neg (not_not_intro (bne_f b1))] at h
    refine tI ?_
    obtain rfl := oi h
    exact ⟨rfl, T, T, rfl, rfl⟩
def halterlaw12_board_Load.l0 (a0 : Int) (a2 : Int) (a3 : Int) (a4 : (List Int)) : Nat → Int → Int → Option Int
  | 0, _, _ => none
  | n + 1, x4, x5 =>
    if x5 ≥ (0 : Int) then
      if 0 ≤ (IntKind.wrap .i64 ((IntKind.wrap .i64 (a0)) + x5)) ∧ (IntKind.wrap .i64 ((IntKind.wrap .i64 (a0)) + x5)) < (((List.length a4) : Nat) : Int) then
        if (0 + (Int.toNat (IntKind.wrap .i64 ((IntKind.wrap .i64 (a0)) + x5)))) < (List.length a4) then
          halterlaw12_board_Load.l0 a0 a2 a3 a4 n (IntKind.wrap .u32 ((IntKind.wrap .u32 ((256 : Int) * x4)) + (IntKind.wrap .u32 ((List.getD a4 (0 + (Int.toNat (IntKind.wrap .i64 ((IntKind.wrap .i64 (a0)) + x5)))) (0 : Int)))))) (IntKind.wrap .i64 (x5 - (1 : Int)))
        else none
      else none
    else
      some x4
def halterlaw12_board_Load.l0_S (a0 : Int) (a2 : Int) (a3 : Int) (a4 : (List Int)) (x4 : Int) (x5 : Int) : St := ⟨([P0, vi .u32 a0] ++ (rA 6 ([vi .u32 x4, vi .i64 x5] ++ (rA 40 [])))), (kB1 a4 a2 a3), 2⟩
def halterlaw12_board_Load.l0_Q (a0 : Int) (a2 : Int) (a3 : Int) (a4 : (List Int)) (t : Int) : Exit → St → Prop := fun e s => e = (.exit 0) ∧ s = ⟨(rA 8 ([vi .u32 t] ++ (rA 41 []))), (kB1 a4 a2 a3), 2⟩
theorem halterlaw12_board_Load.l0_ok (a0 : Int) (a2 : Int) (a3 : Int) (a4 : (List Int)) : ∀ (n : Nat) (x4 : Int) (x5 : Int) (r : Int), halterlaw12_board_Load.l0 a0 a2 a3 a4 n x4 x5 = some r → TripN cfg (cpath (Try.f84.body.getD .skip) [1, 1, 1, 0, 1, 0, 0]) n (halterlaw12_board_Load.l0_S a0 a2 a3 a4 x4 x5) (halterlaw12_board_Load.l0_Q a0 a2 a3 a4 r) := by
  intro n
  induction n with
  | zero => intro x4 x5 r h; cases h
  | succ n ih =>
    intro x4 x5 r h
    rw [halterlaw12_board_Load.l0] at h
    refine TripN.of_run cfg_ok (k := (.br (aE 4 (.adj [.keep [0, 1, 8, 9], .drop 2] .nil)) (.adj [.keep [8], .drop 2] .nil))) (to_goal (q := (U) ∧ (((decide (x5 ≥ (0 : Int))) = true → (U ∧ (U ∧ (U ∧ (U) ∧ (U) ∧ (U) ∧ (U) ∧ (0 ≤ (IntKind.wrap .i64 ((IntKind.wrap .i64 (a0)) + x5)) ∧ (IntKind.wrap .i64 ((IntKind.wrap .i64 (a0)) + x5)) < (((List.length a4) : Nat) : Int)) ∧ ((0 + (Int.toNat (IntKind.wrap .i64 ((IntKind.wrap .i64 (a0)) + x5)))) < (List.length a4)) ∧ (U) ∧ (U) ∧ (U ∧ (U) ∧ (((U) ∧ (U) ∧ U) ∧ TripN cfg (cpath (Try.f84.body.getD .skip) [1, 1, 1, 0, 1, 0, 0]) n (halterlaw12_board_Load.l0_S a0 a2 a3 a4 (IntKind.wrap .u32 ((IntKind.wrap .u32 ((256 : Int) * x4)) + (IntKind.wrap .u32 ((List.getD a4 (0 + (Int.toNat (IntKind.wrap .i64 ((IntKind.wrap .i64 (a0)) + x5)))) (0 : Int)))))) (IntKind.wrap .i64 (x5 - (1 : Int)))) (halterlaw12_board_Load.l0_Q a0 a2 a3 a4 r))))))) ∧ ((decide (x5 ≥ (0 : Int))) = false → (((U) ∧ (U) ∧ U) ∧ halterlaw12_board_Load.l0_Q a0 a2 a3 a4 r (.exit 0) ⟨(rA 8 ([vi .u32 x4] ++ (rA 41 []))), (kB1 a4 a2 a3), 2⟩)))) (by kernel_rfl) ?_)
    refine tI ?_
    refine ⟨fun b11 => ?_, fun b11 => ?_⟩
    · rw [if_pos (dT_ b11)] at h
      refine ⟨T, T, T, T, T, T, T, ?_⟩
      obtain ⟨g13, h⟩ := of_guard h
      refine ⟨g13, ?_⟩
      obtain ⟨g12, h⟩ := of_guard h
      refine ⟨g12, ?_⟩
      refine ⟨T, T, T, T, ?_⟩
      exact ⟨⟨T, T, T⟩, ih (IntKind.wrap .u32 ((IntKind.wrap .u32 ((256 : Int) * x4)) + (IntKind.wrap .u32 ((List.getD a4 (0 + (Int.toNat (IntKind.wrap .i64 ((IntKind.wrap .i64 (a0)) + x5)))) (0 : Int)))))) (IntKind.wrap .i64 (x5 - (1 : Int))) r h⟩
    · rw [if_neg (dF_ b11)] at h
      obtain rfl := oi h
      exact ⟨⟨T, T, T⟩, rfl, rfl⟩
def halterlaw12_board_Load.f (a0 : Int) (a1 : Int) (a2 : Int) (a3 : Int) (a4 : (List Int)) : Option (Int × (Option Int)) :=
  if a1 < (0 : Int) then
    some ((0 : Int), (some (14 : Int)))
  else
    if a1 > (4 : Int) then
      some ((0 : Int), (some (14 : Int)))
    else
      if (IntKind.wrap .i64 ((IntKind.wrap .i64 (a0)) + a1)) > (((List.length a4) : Nat) : Int) then
        some ((0 : Int), (some (14 : Int)))
      else
        (halterlaw12_board_Load.l0 a0 a2 a3 a4 FUEL (0 : Int) (IntKind.wrap .i64 (a1 - (1 : Int)))).bind fun t10 =>
        some (t10, none)
def halterlaw12_board_Load.R (r : Int × (Option Int)) : Tm := .tup [.one (.sc (.int .u32 r.1)), .one (.err r.2)]
def halterlaw12_board_Load.B (a0 : Int) (a1 : Int) (a2 : Int) (a3 : Int) (a4 : (List Int)) (r : Int × (Option Int)) : List Box := (kB1 a4 a2 a3)
theorem halterlaw12_board_Load.fun_ {a0 : Int} {a1 : Int} {a2 : Int} {a3 : Int} {a4 : (List Int)} {r : Int × (Option Int)} (h : halterlaw12_board_Load.f a0 a1 a2 a3 a4 = some r) : Fun cfg 84 [.one (.ptr 0 ⟨0, 0, 0, 0⟩), .one (.sc (.int .u32 a0)), .one (.sc (.int .i64 a1))] (kB1 a4 a2 a3) (halterlaw12_board_Load.R r) (halterlaw12_board_Load.B a0 a1 a2 a3 a4 r) := by
  unfold halterlaw12_board_Load.f at h
  refine fun_of_run cfg_ok (f := 84) (fn := Try.f84) Try.func84 rfl (by kernel_rfl) (rs := [.tmp 6, .tmp 7]) rfl (nt := 50) rfl (l := fin) (k := (.br (oT 14 (aE 3 .nil)) (oF 2 (.br (oT 11 (aE 3 .nil)) (oF 10 (.br (aE 3 .nil) (aE 4 (.adj [.keep [0, 1, 8, 9]] (.sub (Int) (fun _ => (.exit 0)) (fun t10 => ⟨(rA 8 ([vi .u32 t10] ++ (rA 41 []))), (kB1 a4 a2 a3), 2⟩) (fun t10 => (aE 3 .nil))))))))))) (to_goal (q := (U) ∧ (((decide (a1 < (0 : Int))) = false → ((decide (a1 < (0 : Int))) = false ∧ (U) ∧ ((decide (a1 < (0 : Int))) = false ∧ (((decide (a1 > (4 : Int))) = false → ((decide (a1 > (4 : Int))) = false ∧ (U) ∧ ((decide (a1 > (4 : Int))) = false ∧ ((decide (a1 > (4 : Int))) = false ∧ (U) ∧ ((decide (a1 > (4 : Int))) = false ∧ ((decide (a1 > (4 : Int))) = false ∧ ((decide (a1 > (4 : Int))) = false ∧ ((decide (a1 > (4 : Int))) = false ∧ (U) ∧ ((decide (a1 > (4 : Int))) = false ∧ (U) ∧ ((decide (a1 > (4 : Int))) = false ∧ (U) ∧ ((decide (a1 > (4 : Int))) = false ∧ (((decide ((IntKind.wrap .i64 ((IntKind.wrap .i64 (a0)) + a1)) > (((List.length a4) : Nat) : Int))) = true → (U ∧ (U ∧ ((U) ∧ (U) ∧ (.tup [.one (.sc (.int .u32 (0 : Int))), .one (.err (some (14 : Int)))] : Tm) = halterlaw12_board_Load.R r ∧ ((kB1 a4 a2 a3) : List Box) = halterlaw12_board_Load.B a0 a1 a2 a3 a4 r)))) ∧ ((decide ((IntKind.wrap .i64 ((IntKind.wrap .i64 (a0)) + a1)) > (((List.length a4) : Nat) : Int))) = false → (U ∧ (U ∧ (U ∧ (U) ∧ (U ∧ (((U) ∧ U) ∧ (∃ t10 : Int, Trip cfg (.loop (cpath (Try.f84.body.getD .skip) [1, 1, 1, 0, 1, 0, 0])) ⟨([P0, vi .u32 a0] ++ (rA 6 ([vi .u32 (0 : Int), vi .i64 (IntKind.wrap .i64 (a1 - (1 : Int)))] ++ (rA 40 [])))), (kB1 a4 a2 a3), 2⟩ (fun e s => e = (.exit 0) ∧ s = ⟨(rA 8 ([vi .u32 t10] ++ (rA 41 []))), (kB1 a4 a2 a3), 2⟩) ∧ (U ∧ (U ∧ ((U) ∧ (U) ∧ (.tup [.one (.sc (.int .u32 t10)), .one (.err none)] : Tm) = halterlaw12_board_Load.R r ∧ ((kB1 a4 a2 a3) : List Box) = halterlaw12_board_Load.B a0 a1 a2 a3 a4 r)))))))))))))))))))))) ∧ ((decide (a1 > (4 : Int))) = true → ((decide (a1 > (4 : Int))) = true ∧ ((decide (a1 > (4 : Int))) = true ∧ ((decide (a1 > (4 : Int))) = true ∧ ((decide (a1 > (4 : Int))) = true ∧ ((decide (a1 > (4 : Int))) = true ∧ ((decide (a1 > (4 : Int))) = true ∧ ((decide (a1 > (4 : Int))) = true ∧ ((decide (a1 > (4 : Int))) = true ∧ ((decide (a1 > (4 : Int))) = true ∧ ((decide (a1 > (4 : Int))) = true ∧ (true = true ∧ (U ∧ (U ∧ ((U) ∧ (U) ∧ (.tup [.one (.sc (.int .u32 (0 : Int))), .one (.err (some (14 : Int)))] : Tm) = halterlaw12_board_Load.R r ∧ ((kB1 a4 a2 a3) : List Box) = halterlaw12_board_Load.B a0 a1 a2 a3 a4 r))))))))))))))))))) ∧ ((decide (a1 < (0 : Int))) = true → ((decide (a1 < (0 : Int))) = true ∧ ((decide (a1 < (0 : Int))) = true ∧ (true = true ∧ (true = true ∧ (true = true ∧ (true = true ∧ (true = true ∧ (true = true ∧ (true = true ∧ (true = true ∧ (true = true ∧ (true = true ∧ (true = true ∧ (true = true ∧ (U ∧ (U ∧ ((U) ∧ (U) ∧ (.tup [.one (.sc (.int .u32 (0 : Int))), .one (.err (some (14 : Int)))] : Tm) = halterlaw12_board_Load.R r ∧ ((kB1 a4 a2 a3) : List Box) = halterlaw12_board_Load.B a0 a1 a2 a3 a4 r)))))))))))))))))))) (by kernel_rfl) ?_)
  refine tI ?_
  refine ⟨fun b1 => ?_, fun b1 => ?_⟩
  · rw [if_neg (dF_ b1)] at h
    refine ⟨b1, ?_⟩
    refine tI ?_
    refine ⟨b1, ?_⟩
    refine ⟨fun b2 => ?_, fun b2 => ?_⟩
    · rw [if_neg (dF_ b2)] at h
      refine ⟨b2, ?_⟩
      refine tI ?_
      refine ⟨b2, ?_⟩
      refine ⟨b2, ?_⟩
      refine tI ?_
      refine ⟨b2, ?_⟩
      refine ⟨b2, ?_⟩
      refine ⟨b2, ?_⟩
      refine ⟨b2, ?_⟩
      refine tI ?_
      refine ⟨b2, ?_⟩
      refine tI ?_
      refine ⟨b2, ?_⟩
      refine tI ?_
      refine ⟨b2, ?_⟩
      refine ⟨fun b3 => ?_, fun b3 => ?_⟩
      · rw [if_pos (dT_ b3)] at h
        refine ⟨T, T, ?_⟩
        obtain rfl := oi h
        exact ⟨T, T, rfl, rfl⟩
      · rw [if_neg (dF_ b3)] at h
        refine ⟨T, T, T, T, T, ?_⟩
        obtain ⟨t10, ht10, h⟩ := of_bind h
        refine ⟨⟨T, T⟩, t10, Trip.loop FUEL (halterlaw12_board_Load.l0_ok a0 a2 a3 a4 FUEL (0 : Int) (IntKind.wrap .i64 (a1 - (1 : Int))) t10 ht10), ?_⟩
        refine ⟨T, T, ?_⟩
        obtain rfl := oi h
        exact ⟨T, T, rfl, rfl⟩
    · rw [if_pos (dT_ b2)] at h
      refine ⟨b2, ?_⟩
      refine ⟨b2, ?_⟩
      refine ⟨b2, ?_⟩
      refine ⟨b2, ?_⟩
      refine ⟨b2, ?_⟩
      refine ⟨b2, ?_⟩
      refine ⟨b2, ?_⟩
      refine ⟨b2, ?_⟩
      refine ⟨b2, ?_⟩
      refine ⟨b2, ?_⟩
      refine ⟨rfl, T, T, ?_⟩
      obtain rfl := oi h
      exact ⟨T, T, rfl, rfl⟩
  · rw [if_pos (dT_ b1)] at h
    refine ⟨b1, ?_⟩
    refine ⟨b1, ?_⟩
    refine ⟨rfl, rfl, rfl, rfl, rfl, rfl, rfl, rfl, rfl, rfl, rfl, rfl, T, T, ?_⟩
    obtain rfl := oi h
    exact ⟨T, T, rfl, rfl⟩
def halterlaw12_board_Fetch.f (a0 : Int) (a1 : Int) (a2 : Int) (a3 : (List Int)) : Option (Int × (Option Int) × Int) :=
  (halterlaw12_board_Load.f a0 (4 : Int) (IntKind.wrap .i64 (a1 + (1 : Int))) a2 a3).bind fun t1 =>
  some (t1.1, t1.2, (IntKind.wrap .i64 (a1 + (1 : Int))))
def halterlaw12_board_Fetch.R (r : Int × (Option Int) × Int) : Tm := .tup [.one (.sc (.int .u32 r.1)), .one (.err r.2.1)]
def halterlaw12_board_Fetch.B (a0 : Int) (a1 : Int) (a2 : Int) (a3 : (List Int)) (r : Int × (Option Int) × Int) : List Box := [.ex false [.c (.os 1 0 0 1 (List.length a3) none), .c (.sc (.int .i64 r.2.2)), .c (.sc (.int .i64 a2))] 33, .fix false (.int .u8) a3 5]
theorem halterlaw12_board_Fetch.fun_ {a0 : Int} {a1 : Int} {a2 : Int} {a3 : (List Int)} {r : Int × (Option Int) × Int} (h : halterlaw12_board_Fetch.f a0 a1 a2 a3 = some r) : Fun cfg 83 [.one (.ptr 0 ⟨0, 0, 0, 0⟩), .one (.sc (.int .u32 a0))] (kB1 a3 a1 a2) (halterlaw12_board_Fetch.R r) (halterlaw12_board_Fetch.B a0 a1 a2 a3 r) := by
  unfold halterlaw12_board_Fetch.f at h
  refine fun_of_run cfg_ok (f := 83) (fn := Try.f83) Try.func83 rfl (by kernel_rfl) (rs := [.tmp 4, .tmp 5]) rfl (nt := 18) rfl (l := fin) (k := (.callR true [] [0, 1] (Int × (Option Int)) (fun t1 => (halterlaw12_board_Load.R t1)) (fun t1 => (halterlaw12_board_Load.B a0 (4 : Int) (IntKind.wrap .i64 (a1 + (1 : Int))) a2 a3 t1)) (fun t1 => (aE 2 .nil)))) (to_goal (q := (U) ∧ (U) ∧ (U) ∧ (∃ t1 : Int × (Option Int), (Fun cfg 84 [.one (.ptr 0 ⟨0, 0, 0, 0⟩), .one (.sc (.int .u32 a0)), .one (.sc (.int .i64 (4 : Int)))] [.ex false [.c (.os 1 0 0 1 (List.length a3) none), .c (.sc (.int .i64 (IntKind.wrap .i64 (a1 + (1 : Int))))), .c (.sc (.int .i64 a2))] 33, .fix false (.int .u8) a3 5] (halterlaw12_board_Load.R t1) (halterlaw12_board_Load.B a0 (4 : Int) (IntKind.wrap .i64 (a1 + (1 : Int))) a2 a3 t1) ∧ U) ∧ (U ∧ ((U) ∧ (U) ∧ (.tup [.one (.sc (.int .u32 t1.1)), .one (.err t1.2)] : Tm) = halterlaw12_board_Fetch.R r ∧ ([.ex false [.c (.os 1 0 0 1 (List.length a3) none), .c (.sc (.int .i64 (IntKind.wrap .i64 (a1 + (1 : Int))))), .c (.sc (.int .i64 a2))] 33, .fix false (.int .u8) a3 5] : List Box) = halterlaw12_board_Fetch.B a0 a1 a2 a3 r)))) (by kernel_rfl) ?_)
  refine ⟨T, T, T, ?_⟩
  obtain ⟨t1, ht1, h⟩ := of_bind h
  refine ⟨t1, ⟨halterlaw12_board_Load.fun_ ht1, T⟩, ?_⟩
  refine tI ?_
  obtain rfl := oi h
  exact ⟨T, T, rfl, rfl⟩
def cpu_told.f (a0 : Option Int) (a1 : Int) : Option ((Unit) ⊕ (Int × Int)) :=
  if a0 = none then
    some (.inl ())
  else
    (errors_Is.f a0 (some (14 : Int))).bind fun t2 =>
    if t2 = true then
      (cpu_fail.f (11 : Int) a1).bind fun t4 =>
      some (.inr (t4.1, t4.2))
    else
      (cpu_fail.f (7 : Int) a1).bind fun t5 =>
      some (.inr (t5.1, t5.2))
def cpu_told.R : (Unit) ⊕ (Int × Int) → Tm
  | .inl r => .tup []
  | .inr r => .v (.one (.sc (.iface 64 (.agg #[.int .i64 r.1, .int .u32 r.2]))))
def cpu_told.B (a0 : Option Int) (a1 : Int) : (Unit) ⊕ (Int × Int) → List Box
  | .inl r => []
  | .inr r => []
def cpu_told.P : (Unit) ⊕ (Int × Int) → Bool
  | .inl _ => false
  | .inr _ => true
theorem cpu_told.P_ : ∀ r : (Unit) ⊕ (Int × Int), cpu_told.P r = true → ∃ t p, cpu_told.R r = .v (.one (.sc (.iface t p)))
  | .inl _, h => by cases h
  | .inr _, h => ⟨_, _, rfl⟩
theorem cpu_told.fun_ {a0 : Option Int} {a1 : Int} {r : (Unit) ⊕ (Int × Int)} (h : cpu_told.f a0 a1 = some r) : FunG cfg 19 [.one (.err a0), .one (.sc (.int .u32 a1))] [] (cpu_told.P r) (cpu_told.R r) (cpu_told.B a0 a1 r) := by
  unfold cpu_told.f at h
  refine funG_of_run cfg_ok (f := 19) (fn := Try.f19) Try.func19 rfl (by kernel_rfl) (rs := []) rfl (nt := 15) rfl (l := fin) (ho := cpu_told.P_ r) (k := (.br (aE 2 .nil) (.call true [] (Bool) errors_Is.R (fun t2 => (.br (.callX true [] [] (Int × Int) (fun t4 => (.iface 64 (.agg #[.int .i64 t4.1, .int .u32 t4.2]))) (fun t4 => (cpu_fail.B (11 : Int) a1 t4)) (fun t4 => (.adj [] .nil))) (.callX true [] [] (Int × Int) (fun t5 => (.iface 64 (.agg #[.int .i64 t5.1, .int .u32 t5.2]))) (fun t5 => (cpu_fail.B (7 : Int) a1 t5)) (fun t5 => (.adj [] .nil)))))))) (to_goal (q := (U) ∧ (((Option.isNone a0) = true → (U ∧ (cpu_told.P r = false ∧ (U) ∧ (U) ∧ (.tup [] : Tm) = cpu_told.R r ∧ ([] : List Box) = cpu_told.B a0 a1 r))) ∧ ((Option.isNone a0) = false → (∃ t2 : Bool, (Fun cfg 23 [.one (.err a0), .one (.err (some (14 : Int)))] [] (errors_Is.R t2) [] ∧ U) ∧ ((t2 = true → (∃ t4 : Int × Int, (FunX cfg 21 [.one (.sc (.int .i64 (11 : Int))), .one (.sc (.int .u32 a1))] [] (.iface 64 (.agg #[.int .i64 t4.1, .int .u32 t4.2])) (cpu_fail.B (11 : Int) a1 t4) ∧ U) ∧ (cpu_told.P r = true ∧ (U) ∧ (.v (.one (.sc (.iface 64 (.agg #[.int .i64 t4.1, .int .u32 t4.2])))) : Tm) = cpu_told.R r ∧ ([] : List Box) = cpu_told.B a0 a1 r))) ∧ (t2 = false → (∃ t5 : Int × Int, (FunX cfg 21 [.one (.sc (.int .i64 (7 : Int))), .one (.sc (.int .u32 a1))] [] (.iface 64 (.agg #[.int .i64 t5.1, .int .u32 t5.2])) (cpu_fail.B (7 : Int) a1 t5) ∧ U) ∧ (cpu_told.P r = true ∧ (U) ∧ (.v (.one (.sc (.iface 64 (.agg #[.int .i64 t5.1, .int .u32 t5.2])))) : Tm) = cpu_told.R r ∧ ([] : List Box) = cpu_told.B a0 a1 r)))))))) (by kernel_rfl) ?_)
  refine tI ?_
  refine ⟨fun b1 => ?_, fun b1 => ?_⟩
  · rw [if_pos (none_t b1)] at h
    refine tI ?_
    obtain rfl := oi h
    exact ⟨rfl, T, T, rfl, rfl⟩
  · rw [if_neg (none_f b1)] at h
    obtain ⟨t2, ht2, h⟩ := of_bind h
    refine ⟨t2, ⟨errors_Is.fun_ ht2, T⟩, ?_⟩
    refine ⟨fun b3 => ?_, fun b3 => ?_⟩
    · rw [if_pos b3] at h
      obtain ⟨t4, ht4, h⟩ := of_bind h
      refine ⟨t4, ⟨cpu_fail.fun_ ht4, T⟩, ?_⟩
      obtain rfl := oi h
      exact ⟨rfl, T, rfl, rfl⟩
    · rw [if_neg (ff b3)] at h
      obtain ⟨t5, ht5, h⟩ := of_bind h
      refine ⟨t5, ⟨cpu_fail.fun_ ht5, T⟩, ?_⟩
      obtain rfl := oi h
      exact ⟨rfl, T, rfl, rfl⟩
def isa_Decode.f (a0 : Int) : Option (Int × Int × Int × Int × (Option Int)) :=
  if (IntKind.wrap .i64 ((shr .u32 a0 (24 : Int)))) ≥ (42 : Int) then
    some ((0 : Int), (0 : Int), (0 : Int), (0 : Int), (some (22 : Int)))
  else
    some ((IntKind.wrap .i64 ((shr .u32 a0 (24 : Int)))), (IntKind.wrap .i64 ((bits .and .u32 (shr .u32 a0 (20 : Int)) (15 : Int)))), (IntKind.wrap .i64 ((bits .and .u32 (shr .u32 a0 (16 : Int)) (15 : Int)))), (IntKind.wrap .i64 ((IntKind.wrap .i16 (a0)))), none)
def isa_Decode.R (r : Int × Int × Int × Int × (Option Int)) : Tm := .tup [.agg [.c (.sc (.int .i64 r.1)), .c (.sc (.int .i64 r.2.1)), .c (.sc (.int .i64 r.2.2.1)), .c (.sc (.int .i64 r.2.2.2.1))], .one (.err r.2.2.2.2)]
theorem isa_Decode.fun_ {a0 : Int} {r : Int × Int × Int × Int × (Option Int)} (h : isa_Decode.f a0 = some r) : Fun cfg 20 [.one (.sc (.int .u32 a0))] [] (isa_Decode.R r) [] := by
  unfold isa_Decode.f at h
  refine fun_of_run cfg_ok (f := 20) (fn := Try.f20) Try.func20 rfl (by kernel_rfl) (rs := [.cell 2 60, .tmp 3]) rfl (nt := 26) rfl (l := fin) (k := (.br (aE 2 (.adj [.drop 0] .nil)) (aE 3 (.adj [.drop 0] .nil)))) (to_goal (q := (0 ≤ (24 : Int)) ∧ (U) ∧ (0 ≤ (20 : Int)) ∧ (U) ∧ (U) ∧ (0 ≤ (16 : Int)) ∧ (U) ∧ (U) ∧ (U) ∧ (U) ∧ (U) ∧ (U) ∧ (U) ∧ (((decide ((IntKind.wrap .i64 ((shr .u32 a0 (24 : Int)))) ≥ (42 : Int))) = true → (U ∧ (U) ∧ (U ∧ (((U) ∧ U) ∧ ((U) ∧ U) ∧ (.tup [.agg [.c (.sc (.int .i64 (0 : Int))), .c (.sc (.int .i64 (0 : Int))), .c (.sc (.int .i64 (0 : Int))), .c (.sc (.int .i64 (0 : Int)))], .one (.err (some (22 : Int)))] : Tm) = isa_Decode.R r ∧ ([] : List Box) = [])))) ∧ ((decide ((IntKind.wrap .i64 ((shr .u32 a0 (24 : Int)))) ≥ (42 : Int))) = false → (U ∧ (U ∧ (U) ∧ (U) ∧ (U ∧ (((U) ∧ U) ∧ ((U) ∧ U) ∧ (.tup [.agg [.c (.sc (.int .i64 (IntKind.wrap .i64 ((shr .u32 a0 (24 : Int)))))), .c (.sc (.int .i64 (IntKind.wrap .i64 ((bits .and .u32 (shr .u32 a0 (20 : Int)) (15 : Int)))))), .c (.sc (.int .i64 (IntKind.wrap .i64 ((bits .and .u32 (shr .u32 a0 (16 : Int)) (15 : Int)))))), .c (.sc (.int .i64 (IntKind.wrap .i64 ((IntKind.wrap .i16 (a0))))))], .one (.err none)] : Tm) = isa_Decode.R r ∧ ([] : List Box) = []))))))) (by kernel_rfl) ?_)
  refine ⟨(by decide), ?_⟩
  refine tI ?_
  refine ⟨(by decide), ?_⟩
  refine ⟨T, T, ?_⟩
  refine ⟨(by decide), ?_⟩
  refine ⟨T, T, T, T, T, T, T, ?_⟩
  refine ⟨fun b1 => ?_, fun b1 => ?_⟩
  · rw [if_pos (dT_ b1)] at h
    refine ⟨T, T, T, ?_⟩
    obtain rfl := oi h
    exact ⟨⟨T, T⟩, ⟨T, T⟩, rfl, rfl⟩
  · rw [if_neg (dF_ b1)] at h
    refine ⟨T, T, T, T, T, ?_⟩
    obtain rfl := oi h
    exact ⟨⟨T, T⟩, ⟨T, T⟩, rfl, rfl⟩
def cm_at.f (a0 : (List Int)) (a1 : Int) (a2 : Int) (a3 : (List Int)) (a4 : Int) (a5 : Int) (a6 : Int) (a7 : Int) (a8 : Int) (a9 : Int) (a10 : Int) (a11 : Int) (a12 : (List Int)) : Option Int :=
  if 0 ≤ a6 ∧ a6 < ((16 : Nat) : Int) then
    if (Int.toNat a6) < 16 then
      some (IntKind.wrap .u32 ((List.getD a0 (Int.toNat a6) (0 : Int)) + (IntKind.wrap .u32 ((IntKind.wrap .i32 (a7))))))
    else none
  else none
def cm_at.R (r : Int) : Tm := vi .u32 r
def cm_at.B (a0 : (List Int)) (a1 : Int) (a2 : Int) (a3 : (List Int)) (a4 : Int) (a5 : Int) (a6 : Int) (a7 : Int) (a8 : Int) (a9 : Int) (a10 : Int) (a11 : Int) (a12 : (List Int)) (r : Int) : List Box := (kB0 a0 a1 a2 a3 a4 a5 a6 a7 a8 a9 a12 a10 a11)
theorem cm_at.fun_ {a0 : (List Int)} {a1 : Int} {a2 : Int} {a3 : (List Int)} {a4 : Int} {a5 : Int} {a6 : Int} {a7 : Int} {a8 : Int} {a9 : Int} {a10 : Int} {a11 : Int} {a12 : (List Int)} {r : Int} (h : cm_at.f a0 a1 a2 a3 a4 a5 a6 a7 a8 a9 a10 a11 a12 = some r) : Fun cfg 31 [.one (.ptr 0 ⟨0, 0, 0, 0⟩)] (kB0 a0 a1 a2 a3 a4 a5 a6 a7 a8 a9 a12 a10 a11) (cm_at.R r) (cm_at.B a0 a1 a2 a3 a4 a5 a6 a7 a8 a9 a10 a11 a12 r) := by
  unfold cm_at.f at h
  refine fun_of_run cfg_ok (f := 31) (fn := Try.f31) Try.func31 rfl (by kernel_rfl) (rs := [.tmp 2]) rfl (nt := 22) rfl (l := fin) (k := (.dr (nd [0, 1, 2, 3, 4, 6, 7, 8, 11, 12, 13, 14, 5, 9, 10, 15, 16, 17, 18, 19] []) (aE 2 .nil))) (to_goal (q := (U) ∧ (0 ≤ a6 ∧ a6 < ((16 : Nat) : Int)) ∧ ((Int.toNat a6) < 16) ∧ (U) ∧ (U) ∧ (U) ∧ (U) ∧ (U ∧ ((U) ∧ (U) ∧ (vi .u32 (IntKind.wrap .u32 ((List.getD a0 (Int.toNat a6) (0 : Int)) + (IntKind.wrap .u32 ((IntKind.wrap .i32 (a7)))))) : Tm) = cm_at.R r ∧ ((kB0 a0 a1 a2 a3 a4 a5 a6 a7 a8 a9 a12 a10 a11) : List Box) = cm_at.B a0 a1 a2 a3 a4 a5 a6 a7 a8 a9 a10 a11 a12 r))) (by kernel_rfl) ?_)
  obtain ⟨g1, h⟩ := of_guard h
  obtain ⟨g2, h⟩ := of_guard h
  refine ⟨T, g1, g2, T, T, T, T, ?_⟩
  refine tI ?_
  obtain rfl := oi h
  exact ⟨T, T, rfl, rfl⟩
def cm_lay.c0 (a0 : (List Int)) (a1 : Int) (a2 : Int) (a3 : (List Int)) (a4 : Int) (a5 : Int) (a6 : Int) (a7 : Int) (a8 : Int) (a9 : Int) : Box := .ex false [.c (.ip 29 1), .row 16 (.int .u32) a0, .c (.sc (.int .u32 a1)), .c (.sc (.int .u32 a2)), .row 4 (.int .u64) a3, .c (.sc (.int .i64 a4)), .c (.sc (.int .i64 a5)), .c (.sc (.int .i64 a6)), .c (.sc (.int .i64 a7)), .c (.sc (.int .u32 a8)), .c (.sc (.int .i64 a9))] 62
def cm_lay.f (a0 : (List Int)) (a1 : Int) (a2 : Int) (a3 : (List Int)) (a4 : Int) (a5 : Int) (a6 : Int) (a7 : Int) (a8 : Int) (a9 : Int) (a10 : Int) (a11 : Int) (a12 : (List Int)) : Option (List Int) :=
  if a4 = (1 : Int) then
    if 0 ≤ a5 ∧ a5 < ((16 : Nat) : Int) then
      if (Int.toNat a5) < 16 then
        some (List.set a0 (Int.toNat a5) (IntKind.wrap .u32 ((IntKind.wrap .i32 (a7)))))
      else none
    else none
  else
    if a4 = (2 : Int) then
      if 0 ≤ a5 ∧ a5 < ((16 : Nat) : Int) then
        if (Int.toNat a5) < 16 then
          some (List.set a0 (Int.toNat a5) (shl .u32 (IntKind.wrap .u32 ((IntKind.wrap .i32 (a7)))) (16 : Int)))
        else none
      else none
    else
      if a4 = (3 : Int) then
        if 0 ≤ a6 ∧ a6 < ((16 : Nat) : Int) then
          if (Int.toNat a6) < 16 then
            if 0 ≤ a5 ∧ a5 < ((16 : Nat) : Int) then
              if (Int.toNat a5) < 16 then
                some (List.set a0 (Int.toNat a5) (List.getD a0 (Int.toNat a6) (0 : Int)))
              else none
            else none
          else none
        else none
      else
        if a4 = (15 : Int) then
          (cm_at.f a0 a1 a2 a3 a4 a5 a6 a7 a8 a9 a10 a11 a12).bind fun t13 =>
          if 0 ≤ a5 ∧ a5 < ((16 : Nat) : Int) then
            if (Int.toNat a5) < 16 then
              some (List.set a0 (Int.toNat a5) t13)
            else none
          else none
        else
          if a4 = (41 : Int) then
            if 0 ≤ a5 ∧ a5 < ((16 : Nat) : Int) then
              if (Int.toNat a5) < 16 then
                some (List.set a0 (Int.toNat a5) (bits .andNot .u32 a2 (16 : Int)))
              else none
            else none
          else
            some a0
def cm_lay.R (r : (List Int)) : Tm := .tup []
def cm_lay.B (a0 : (List Int)) (a1 : Int) (a2 : Int) (a3 : (List Int)) (a4 : Int) (a5 : Int) (a6 : Int) (a7 : Int) (a8 : Int) (a9 : Int) (a10 : Int) (a11 : Int) (a12 : (List Int)) (r : (List Int)) : List Box := [.ex false [.c (.ip 29 1), .row 16 (.int .u32) r, .c (.sc (.int .u32 a1)), .c (.sc (.int .u32 a2)), .row 4 (.int .u64) a3, .c (.sc (.int .i64 a4)), .c (.sc (.int .i64 a5)), .c (.sc (.int .i64 a6)), .c (.sc (.int .i64 a7)), .c (.sc (.int .u32 a8)), .c (.sc (.int .i64 a9))] 62, .ex false [.c (.os 2 0 0 1 (List.length a12) none), .c (.sc (.int .i64 a10)), .c (.sc (.int .i64 a11))] 33, .fix false (.int .u8) a12 5]
theorem cm_lay.fun_ {a0 : (List Int)} {a1 : Int} {a2 : Int} {a3 : (List Int)} {a4 : Int} {a5 : Int} {a6 : Int} {a7 : Int} {a8 : Int} {a9 : Int} {a10 : Int} {a11 : Int} {a12 : (List Int)} {r : (List Int)} (h : cm_lay.f a0 a1 a2 a3 a4 a5 a6 a7 a8 a9 a10 a11 a12 = some r) : Fun cfg 24 [.one (.ptr 0 ⟨0, 0, 0, 0⟩)] (kB0 a0 a1 a2 a3 a4 a5 a6 a7 a8 a9 a12 a10 a11) (cm_lay.R r) (cm_lay.B a0 a1 a2 a3 a4 a5 a6 a7 a8 a9 a10 a11 a12 r) := by
  unfold cm_lay.f at h
  refine fun_of_run cfg_ok (f := 24) (fn := Try.f24) Try.func24 rfl (by kernel_rfl) (rs := []) rfl (nt := 87) rfl (l := fin) (k := (.br (.dr (nd [0, 1, 2, 3, 4, 5, 9, 10, 11, 6, 7, 8, 12, 13] []) (.adj [] .nil)) (.br (.dr (nd [0, 1, 2, 3, 4, 5, 10, 11, 12, 6, 7, 8, 9, 13, 14] []) (.adj [] .nil)) (.br (.dr (nd [0, 1, 2, 3, 4, 5, 6, 8, 9, 10, 13, 14, 15, 7, 11, 12, 16, 17] []) (.adj [] .nil)) (.br (.ex (Int) (fun t13 => (.dr (nd [0, 1, 2, 4, 5, 6] [(3, ⟨none, .callR true [] [0, 1, 2] (cm_at.R t13) (cm_at.B a0 a1 a2 a3 a4 a5 a6 a7 a8 a9 a10 a11 a12 t13), false⟩), (7, dN), (8, dN)]) (.adj [] .nil)))) (.br (.dr (nd [0, 1, 2, 3, 4, 5, 8, 9, 10, 6, 7, 11, 12] []) (.adj [] .nil)) (aE 2 .nil))))))) (to_goal (q := (U) ∧ (U) ∧ (U) ∧ (((a4 == (1 : Int)) = true → (U) ∧ (U) ∧ (U) ∧ (0 ≤ a5 ∧ a5 < ((16 : Nat) : Int)) ∧ ((Int.toNat a5) < 16) ∧ ((U) ∧ (U) ∧ (.tup [] : Tm) = cm_lay.R r ∧ ([.ex false [.c (.ip 29 1), .row 16 (.int .u32) (List.set a0 (Int.toNat a5) (IntKind.wrap .u32 ((IntKind.wrap .i32 (a7))))), .c (.sc (.int .u32 a1)), .c (.sc (.int .u32 a2)), .row 4 (.int .u64) a3, .c (.sc (.int .i64 a4)), .c (.sc (.int .i64 a5)), .c (.sc (.int .i64 a6)), .c (.sc (.int .i64 a7)), .c (.sc (.int .u32 a8)), .c (.sc (.int .i64 a9))] 62, .ex false [.c (.os 2 0 0 1 (List.length a12) none), .c (.sc (.int .i64 a10)), .c (.sc (.int .i64 a11))] 33, .fix false (.int .u8) a12 5] : List Box) = cm_lay.B a0 a1 a2 a3 a4 a5 a6 a7 a8 a9 a10 a11 a12 r)) ∧ ((a4 == (1 : Int)) = false → (U) ∧ (((a4 == (2 : Int)) = true → (U) ∧ (U) ∧ (U) ∧ (0 ≤ (16 : Int)) ∧ (0 ≤ a5 ∧ a5 < ((16 : Nat) : Int)) ∧ ((Int.toNat a5) < 16) ∧ ((U) ∧ (U) ∧ (.tup [] : Tm) = cm_lay.R r ∧ ([.ex false [.c (.ip 29 1), .row 16 (.int .u32) (List.set a0 (Int.toNat a5) (shl .u32 (IntKind.wrap .u32 ((IntKind.wrap .i32 (a7)))) (16 : Int))), .c (.sc (.int .u32 a1)), .c (.sc (.int .u32 a2)), .row 4 (.int .u64) a3, .c (.sc (.int .i64 a4)), .c (.sc (.int .i64 a5)), .c (.sc (.int .i64 a6)), .c (.sc (.int .i64 a7)), .c (.sc (.int .u32 a8)), .c (.sc (.int .i64 a9))] 62, .ex false [.c (.os 2 0 0 1 (List.length a12) none), .c (.sc (.int .i64 a10)), .c (.sc (.int .i64 a11))] 33, .fix false (.int .u8) a12 5] : List Box) = cm_lay.B a0 a1 a2 a3 a4 a5 a6 a7 a8 a9 a10 a11 a12 r)) ∧ ((a4 == (2 : Int)) = false → (U) ∧ (((a4 == (3 : Int)) = true → (U) ∧ (0 ≤ a6 ∧ a6 < ((16 : Nat) : Int)) ∧ ((Int.toNat a6) < 16) ∧ (0 ≤ a5 ∧ a5 < ((16 : Nat) : Int)) ∧ ((Int.toNat a5) < 16) ∧ ((U) ∧ (U) ∧ (.tup [] : Tm) = cm_lay.R r ∧ ([.ex false [.c (.ip 29 1), .row 16 (.int .u32) (List.set a0 (Int.toNat a5) (List.getD a0 (Int.toNat a6) (0 : Int))), .c (.sc (.int .u32 a1)), .c (.sc (.int .u32 a2)), .row 4 (.int .u64) a3, .c (.sc (.int .i64 a4)), .c (.sc (.int .i64 a5)), .c (.sc (.int .i64 a6)), .c (.sc (.int .i64 a7)), .c (.sc (.int .u32 a8)), .c (.sc (.int .i64 a9))] 62, .ex false [.c (.os 2 0 0 1 (List.length a12) none), .c (.sc (.int .i64 a10)), .c (.sc (.int .i64 a11))] 33, .fix false (.int .u8) a12 5] : List Box) = cm_lay.B a0 a1 a2 a3 a4 a5 a6 a7 a8 a9 a10 a11 a12 r)) ∧ ((a4 == (3 : Int)) = false → (U) ∧ (((a4 == (15 : Int)) = true → (∃ t13 : Int, (Fun cfg 31 [.one (.ptr 0 ⟨0, 0, 0, 0⟩)] [(cm_lay.c0 a0 a1 a2 a3 a4 a5 a6 a7 a8 a9), .ex false [.c (.os 2 0 0 1 (List.length a12) none), .c (.sc (.int .i64 a10)), .c (.sc (.int .i64 a11))] 33, .fix false (.int .u8) a12 5] (cm_at.R t13) (cm_at.B a0 a1 a2 a3 a4 a5 a6 a7 a8 a9 a10 a11 a12 t13) ∧ U) ∧ (0 ≤ a5 ∧ a5 < ((16 : Nat) : Int)) ∧ ((Int.toNat a5) < 16) ∧ ((U) ∧ (U) ∧ (.tup [] : Tm) = cm_lay.R r ∧ ([.ex false [.c (.ip 29 1), .row 16 (.int .u32) (List.set a0 (Int.toNat a5) t13), .c (.sc (.int .u32 a1)), .c (.sc (.int .u32 a2)), .row 4 (.int .u64) a3, .c (.sc (.int .i64 a4)), .c (.sc (.int .i64 a5)), .c (.sc (.int .i64 a6)), .c (.sc (.int .i64 a7)), .c (.sc (.int .u32 a8)), .c (.sc (.int .i64 a9))] 62, .ex false [.c (.os 2 0 0 1 (List.length a12) none), .c (.sc (.int .i64 a10)), .c (.sc (.int .i64 a11))] 33, .fix false (.int .u8) a12 5] : List Box) = cm_lay.B a0 a1 a2 a3 a4 a5 a6 a7 a8 a9 a10 a11 a12 r))) ∧ ((a4 == (15 : Int)) = false → (U) ∧ (((a4 == (41 : Int)) = true → (U) ∧ (U) ∧ (0 ≤ a5 ∧ a5 < ((16 : Nat) : Int)) ∧ ((Int.toNat a5) < 16) ∧ ((U) ∧ (U) ∧ (.tup [] : Tm) = cm_lay.R r ∧ ([.ex false [.c (.ip 29 1), .row 16 (.int .u32) (List.set a0 (Int.toNat a5) (bits .andNot .u32 a2 (16 : Int))), .c (.sc (.int .u32 a1)), .c (.sc (.int .u32 a2)), .row 4 (.int .u64) a3, .c (.sc (.int .i64 a4)), .c (.sc (.int .i64 a5)), .c (.sc (.int .i64 a6)), .c (.sc (.int .i64 a7)), .c (.sc (.int .u32 a8)), .c (.sc (.int .i64 a9))] 62, .ex false [.c (.os 2 0 0 1 (List.length a12) none), .c (.sc (.int .i64 a10)), .c (.sc (.int .i64 a11))] 33, .fix false (.int .u8) a12 5] : List Box) = cm_lay.B a0 a1 a2 a3 a4 a5 a6 a7 a8 a9 a10 a11 a12 r)) ∧ ((a4 == (41 : Int)) = false → (U ∧ ((U) ∧ (U) ∧ (.tup [] : Tm) = cm_lay.R r ∧ ([(cm_lay.c0 a0 a1 a2 a3 a4 a5 a6 a7 a8 a9), .ex false [.c (.os 2 0 0 1 (List.length a12) none), .c (.sc (.int .i64 a10)), .c (.sc (.int .i64 a11))] 33, .fix false (.int .u8) a12 5] : List Box) = cm_lay.B a0 a1 a2 a3 a4 a5 a6 a7 a8 a9 a10 a11 a12 r))))))))))))) (by kernel_rfl) ?_)
  refine ⟨T, T, T, ?_⟩
  refine ⟨fun b1 => ?_, fun b1 => ?_⟩
  · rw [if_pos (beq_t b1)] at h
    obtain ⟨g2, h⟩ := of_guard h
    obtain ⟨g3, h⟩ := of_guard h
    refine ⟨T, T, T, g2, g3, ?_⟩
    obtain rfl := oi h
    exact ⟨T, T, rfl, rfl⟩
  · rw [if_neg (beq_f b1)] at h
    refine tI ?_
    refine ⟨fun b4 => ?_, fun b4 => ?_⟩
    · rw [if_pos (beq_t b4)] at h
      obtain ⟨g5, h⟩ := of_guard h
      obtain ⟨g6, h⟩ := of_guard h
      refine ⟨T, T, T, (by decide), g5, g6, ?_⟩
      obtain rfl := oi h
      exact ⟨T, T, rfl, rfl⟩
    · rw [if_neg (beq_f b4)] at h
      refine tI ?_
      refine ⟨fun b7 => ?_, fun b7 => ?_⟩
      · rw [if_pos (beq_t b7)] at h
        obtain ⟨g8, h⟩ := of_guard h
        obtain ⟨g9, h⟩ := of_guard h
        obtain ⟨g10, h⟩ := of_guard h
        obtain ⟨g11, h⟩ := of_guard h
        refine ⟨T, g8, g9, g10, g11, ?_⟩
        obtain rfl := oi h
        exact ⟨T, T, rfl, rfl⟩
      · rw [if_neg (beq_f b7)] at h
        refine tI ?_
        refine ⟨fun b12 => ?_, fun b12 => ?_⟩
        · rw [if_pos (beq_t b12)] at h
          obtain ⟨t13, ht13, h⟩ := of_bind h
          refine ⟨t13, ?_⟩
          obtain ⟨g14, h⟩ := of_guard h
          obtain ⟨g15, h⟩ := of_guard h
          refine ⟨⟨cm_at.fun_ ht13, T⟩, g14, g15, ?_⟩
          obtain rfl := oi h
          exact ⟨T, T, rfl, rfl⟩
        · rw [if_neg (beq_f b12)] at h
          refine tI ?_
          refine ⟨fun b16 => ?_, fun b16 => ?_⟩
          · rw [if_pos (beq_t b16)] at h
            obtain ⟨g17, h⟩ := of_guard h
            obtain ⟨g18, h⟩ := of_guard h
            refine ⟨T, T, g17, g18, ?_⟩
            obtain rfl := oi h
            exact ⟨T, T, rfl, rfl⟩
          · rw [if_neg (beq_f b16)] at h
            refine tI ?_
            obtain rfl := oi h
            exact ⟨T, T, rfl, rfl⟩
def math_bits_Add32.f (a0 : Int) (a1 : Int) (a2 : Int) : Option (Int × Int) :=
  some ((IntKind.wrap .u32 ((IntKind.wrap .u64 ((IntKind.wrap .u64 ((IntKind.wrap .u64 (a0)) + (IntKind.wrap .u64 (a1)))) + (IntKind.wrap .u64 (a2)))))), (IntKind.wrap .u32 ((shr .u64 (IntKind.wrap .u64 ((IntKind.wrap .u64 ((IntKind.wrap .u64 (a0)) + (IntKind.wrap .u64 (a1)))) + (IntKind.wrap .u64 (a2)))) (32 : Int)))))
def math_bits_Add32.R (r : Int × Int) : Tm := .tup [.one (.sc (.int .u32 r.1)), .one (.sc (.int .u32 r.2))]
theorem math_bits_Add32.fun_ {a0 : Int} {a1 : Int} {a2 : Int} {r : Int × Int} (h : math_bits_Add32.f a0 a1 a2 = some r) : Fun cfg 63 [.one (.sc (.int .u32 a0)), .one (.sc (.int .u32 a1)), .one (.sc (.int .u32 a2))] [] (math_bits_Add32.R r) [] := by
  unfold math_bits_Add32.f at h
  refine fun_of_run cfg_ok (f := 63) (fn := Try.f63) Try.func63 rfl (by kernel_rfl) (rs := [.tmp 6, .tmp 7]) rfl (nt := 22) rfl (l := fin) (k := (aE 6 .nil)) (to_goal (q := (U ∧ (U ∧ (U) ∧ (U) ∧ (U) ∧ (U) ∧ (U) ∧ (U ∧ (U) ∧ (U ∧ (0 ≤ (32 : Int)) ∧ (U) ∧ (U ∧ ((U) ∧ (U) ∧ (.tup [.one (.sc (.int .u32 (IntKind.wrap .u32 ((IntKind.wrap .u64 ((IntKind.wrap .u64 ((IntKind.wrap .u64 (a0)) + (IntKind.wrap .u64 (a1)))) + (IntKind.wrap .u64 (a2)))))))), .one (.sc (.int .u32 (IntKind.wrap .u32 ((shr .u64 (IntKind.wrap .u64 ((IntKind.wrap .u64 ((IntKind.wrap .u64 (a0)) + (IntKind.wrap .u64 (a1)))) + (IntKind.wrap .u64 (a2)))) (32 : Int))))))] : Tm) = math_bits_Add32.R r ∧ ([] : List Box) = []))))))) (by kernel_rfl) ?_)
  refine ⟨T, T, T, T, T, T, T, T, T, T, ?_⟩
  refine ⟨(by decide), ?_⟩
  refine ⟨T, T, ?_⟩
  obtain rfl := oi h
  exact ⟨T, T, rfl, rfl⟩
def word_negative.f (a0 : Int) : Option Bool :=
  some (decide ((IntKind.wrap .i32 (a0)) < (0 : Int)))
def word_negative.R (r : Bool) : Tm := vb r
theorem word_negative.fun_ {a0 : Int} {r : Bool} (h : word_negative.f a0 = some r) : Fun cfg 64 [.one (.sc (.int .u32 a0))] [] (word_negative.R r) [] := by
  unfold word_negative.f at h
  refine fun_of_run cfg_ok (f := 64) (fn := Try.f64) Try.func64 rfl (by kernel_rfl) (rs := [.tmp 2]) rfl (nt := 6) rfl (l := fin) (k := (aE 4 .nil)) (to_goal (q := (U ∧ (U ∧ (U) ∧ (U) ∧ (U ∧ ((U) ∧ (U) ∧ (vb (decide ((IntKind.wrap .i32 (a0)) < (0 : Int))) : Tm) = word_negative.R r ∧ ([] : List Box) = []))))) (by kernel_rfl) ?_)
  refine ⟨T, T, T, T, T, ?_⟩
  obtain rfl := oi h
  exact ⟨T, T, rfl, rfl⟩
def word_Add.f (a0 : Int) (a1 : Int) (a2 : Bool) : Option (Int × Bool × Bool) :=
  if a2 = true then
    (math_bits_Add32.f a0 a1 (1 : Int)).bind fun t2 =>
    (word_negative.f a0).bind fun t3 =>
    (word_negative.f a1).bind fun t4 =>
    if t3 = t4 then
      (word_negative.f t2.1).bind fun t6 =>
      (word_negative.f a0).bind fun t7 =>
      some (t2.1, (t2.2 == (1 : Int)), (!(t6 == t7)))
    else
      some (t2.1, (t2.2 == (1 : Int)), false)
  else
    (math_bits_Add32.f a0 a1 (0 : Int)).bind fun t8 =>
    (word_negative.f a0).bind fun t9 =>
    (word_negative.f a1).bind fun t10 =>
    if t9 = t10 then
      (word_negative.f t8.1).bind fun t12 =>
      (word_negative.f a0).bind fun t13 =>
      some (t8.1, (t8.2 == (1 : Int)), (!(t12 == t13)))
    else
      some (t8.1, (t8.2 == (1 : Int)), false)
def word_Add.R (r : Int × Bool × Bool) : Tm := .tup [.one (.sc (.int .u32 r.1)), .one (.sc (.bool r.2.1)), .one (.sc (.bool r.2.2))]
theorem word_Add.fun_ {a0 : Int} {a1 : Int} {a2 : Bool} {r : Int × Bool × Bool} (h : word_Add.f a0 a1 a2 = some r) : Fun cfg 54 [.one (.sc (.int .u32 a0)), .one (.sc (.int .u32 a1)), .one (.sc (.bool a2))] [] (word_Add.R r) [] := by
  unfold word_Add.f at h
  refine fun_of_run cfg_ok (f := 54) (fn := Try.f54) Try.func54 rfl (by kernel_rfl) (rs := [.tmp 6, .tmp 7, .tmp 8]) rfl (nt := 35) rfl (l := fin) (k := (.br (.call true [] (Int × Int) math_bits_Add32.R (fun t2 => (.call true [] (Bool) word_negative.R (fun t3 => (.call true [] (Bool) word_negative.R (fun t4 => (.br (.one true (.call true [] (Bool) word_negative.R (fun t6 => (oT 2 (.call true [] (Bool) word_negative.R (fun t7 => (oT 2 (aE 2 .nil)))))))) (oF 5 (aE 2 .nil))))))))) (.call true [] (Int × Int) math_bits_Add32.R (fun t8 => (.call true [] (Bool) word_negative.R (fun t9 => (.call true [] (Bool) word_negative.R (fun t10 => (.br (.one true (.call true [] (Bool) word_negative.R (fun t12 => (oT 2 (.call true [] (Bool) word_negative.R (fun t13 => (oT 2 (aE 2 .nil)))))))) (oF 5 (aE 2 .nil))))))))))) (to_goal (q := ((a2 = true → (∃ t2 : Int × Int, (Fun cfg 63 [.one (.sc (.int .u32 a0)), .one (.sc (.int .u32 a1)), .one (.sc (.int .u32 (1 : Int)))] [] (math_bits_Add32.R t2) [] ∧ U) ∧ (U) ∧ (∃ t3 : Bool, (Fun cfg 64 [.one (.sc (.int .u32 a0))] [] (word_negative.R t3) [] ∧ U) ∧ (∃ t4 : Bool, (Fun cfg 64 [.one (.sc (.int .u32 a1))] [] (word_negative.R t4) [] ∧ U) ∧ (U) ∧ (((t3 == t4) = true → ((t3 == t4) = true ∧ (∃ t6 : Bool, (Fun cfg 64 [.one (.sc (.int .u32 t2.1))] [] (word_negative.R t6) [] ∧ U) ∧ ((t3 == t4) = true ∧ ((t3 == t4) = true ∧ (∃ t7 : Bool, (Fun cfg 64 [.one (.sc (.int .u32 a0))] [] (word_negative.R t7) [] ∧ U) ∧ ((t3 == t4) = true ∧ (U) ∧ ((t3 == t4) = true ∧ (U ∧ ((U) ∧ (U) ∧ (.tup [.one (.sc (.int .u32 t2.1)), .one (.sc (.bool (t2.2 == (1 : Int)))), .one (.sc (.bool (!(t6 == t7))))] : Tm) = word_Add.R r ∧ ([] : List Box) = [])))))))))) ∧ ((t3 == t4) = false → ((t3 == t4) = false ∧ ((t3 == t4) = false ∧ ((t3 == t4) = false ∧ ((t3 == t4) = false ∧ ((t3 == t4) = false ∧ (U ∧ ((U) ∧ (U) ∧ (.tup [.one (.sc (.int .u32 t2.1)), .one (.sc (.bool (t2.2 == (1 : Int)))), .one (.sc (.bool false))] : Tm) = word_Add.R r ∧ ([] : List Box) = []))))))))))))) ∧ (a2 = false → (∃ t8 : Int × Int, (Fun cfg 63 [.one (.sc (.int .u32 a0)), .one (.sc (.int .u32 a1)), .one (.sc (.int .u32 (0 : Int)))] [] (math_bits_Add32.R t8) [] ∧ U) ∧ (U) ∧ (∃ t9 : Bool, (Fun cfg 64 [.one (.sc (.int .u32 a0))] [] (word_negative.R t9) [] ∧ U) ∧ (∃ t10 : Bool, (Fun cfg 64 [.one (.sc (.int .u32 a1))] [] (word_negative.R t10) [] ∧ U) ∧ (U) ∧ (((t9 == t10) = true → ((t9 == t10) = true ∧ (∃ t12 : Bool, (Fun cfg 64 [.one (.sc (.int .u32 t8.1))] [] (word_negative.R t12) [] ∧ U) ∧ ((t9 == t10) = true ∧ ((t9 == t10) = true ∧ (∃ t13 : Bool, (Fun cfg 64 [.one (.sc (.int .u32 a0))] [] (word_negative.R t13) [] ∧ U) ∧ ((t9 == t10) = true ∧ (U) ∧ ((t9 == t10) = true ∧ (U ∧ ((U) ∧ (U) ∧ (.tup [.one (.sc (.int .u32 t8.1)), .one (.sc (.bool (t8.2 == (1 : Int)))), .one (.sc (.bool (!(t12 == t13))))] : Tm) = word_Add.R r ∧ ([] : List Box) = [])))))))))) ∧ ((t9 == t10) = false → ((t9 == t10) = false ∧ ((t9 == t10) = false ∧ ((t9 == t10) = false ∧ ((t9 == t10) = false ∧ ((t9 == t10) = false ∧ (U ∧ ((U) ∧ (U) ∧ (.tup [.one (.sc (.int .u32 t8.1)), .one (.sc (.bool (t8.2 == (1 : Int)))), .one (.sc (.bool false))] : Tm) = word_Add.R r ∧ ([] : List Box) = []))))))))))))))) (by kernel_rfl) ?_)
  refine ⟨fun b1 => ?_, fun b1 => ?_⟩
  · rw [if_pos b1] at h
    obtain ⟨t2, ht2, h⟩ := of_bind h
    refine ⟨t2, ⟨math_bits_Add32.fun_ ht2, T⟩, ?_⟩
    refine tI ?_
    obtain ⟨t3, ht3, h⟩ := of_bind h
    refine ⟨t3, ⟨word_negative.fun_ ht3, T⟩, ?_⟩
    obtain ⟨t4, ht4, h⟩ := of_bind h
    refine ⟨t4, ⟨word_negative.fun_ ht4, T⟩, ?_⟩
    refine tI ?_
    refine ⟨fun b5 => ?_, fun b5 => ?_⟩
    · rw [if_pos (bb_t b5)] at h
      refine ⟨b5, ?_⟩
      obtain ⟨t6, ht6, h⟩ := of_bind h
      refine ⟨t6, ⟨word_negative.fun_ ht6, T⟩, ?_⟩
      refine ⟨b5, ?_⟩
      refine ⟨b5, ?_⟩
      obtain ⟨t7, ht7, h⟩ := of_bind h
      refine ⟨t7, ⟨word_negative.fun_ ht7, T⟩, ?_⟩
      refine ⟨b5, ?_⟩
      refine tI ?_
      refine ⟨b5, ?_⟩
      refine tI ?_
      obtain rfl := oi h
      exact ⟨T, T, rfl, rfl⟩
    · rw [if_neg (bb_f b5)] at h
      refine ⟨b5, ?_⟩
      refine ⟨b5, ?_⟩
      refine ⟨b5, ?_⟩
      refine ⟨b5, ?_⟩
      refine ⟨b5, ?_⟩
      refine tI ?_
      obtain rfl := oi h
      exact ⟨T, T, rfl, rfl⟩
  · rw [if_neg (ff b1)] at h
    obtain ⟨t8, ht8, h⟩ := of_bind h
    refine ⟨t8, ⟨math_bits_Add32.fun_ ht8, T⟩, ?_⟩
    refine tI ?_
    obtain ⟨t9, ht9, h⟩ := of_bind h
    refine ⟨t9, ⟨word_negative.fun_ ht9, T⟩, ?_⟩
    obtain ⟨t10, ht10, h⟩ := of_bind h
    refine ⟨t10, ⟨word_negative.fun_ ht10, T⟩, ?_⟩
    refine tI ?_
    refine ⟨fun b11 => ?_, fun b11 => ?_⟩
    · rw [if_pos (bb_t b11)] at h
      refine ⟨b11, ?_⟩
      obtain ⟨t12, ht12, h⟩ := of_bind h
      refine ⟨t12, ⟨word_negative.fun_ ht12, T⟩, ?_⟩
      refine ⟨b11, ?_⟩
      refine ⟨b11, ?_⟩
      obtain ⟨t13, ht13, h⟩ := of_bind h
      refine ⟨t13, ⟨word_negative.fun_ ht13, T⟩, ?_⟩
      refine ⟨b11, ?_⟩
      refine tI ?_
      refine ⟨b11, ?_⟩
      refine tI ?_
      obtain rfl := oi h
      exact ⟨T, T, rfl, rfl⟩
    · rw [if_neg (bb_f b11)] at h
      refine ⟨b11, ?_⟩
      refine ⟨b11, ?_⟩
      refine ⟨b11, ?_⟩
      refine ⟨b11, ?_⟩
      refine ⟨b11, ?_⟩
      refine tI ?_
      obtain rfl := oi h
      exact ⟨T, T, rfl, rfl⟩
def alu_pair.f (a0 : Int) (a1 : Bool) (a2 : Bool) : Option Int :=
  if a0 = (0 : Int) then
    if ¬ (bits .and .u32 a0 (2147483648 : Int)) = (0 : Int) then
      if a1 = true then
        if a2 = true then
          some (bits .or .u32 (bits .or .u32 (bits .or .u32 (bits .or .u32 (0 : Int) (1 : Int)) (2 : Int)) (4 : Int)) (8 : Int))
        else
          some (bits .or .u32 (bits .or .u32 (bits .or .u32 (0 : Int) (1 : Int)) (2 : Int)) (4 : Int))
      else
        if a2 = true then
          some (bits .or .u32 (bits .or .u32 (bits .or .u32 (0 : Int) (1 : Int)) (2 : Int)) (8 : Int))
        else
          some (bits .or .u32 (bits .or .u32 (0 : Int) (1 : Int)) (2 : Int))
    else
      if a1 = true then
        if a2 = true then
          some (bits .or .u32 (bits .or .u32 (bits .or .u32 (0 : Int) (1 : Int)) (4 : Int)) (8 : Int))
        else
          some (bits .or .u32 (bits .or .u32 (0 : Int) (1 : Int)) (4 : Int))
      else
        if a2 = true then
          some (bits .or .u32 (bits .or .u32 (0 : Int) (1 : Int)) (8 : Int))
        else
          some (bits .or .u32 (0 : Int) (1 : Int))
  else
    if ¬ (bits .and .u32 a0 (2147483648 : Int)) = (0 : Int) then
      if a1 = true then
        if a2 = true then
          some (bits .or .u32 (bits .or .u32 (bits .or .u32 (0 : Int) (2 : Int)) (4 : Int)) (8 : Int))
        else
          some (bits .or .u32 (bits .or .u32 (0 : Int) (2 : Int)) (4 : Int))
      else
        if a2 = true then
          some (bits .or .u32 (bits .or .u32 (0 : Int) (2 : Int)) (8 : Int))
        else
          some (bits .or .u32 (0 : Int) (2 : Int))
    else
      if a1 = true then
        if a2 = true then
          some (bits .or .u32 (bits .or .u32 (0 : Int) (4 : Int)) (8 : Int))
        else
          some (bits .or .u32 (0 : Int) (4 : Int))
      else
        if a2 = true then
          some (bits .or .u32 (0 : Int) (8 : Int))
        else
          some (0 : Int)
def alu_pair.R (r : Int) : Tm := vi .u32 r
theorem alu_pair.fun_ {a0 : Int} {a1 : Bool} {a2 : Bool} {r : Int} (h : alu_pair.f a0 a1 a2 = some r) : Fun cfg 44 [.one (.sc (.int .u32 a0)), .one (.sc (.bool a1)), .one (.sc (.bool a2))] [] (alu_pair.R r) [] := by
  unfold alu_pair.f at h
  refine fun_of_run cfg_ok (f := 44) (fn := Try.f44) Try.func44 rfl (by kernel_rfl) (rs := [.tmp 6]) rfl (nt := 24) rfl (l := fin) (k := (.br (.br (.br (.br (aE 4 .nil) (aE 4 .nil)) (.br (aE 4 .nil) (aE 4 .nil))) (.br (.br (aE 4 .nil) (aE 4 .nil)) (.br (aE 4 .nil) (aE 4 .nil)))) (.br (.br (.br (aE 4 .nil) (aE 4 .nil)) (.br (aE 4 .nil) (aE 4 .nil))) (.br (.br (aE 4 .nil) (aE 4 .nil)) (.br (aE 4 .nil) (aE 4 .nil)))))) (to_goal (q := (U) ∧ (((a0 == (0 : Int)) = true → (U) ∧ (U) ∧ (U) ∧ ((((bits .and .u32 a0 (2147483648 : Int)) != (0 : Int)) = true → (U) ∧ ((a1 = true → (U) ∧ ((a2 = true → (U ∧ (U) ∧ (U ∧ (U ∧ ((U) ∧ (U) ∧ (vi .u32 (bits .or .u32 (bits .or .u32 (bits .or .u32 (bits .or .u32 (0 : Int) (1 : Int)) (2 : Int)) (4 : Int)) (8 : Int)) : Tm) = alu_pair.R r ∧ ([] : List Box) = []))))) ∧ (a2 = false → (U ∧ (U ∧ (U ∧ ((U) ∧ (U) ∧ (vi .u32 (bits .or .u32 (bits .or .u32 (bits .or .u32 (0 : Int) (1 : Int)) (2 : Int)) (4 : Int)) : Tm) = alu_pair.R r ∧ ([] : List Box) = []))))))) ∧ (a1 = false → ((a2 = true → (U ∧ (U) ∧ (U ∧ (U ∧ ((U) ∧ (U) ∧ (vi .u32 (bits .or .u32 (bits .or .u32 (bits .or .u32 (0 : Int) (1 : Int)) (2 : Int)) (8 : Int)) : Tm) = alu_pair.R r ∧ ([] : List Box) = []))))) ∧ (a2 = false → (U ∧ (U ∧ (U ∧ ((U) ∧ (U) ∧ (vi .u32 (bits .or .u32 (bits .or .u32 (0 : Int) (1 : Int)) (2 : Int)) : Tm) = alu_pair.R r ∧ ([] : List Box) = []))))))))) ∧ (((bits .and .u32 a0 (2147483648 : Int)) != (0 : Int)) = false → ((a1 = true → (U) ∧ ((a2 = true → (U ∧ (U) ∧ (U ∧ (U ∧ ((U) ∧ (U) ∧ (vi .u32 (bits .or .u32 (bits .or .u32 (bits .or .u32 (0 : Int) (1 : Int)) (4 : Int)) (8 : Int)) : Tm) = alu_pair.R r ∧ ([] : List Box) = []))))) ∧ (a2 = false → (U ∧ (U ∧ (U ∧ ((U) ∧ (U) ∧ (vi .u32 (bits .or .u32 (bits .or .u32 (0 : Int) (1 : Int)) (4 : Int)) : Tm) = alu_pair.R r ∧ ([] : List Box) = []))))))) ∧ (a1 = false → ((a2 = true → (U ∧ (U) ∧ (U ∧ (U ∧ ((U) ∧ (U) ∧ (vi .u32 (bits .or .u32 (bits .or .u32 (0 : Int) (1 : Int)) (8 : Int)) : Tm) = alu_pair.R r ∧ ([] : List Box) = []))))) ∧ (a2 = false → (U ∧ (U ∧ (U ∧ ((U) ∧ (U) ∧ (vi .u32 (bits .or .u32 (0 : Int) (1 : Int)) : Tm) = alu_pair.R r ∧ ([] : List Box) = []))))))))))) ∧ ((a0 == (0 : Int)) = false → (U) ∧ (U) ∧ ((((bits .and .u32 a0 (2147483648 : Int)) != (0 : Int)) = true → (U) ∧ ((a1 = true → (U) ∧ ((a2 = true → (U ∧ (U) ∧ (U ∧ (U ∧ ((U) ∧ (U) ∧ (vi .u32 (bits .or .u32 (bits .or .u32 (bits .or .u32 (0 : Int) (2 : Int)) (4 : Int)) (8 : Int)) : Tm) = alu_pair.R r ∧ ([] : List Box) = []))))) ∧ (a2 = false → (U ∧ (U ∧ (U ∧ ((U) ∧ (U) ∧ (vi .u32 (bits .or .u32 (bits .or .u32 (0 : Int) (2 : Int)) (4 : Int)) : Tm) = alu_pair.R r ∧ ([] : List Box) = []))))))) ∧ (a1 = false → ((a2 = true → (U ∧ (U) ∧ (U ∧ (U ∧ ((U) ∧ (U) ∧ (vi .u32 (bits .or .u32 (bits .or .u32 (0 : Int) (2 : Int)) (8 : Int)) : Tm) = alu_pair.R r ∧ ([] : List Box) = []))))) ∧ (a2 = false → (U ∧ (U ∧ (U ∧ ((U) ∧ (U) ∧ (vi .u32 (bits .or .u32 (0 : Int) (2 : Int)) : Tm) = alu_pair.R r ∧ ([] : List Box) = []))))))))) ∧ (((bits .and .u32 a0 (2147483648 : Int)) != (0 : Int)) = false → ((a1 = true → (U) ∧ ((a2 = true → (U ∧ (U) ∧ (U ∧ (U ∧ ((U) ∧ (U) ∧ (vi .u32 (bits .or .u32 (bits .or .u32 (0 : Int) (4 : Int)) (8 : Int)) : Tm) = alu_pair.R r ∧ ([] : List Box) = []))))) ∧ (a2 = false → (U ∧ (U ∧ (U ∧ ((U) ∧ (U) ∧ (vi .u32 (bits .or .u32 (0 : Int) (4 : Int)) : Tm) = alu_pair.R r ∧ ([] : List Box) = []))))))) ∧ (a1 = false → ((a2 = true → (U ∧ (U) ∧ (U ∧ (U ∧ ((U) ∧ (U) ∧ (vi .u32 (bits .or .u32 (0 : Int) (8 : Int)) : Tm) = alu_pair.R r ∧ ([] : List Box) = []))))) ∧ (a2 = false → (U ∧ (U ∧ (U ∧ ((U) ∧ (U) ∧ (vi .u32 (0 : Int) : Tm) = alu_pair.R r ∧ ([] : List Box) = []))))))))))))) (by kernel_rfl) ?_)
  refine tI ?_
  refine ⟨fun b1 => ?_, fun b1 => ?_⟩
  · rw [if_pos (beq_t b1)] at h
    refine ⟨T, T, T, ?_⟩
    refine ⟨fun b2 => ?_, fun b2 => ?_⟩
    · rw [if_pos (bne_t b2)] at h
      refine tI ?_
      refine ⟨fun b3 => ?_, fun b3 => ?_⟩
      · rw [if_pos b3] at h
        refine tI ?_
        refine ⟨fun b4 => ?_, fun b4 => ?_⟩
        · rw [if_pos b4] at h
          refine ⟨T, T, T, T, ?_⟩
          obtain rfl := oi h
          exact ⟨T, T, rfl, rfl⟩
        · rw [if_neg (ff b4)] at h
          refine ⟨T, T, T, ?_⟩
          obtain rfl := oi h
          exact ⟨T, T, rfl, rfl⟩
      · rw [if_neg (ff b3)] at h
        refine ⟨fun b5 => ?_, fun b5 => ?_⟩
        · rw [if_pos b5] at h
          refine ⟨T, T, T, T, ?_⟩
          obtain rfl := oi h
          exact ⟨T, T, rfl, rfl⟩
        · rw [if_neg (ff b5)] at h
          refine ⟨T, T, T, ?_⟩
          obtain rfl := oi h
          exact ⟨T, T, rfl, rfl⟩
    · rw [if_neg (not_not_intro (bne_f b2))] at h
      refine ⟨fun b6 => ?_, fun b6 => ?_⟩
      · rw [if_pos b6] at h
        refine tI ?_
        refine ⟨fun b7 => ?_, fun b7 => ?_⟩
        · rw [if_pos b7] at h
          refine ⟨T, T, T, T, ?_⟩
          obtain rfl := oi h
          exact ⟨T, T, rfl, rfl⟩
        · rw [if_neg (ff b7)] at h
          refine ⟨T, T, T, ?_⟩
          obtain rfl := oi h
          exact ⟨T, T, rfl, rfl⟩
      · rw [if_neg (ff b6)] at h
        refine ⟨fun b8 => ?_, fun b8 => ?_⟩
        · rw [if_pos b8] at h
          refine ⟨T, T, T, T, ?_⟩
          obtain rfl := oi h
          exact ⟨T, T, rfl, rfl⟩
        · rw [if_neg (ff b8)] at h
          refine ⟨T, T, T, ?_⟩
          obtain rfl := oi h
          exact ⟨T, T, rfl, rfl⟩
  · rw [if_neg (beq_f b1)] at h
    refine ⟨T, T, ?_⟩
    refine ⟨fun b9 => ?_, fun b9 => ?_⟩
    · rw [if_pos (bne_t b9)] at h
      refine tI ?_
      refine ⟨fun b10 => ?_, fun b10 => ?_⟩
      · rw [if_pos b10] at h
        refine tI ?_
        refine ⟨fun b11 => ?_, fun b11 => ?_⟩
        · rw [if_pos b11] at h
          refine ⟨T, T, T, T, ?_⟩
          obtain rfl := oi h
          exact ⟨T, T, rfl, rfl⟩
        · rw [if_neg (ff b11)] at h
          refine ⟨T, T, T, ?_⟩
          obtain rfl := oi h
          exact ⟨T, T, rfl, rfl⟩
      · rw [if_neg (ff b10)] at h
        refine ⟨fun b12 => ?_, fun b12 => ?_⟩
        · rw [if_pos b12] at h
          refine ⟨T, T, T, T, ?_⟩
          obtain rfl := oi h
          exact ⟨T, T, rfl, rfl⟩
        · rw [if_neg (ff b12)] at h
          refine ⟨T, T, T, ?_⟩
          obtain rfl := oi h
          exact ⟨T, T, rfl, rfl⟩
    · rw [if_neg (not_not_intro (bne_f b9))] at h
      refine ⟨fun b13 => ?_, fun b13 => ?_⟩
      · rw [if_pos b13] at h
        refine tI ?_
        refine ⟨fun b14 => ?_, fun b14 => ?_⟩
        · rw [if_pos b14] at h
          refine ⟨T, T, T, T, ?_⟩
          obtain rfl := oi h
          exact ⟨T, T, rfl, rfl⟩
        · rw [if_neg (ff b14)] at h
          refine ⟨T, T, T, ?_⟩
          obtain rfl := oi h
          exact ⟨T, T, rfl, rfl⟩
      · rw [if_neg (ff b13)] at h
        refine ⟨fun b15 => ?_, fun b15 => ?_⟩
        · rw [if_pos b15] at h
          refine ⟨T, T, T, T, ?_⟩
          obtain rfl := oi h
          exact ⟨T, T, rfl, rfl⟩
        · rw [if_neg (ff b15)] at h
          refine ⟨T, T, T, ?_⟩
          obtain rfl := oi h
          exact ⟨T, T, rfl, rfl⟩
def math_bits_Mul32.f (a0 : Int) (a1 : Int) : Option (Int × Int) :=
  some ((IntKind.wrap .u32 ((shr .u64 (IntKind.wrap .u64 ((IntKind.wrap .u64 (a0)) * (IntKind.wrap .u64 (a1)))) (32 : Int)))), (IntKind.wrap .u32 ((IntKind.wrap .u64 ((IntKind.wrap .u64 (a0)) * (IntKind.wrap .u64 (a1)))))))
def math_bits_Mul32.R (r : Int × Int) : Tm := .tup [.one (.sc (.int .u32 r.1)), .one (.sc (.int .u32 r.2))]
theorem math_bits_Mul32.fun_ {a0 : Int} {a1 : Int} {r : Int × Int} (h : math_bits_Mul32.f a0 a1 = some r) : Fun cfg 65 [.one (.sc (.int .u32 a0)), .one (.sc (.int .u32 a1))] [] (math_bits_Mul32.R r) [] := by
  unfold math_bits_Mul32.f at h
  refine fun_of_run cfg_ok (f := 65) (fn := Try.f65) Try.func65 rfl (by kernel_rfl) (rs := [.tmp 4, .tmp 5]) rfl (nt := 17) rfl (l := fin) (k := (aE 5 .nil)) (to_goal (q := (U ∧ (U ∧ (U) ∧ (U) ∧ (U) ∧ (U ∧ (0 ≤ (32 : Int)) ∧ (U) ∧ (U) ∧ (U ∧ ((U) ∧ (U) ∧ (.tup [.one (.sc (.int .u32 (IntKind.wrap .u32 ((shr .u64 (IntKind.wrap .u64 ((IntKind.wrap .u64 (a0)) * (IntKind.wrap .u64 (a1)))) (32 : Int)))))), .one (.sc (.int .u32 (IntKind.wrap .u32 ((IntKind.wrap .u64 ((IntKind.wrap .u64 (a0)) * (IntKind.wrap .u64 (a1))))))))] : Tm) = math_bits_Mul32.R r ∧ ([] : List Box) = [])))))) (by kernel_rfl) ?_)
  refine ⟨T, T, T, T, T, T, ?_⟩
  refine ⟨(by decide), ?_⟩
  refine ⟨T, T, T, ?_⟩
  obtain rfl := oi h
  exact ⟨T, T, rfl, rfl⟩
def word_Mul.f (a0 : Int) (a1 : Int) : Option (Int × Int) :=
  (math_bits_Mul32.f a0 a1).bind fun t1 =>
  some (t1.2, t1.1)
def word_Mul.R (r : Int × Int) : Tm := .tup [.one (.sc (.int .u32 r.1)), .one (.sc (.int .u32 r.2))]
theorem word_Mul.fun_ {a0 : Int} {a1 : Int} {r : Int × Int} (h : word_Mul.f a0 a1 = some r) : Fun cfg 55 [.one (.sc (.int .u32 a0)), .one (.sc (.int .u32 a1))] [] (word_Mul.R r) [] := by
  unfold word_Mul.f at h
  refine fun_of_run cfg_ok (f := 55) (fn := Try.f55) Try.func55 rfl (by kernel_rfl) (rs := [.tmp 4, .tmp 5]) rfl (nt := 16) rfl (l := fin) (k := (.call true [] (Int × Int) math_bits_Mul32.R (fun t1 => (aE 3 .nil)))) (to_goal (q := (∃ t1 : Int × Int, (Fun cfg 65 [.one (.sc (.int .u32 a0)), .one (.sc (.int .u32 a1))] [] (math_bits_Mul32.R t1) [] ∧ U) ∧ (U ∧ (U ∧ ((U) ∧ (U) ∧ (.tup [.one (.sc (.int .u32 t1.2)), .one (.sc (.int .u32 t1.1))] : Tm) = word_Mul.R r ∧ ([] : List Box) = []))))) (by kernel_rfl) ?_)
  obtain ⟨t1, ht1, h⟩ := of_bind h
  refine ⟨t1, ⟨math_bits_Mul32.fun_ ht1, T⟩, ?_⟩
  refine ⟨T, T, ?_⟩
  obtain rfl := oi h
  exact ⟨T, T, rfl, rfl⟩
def math_bits_Sub32.f (a0 : Int) (a1 : Int) (a2 : Int) : Option (Int × Int) :=
  some ((IntKind.wrap .u32 ((IntKind.wrap .u32 (a0 - a1)) - a2)), (shr .u32 (bits .or .u32 (bits .and .u32 (bits .xor .u32 (IntKind.max .u32) a0) a1) (bits .and .u32 (bits .xor .u32 (IntKind.max .u32) (bits .xor .u32 a0 a1)) (IntKind.wrap .u32 ((IntKind.wrap .u32 (a0 - a1)) - a2)))) (31 : Int)))
def math_bits_Sub32.R (r : Int × Int) : Tm := .tup [.one (.sc (.int .u32 r.1)), .one (.sc (.int .u32 r.2))]
theorem math_bits_Sub32.fun_ {a0 : Int} {a1 : Int} {a2 : Int} {r : Int × Int} (h : math_bits_Sub32.f a0 a1 a2 = some r) : Fun cfg 66 [.one (.sc (.int .u32 a0)), .one (.sc (.int .u32 a1)), .one (.sc (.int .u32 a2))] [] (math_bits_Sub32.R r) [] := by
  unfold math_bits_Sub32.f at h
  refine fun_of_run cfg_ok (f := 66) (fn := Try.f66) Try.func66 rfl (by kernel_rfl) (rs := [.tmp 6, .tmp 7]) rfl (nt := 25) rfl (l := fin) (k := (aE 5 .nil)) (to_goal (q := (U ∧ (U ∧ (U) ∧ (U) ∧ (U ∧ (U) ∧ (U) ∧ (U) ∧ (U) ∧ (0 ≤ (31 : Int)) ∧ (U ∧ ((U) ∧ (U) ∧ (.tup [.one (.sc (.int .u32 (IntKind.wrap .u32 ((IntKind.wrap .u32 (a0 - a1)) - a2)))), .one (.sc (.int .u32 (shr .u32 (bits .or .u32 (bits .and .u32 (bits .xor .u32 (IntKind.max .u32) a0) a1) (bits .and .u32 (bits .xor .u32 (IntKind.max .u32) (bits .xor .u32 a0 a1)) (IntKind.wrap .u32 ((IntKind.wrap .u32 (a0 - a1)) - a2)))) (31 : Int))))] : Tm) = math_bits_Sub32.R r ∧ ([] : List Box) = [])))))) (by kernel_rfl) ?_)
  refine ⟨T, T, T, T, T, T, T, T, T, ?_⟩
  refine ⟨(by decide), ?_⟩
  refine tI ?_
  obtain rfl := oi h
  exact ⟨T, T, rfl, rfl⟩
def word_Sub.f (a0 : Int) (a1 : Int) : Option (Int × Bool × Bool) :=
  (math_bits_Sub32.f a0 a1 (0 : Int)).bind fun t1 =>
  (word_negative.f a0).bind fun t2 =>
  (word_negative.f a1).bind fun t3 =>
  if ¬ (t2 = t3) then
    (word_negative.f t1.1).bind fun t5 =>
    (word_negative.f a0).bind fun t6 =>
    some (t1.1, (t1.2 == (1 : Int)), (!(t5 == t6)))
  else
    some (t1.1, (t1.2 == (1 : Int)), false)
def word_Sub.R (r : Int × Bool × Bool) : Tm := .tup [.one (.sc (.int .u32 r.1)), .one (.sc (.bool r.2.1)), .one (.sc (.bool r.2.2))]
theorem word_Sub.fun_ {a0 : Int} {a1 : Int} {r : Int × Bool × Bool} (h : word_Sub.f a0 a1 = some r) : Fun cfg 56 [.one (.sc (.int .u32 a0)), .one (.sc (.int .u32 a1))] [] (word_Sub.R r) [] := by
  unfold word_Sub.f at h
  refine fun_of_run cfg_ok (f := 56) (fn := Try.f56) Try.func56 rfl (by kernel_rfl) (rs := [.tmp 4, .tmp 5, .tmp 6]) rfl (nt := 30) rfl (l := fin) (k := (.call true [] (Int × Int) math_bits_Sub32.R (fun t1 => (.call true [] (Bool) word_negative.R (fun t2 => (.call true [] (Bool) word_negative.R (fun t3 => (.br (.one true (.call true [] (Bool) word_negative.R (fun t5 => (oT 2 (.call true [] (Bool) word_negative.R (fun t6 => (oT 2 (aE 2 .nil)))))))) (oF 5 (aE 2 .nil)))))))))) (to_goal (q := (∃ t1 : Int × Int, (Fun cfg 66 [.one (.sc (.int .u32 a0)), .one (.sc (.int .u32 a1)), .one (.sc (.int .u32 (0 : Int)))] [] (math_bits_Sub32.R t1) [] ∧ U) ∧ (U) ∧ (∃ t2 : Bool, (Fun cfg 64 [.one (.sc (.int .u32 a0))] [] (word_negative.R t2) [] ∧ U) ∧ (∃ t3 : Bool, (Fun cfg 64 [.one (.sc (.int .u32 a1))] [] (word_negative.R t3) [] ∧ U) ∧ (U) ∧ (((!(t2 == t3)) = true → ((!(t2 == t3)) = true ∧ (∃ t5 : Bool, (Fun cfg 64 [.one (.sc (.int .u32 t1.1))] [] (word_negative.R t5) [] ∧ U) ∧ ((!(t2 == t3)) = true ∧ ((!(t2 == t3)) = true ∧ (∃ t6 : Bool, (Fun cfg 64 [.one (.sc (.int .u32 a0))] [] (word_negative.R t6) [] ∧ U) ∧ ((!(t2 == t3)) = true ∧ (U) ∧ ((!(t2 == t3)) = true ∧ (U ∧ ((U) ∧ (U) ∧ (.tup [.one (.sc (.int .u32 t1.1)), .one (.sc (.bool (t1.2 == (1 : Int)))), .one (.sc (.bool (!(t5 == t6))))] : Tm) = word_Sub.R r ∧ ([] : List Box) = [])))))))))) ∧ ((!(t2 == t3)) = false → ((!(t2 == t3)) = false ∧ ((!(t2 == t3)) = false ∧ ((!(t2 == t3)) = false ∧ ((!(t2 == t3)) = false ∧ ((!(t2 == t3)) = false ∧ (U ∧ ((U) ∧ (U) ∧ (.tup [.one (.sc (.int .u32 t1.1)), .one (.sc (.bool (t1.2 == (1 : Int)))), .one (.sc (.bool false))] : Tm) = word_Sub.R r ∧ ([] : List Box) = []))))))))))))) (by kernel_rfl) ?_)
  obtain ⟨t1, ht1, h⟩ := of_bind h
  refine ⟨t1, ⟨math_bits_Sub32.fun_ ht1, T⟩, ?_⟩
  refine tI ?_
  obtain ⟨t2, ht2, h⟩ := of_bind h
  refine ⟨t2, ⟨word_negative.fun_ ht2, T⟩, ?_⟩
  obtain ⟨t3, ht3, h⟩ := of_bind h
  refine ⟨t3, ⟨word_negative.fun_ ht3, T⟩, ?_⟩
  refine tI ?_
  refine ⟨fun b4 => ?_, fun b4 => ?_⟩
  · rw [if_pos (bb_f (not_t b4))] at h
    refine ⟨b4, ?_⟩
    obtain ⟨t5, ht5, h⟩ := of_bind h
    refine ⟨t5, ⟨word_negative.fun_ ht5, T⟩, ?_⟩
    refine ⟨b4, ?_⟩
    refine ⟨b4, ?_⟩
    obtain ⟨t6, ht6, h⟩ := of_bind h
    refine ⟨t6, ⟨word_negative.fun_ ht6, T⟩, ?_⟩
    refine ⟨b4, ?_⟩
    refine tI ?_
    refine ⟨b4, ?_⟩
    refine tI ?_
    obtain rfl := oi h
    exact ⟨T, T, rfl, rfl⟩
  · rw [if_neg (not_not_intro (bb_t (not_f b4)))] at h
    refine ⟨b4, ?_⟩
    refine ⟨b4, ?_⟩
    refine ⟨b4, ?_⟩
    refine ⟨b4, ?_⟩
    refine ⟨b4, ?_⟩
    refine tI ?_
    obtain rfl := oi h
    exact ⟨T, T, rfl, rfl⟩
def alu_sums.f (a0 : Int) (a1 : Int) (a2 : Int) : Option (Int × Int) :=
  if a0 = (4 : Int) then
    (word_Add.f a1 a2 false).bind fun t2 =>
    (alu_pair.f t2.1 t2.2.1 t2.2.2).bind fun t3 =>
    some (t2.1, t3)
  else
    if a0 = (6 : Int) then
      (word_Mul.f a1 a2).bind fun t5 =>
      (alu_pair.f t5.1 (t5.2 != (0 : Int)) false).bind fun t6 =>
      some (t5.1, t6)
    else
      (word_Sub.f a1 a2).bind fun t7 =>
      if a0 = (16 : Int) then
        (alu_pair.f t7.1 t7.2.1 t7.2.2).bind fun t9 =>
        some (a1, t9)
      else
        (alu_pair.f t7.1 t7.2.1 t7.2.2).bind fun t10 =>
        some (t7.1, t10)
def alu_sums.R (r : Int × Int) : Tm := .tup [.one (.sc (.int .u32 r.1)), .one (.sc (.int .u32 r.2))]
theorem alu_sums.fun_ {a0 : Int} {a1 : Int} {a2 : Int} {r : Int × Int} (h : alu_sums.f a0 a1 a2 = some r) : Fun cfg 42 [.one (.sc (.int .i64 a0)), .one (.sc (.int .u32 a1)), .one (.sc (.int .u32 a2))] [] (alu_sums.R r) [] := by
  unfold alu_sums.f at h
  refine fun_of_run cfg_ok (f := 42) (fn := Try.f42) Try.func42 rfl (by kernel_rfl) (rs := [.tmp 6, .tmp 7]) rfl (nt := 63) rfl (l := fin) (k := (.br (.call true [] (Int × Bool × Bool) word_Add.R (fun t2 => (.call true [] (Int) alu_pair.R (fun t3 => (aE 2 .nil))))) (.br (.call true [] (Int × Int) word_Mul.R (fun t5 => (.call true [] (Int) alu_pair.R (fun t6 => (aE 2 .nil))))) (.call true [] (Int × Bool × Bool) word_Sub.R (fun t7 => (.br (.call true [] (Int) alu_pair.R (fun t9 => (aE 2 .nil))) (.call true [] (Int) alu_pair.R (fun t10 => (aE 2 .nil))))))))) (to_goal (q := (U) ∧ (((a0 == (4 : Int)) = true → (∃ t2 : Int × Bool × Bool, (Fun cfg 54 [.one (.sc (.int .u32 a1)), .one (.sc (.int .u32 a2)), .one (.sc (.bool false))] [] (word_Add.R t2) [] ∧ U) ∧ (∃ t3 : Int, (Fun cfg 44 [.one (.sc (.int .u32 t2.1)), .one (.sc (.bool t2.2.1)), .one (.sc (.bool (z2 t2)))] [] (alu_pair.R t3) [] ∧ U) ∧ (U ∧ ((U) ∧ (U) ∧ (.tup [.one (.sc (.int .u32 t2.1)), .one (.sc (.int .u32 t3))] : Tm) = alu_sums.R r ∧ ([] : List Box) = []))))) ∧ ((a0 == (4 : Int)) = false → (U) ∧ (((a0 == (6 : Int)) = true → (∃ t5 : Int × Int, (Fun cfg 55 [.one (.sc (.int .u32 a1)), .one (.sc (.int .u32 a2))] [] (word_Mul.R t5) [] ∧ U) ∧ (U) ∧ (∃ t6 : Int, (Fun cfg 44 [.one (.sc (.int .u32 t5.1)), .one (.sc (.bool (t5.2 != (0 : Int)))), .one (.sc (.bool false))] [] (alu_pair.R t6) [] ∧ U) ∧ (U ∧ ((U) ∧ (U) ∧ (.tup [.one (.sc (.int .u32 t5.1)), .one (.sc (.int .u32 t6))] : Tm) = alu_sums.R r ∧ ([] : List Box) = []))))) ∧ ((a0 == (6 : Int)) = false → (∃ t7 : Int × Bool × Bool, (Fun cfg 56 [.one (.sc (.int .u32 a1)), .one (.sc (.int .u32 a2))] [] (word_Sub.R t7) [] ∧ U) ∧ (U) ∧ (((a0 == (16 : Int)) = true → (∃ t9 : Int, (Fun cfg 44 [.one (.sc (.int .u32 t7.1)), .one (.sc (.bool t7.2.1)), .one (.sc (.bool (z2 t7)))] [] (alu_pair.R t9) [] ∧ U) ∧ (U ∧ ((U) ∧ (U) ∧ (.tup [.one (.sc (.int .u32 a1)), .one (.sc (.int .u32 t9))] : Tm) = alu_sums.R r ∧ ([] : List Box) = [])))) ∧ ((a0 == (16 : Int)) = false → (∃ t10 : Int, (Fun cfg 44 [.one (.sc (.int .u32 t7.1)), .one (.sc (.bool t7.2.1)), .one (.sc (.bool (z2 t7)))] [] (alu_pair.R t10) [] ∧ U) ∧ (U ∧ ((U) ∧ (U) ∧ (.tup [.one (.sc (.int .u32 t7.1)), .one (.sc (.int .u32 t10))] : Tm) = alu_sums.R r ∧ ([] : List Box) = []))))))))))) (by kernel_rfl) ?_)
  refine tI ?_
  refine ⟨fun b1 => ?_, fun b1 => ?_⟩
  · rw [if_pos (beq_t b1)] at h
    obtain ⟨t2, ht2, h⟩ := of_bind h
    refine ⟨t2, ⟨word_Add.fun_ ht2, T⟩, ?_⟩
    obtain ⟨t3, ht3, h⟩ := of_bind h
    refine ⟨t3, ⟨alu_pair.fun_ ht3, T⟩, ?_⟩
    refine tI ?_
    obtain rfl := oi h
    exact ⟨T, T, rfl, rfl⟩
  · rw [if_neg (beq_f b1)] at h
    refine tI ?_
    refine ⟨fun b4 => ?_, fun b4 => ?_⟩
    · rw [if_pos (beq_t b4)] at h
      obtain ⟨t5, ht5, h⟩ := of_bind h
      refine ⟨t5, ⟨word_Mul.fun_ ht5, T⟩, ?_⟩
      refine tI ?_
      obtain ⟨t6, ht6, h⟩ := of_bind h
      refine ⟨t6, ⟨alu_pair.fun_ ht6, T⟩, ?_⟩
      refine tI ?_
      obtain rfl := oi h
      exact ⟨T, T, rfl, rfl⟩
    · rw [if_neg (beq_f b4)] at h
      obtain ⟨t7, ht7, h⟩ := of_bind h
      refine ⟨t7, ⟨word_Sub.fun_ ht7, T⟩, ?_⟩
      refine tI ?_
      refine ⟨fun b8 => ?_, fun b8 => ?_⟩
      · rw [if_pos (beq_t b8)] at h
        obtain ⟨t9, ht9, h⟩ := of_bind h
        refine ⟨t9, ⟨alu_pair.fun_ ht9, T⟩, ?_⟩
        refine tI ?_
        obtain rfl := oi h
        exact ⟨T, T, rfl, rfl⟩
      · rw [if_neg (beq_f b8)] at h
        obtain ⟨t10, ht10, h⟩ := of_bind h
        refine ⟨t10, ⟨alu_pair.fun_ ht10, T⟩, ?_⟩
        refine tI ?_
        obtain rfl := oi h
        exact ⟨T, T, rfl, rfl⟩
def word_Div.f (a0 : Int) (a1 : Int) : Option (Int × Int × (Option Int)) :=
  if a1 = (0 : Int) then
    some ((0 : Int), (0 : Int), (some (22 : Int)))
  else
    if a1 ≠ 0 then
      if a1 ≠ 0 then
        some ((IntKind.wrap .u32 (Int.tdiv a0 a1)), (Int.tmod a0 a1), none)
      else none
    else none
def word_Div.R (r : Int × Int × (Option Int)) : Tm := .tup [.one (.sc (.int .u32 r.1)), .one (.sc (.int .u32 r.2.1)), .one (.err r.2.2)]
theorem word_Div.fun_ {a0 : Int} {a1 : Int} {r : Int × Int × (Option Int)} (h : word_Div.f a0 a1 = some r) : Fun cfg 57 [.one (.sc (.int .u32 a0)), .one (.sc (.int .u32 a1))] [] (word_Div.R r) [] := by
  unfold word_Div.f at h
  refine fun_of_run cfg_ok (f := 57) (fn := Try.f57) Try.func57 rfl (by kernel_rfl) (rs := [.tmp 4, .tmp 5, .tmp 6]) rfl (nt := 16) rfl (l := fin) (k := (.br (aE 3 .nil) (.dr (nr 0 9 []) (aE 2 .nil)))) (to_goal (q := (U) ∧ (((a1 == (0 : Int)) = true → (U ∧ (U ∧ ((U) ∧ (U) ∧ (.tup [.one (.sc (.int .u32 (0 : Int))), .one (.sc (.int .u32 (0 : Int))), .one (.err (some (22 : Int)))] : Tm) = word_Div.R r ∧ ([] : List Box) = [])))) ∧ ((a1 == (0 : Int)) = false → (a1 ≠ 0) ∧ (a1 ≠ 0) ∧ (U ∧ ((U) ∧ (U) ∧ (.tup [.one (.sc (.int .u32 (IntKind.wrap .u32 (Int.tdiv a0 a1)))), .one (.sc (.int .u32 (Int.tmod a0 a1))), .one (.err none)] : Tm) = word_Div.R r ∧ ([] : List Box) = []))))) (by kernel_rfl) ?_)
  refine tI ?_
  refine ⟨fun b1 => ?_, fun b1 => ?_⟩
  · rw [if_pos (beq_t b1)] at h
    refine ⟨T, T, ?_⟩
    obtain rfl := oi h
    exact ⟨T, T, rfl, rfl⟩
  · rw [if_neg (beq_f b1)] at h
    obtain ⟨g2, h⟩ := of_guard h
    obtain ⟨g3, h⟩ := of_guard h
    refine ⟨g2, g3, ?_⟩
    refine tI ?_
    obtain rfl := oi h
    exact ⟨T, T, rfl, rfl⟩
def alu_parts.f (a0 : Int) (a1 : Int) (a2 : Int) : Option (Int × (Option Int)) :=
  (word_Div.f a1 a2).bind fun t1 =>
  if ¬ (t1.2.2 = none) then
    some ((0 : Int), (some (14 : Int)))
  else
    if a0 = (8 : Int) then
      some (t1.2.1, none)
    else
      some (t1.1, none)
def alu_parts.R (r : Int × (Option Int)) : Tm := .tup [.one (.sc (.int .u32 r.1)), .one (.err r.2)]
theorem alu_parts.fun_ {a0 : Int} {a1 : Int} {a2 : Int} {r : Int × (Option Int)} (h : alu_parts.f a0 a1 a2 = some r) : Fun cfg 43 [.one (.sc (.int .i64 a0)), .one (.sc (.int .u32 a1)), .one (.sc (.int .u32 a2))] [] (alu_parts.R r) [] := by
  unfold alu_parts.f at h
  refine fun_of_run cfg_ok (f := 43) (fn := Try.f43) Try.func43 rfl (by kernel_rfl) (rs := [.tmp 6, .tmp 7]) rfl (nt := 27) rfl (l := fin) (k := (.call true [] (Int × Int × (Option Int)) word_Div.R (fun t1 => (.br (aE 3 .nil) (.br (aE 3 .nil) (aE 4 .nil)))))) (to_goal (q := (∃ t1 : Int × Int × (Option Int), (Fun cfg 57 [.one (.sc (.int .u32 a1)), .one (.sc (.int .u32 a2))] [] (word_Div.R t1) [] ∧ U) ∧ (U) ∧ (((!(Option.isNone (z2 t1))) = true → (U ∧ (U ∧ ((U) ∧ (U) ∧ (.tup [.one (.sc (.int .u32 (0 : Int))), .one (.err (some (14 : Int)))] : Tm) = alu_parts.R r ∧ ([] : List Box) = [])))) ∧ ((!(Option.isNone (z2 t1))) = false → (U) ∧ (((a0 == (8 : Int)) = true → (U ∧ (U ∧ ((U) ∧ (U) ∧ (.tup [.one (.sc (.int .u32 t1.2.1)), .one (.err none)] : Tm) = alu_parts.R r ∧ ([] : List Box) = [])))) ∧ ((a0 == (8 : Int)) = false → (U ∧ (U ∧ (U ∧ ((U) ∧ (U) ∧ (.tup [.one (.sc (.int .u32 t1.1)), .one (.err none)] : Tm) = alu_parts.R r ∧ ([] : List Box) = [])))))))))) (by kernel_rfl) ?_)
  obtain ⟨t1, ht1, h⟩ := of_bind h
  refine ⟨t1, ⟨word_Div.fun_ ht1, T⟩, ?_⟩
  refine tI ?_
  refine ⟨fun b2 => ?_, fun b2 => ?_⟩
  · rw [if_pos (none_f (not_t b2))] at h
    refine ⟨T, T, ?_⟩
    obtain rfl := oi h
    exact ⟨T, T, rfl, rfl⟩
  · rw [if_neg (not_not_intro (none_t (not_f b2)))] at h
    refine tI ?_
    refine ⟨fun b3 => ?_, fun b3 => ?_⟩
    · rw [if_pos (beq_t b3)] at h
      refine ⟨T, T, ?_⟩
      obtain rfl := oi h
      exact ⟨T, T, rfl, rfl⟩
    · rw [if_neg (beq_f b3)] at h
      refine ⟨T, T, T, ?_⟩
      obtain rfl := oi h
      exact ⟨T, T, rfl, rfl⟩
def word_Shift.f (a0 : Int) (a1 : Int) : Option Int :=
  if a1 < (0 : Int) then
    if 0 ≤ (Int.tmod (IntKind.wrap .u64 ((IntKind.wrap .i64 (0 - a1)))) (32 : Int)) then
      some (shr .u32 a0 (Int.tmod (IntKind.wrap .u64 ((IntKind.wrap .i64 (0 - a1)))) (32 : Int)))
    else none
  else
    if 0 ≤ (Int.tmod (IntKind.wrap .u64 (a1)) (32 : Int)) then
      some (shl .u32 a0 (Int.tmod (IntKind.wrap .u64 (a1)) (32 : Int)))
    else none
def word_Shift.R (r : Int) : Tm := vi .u32 r
theorem word_Shift.fun_ {a0 : Int} {a1 : Int} {r : Int} (h : word_Shift.f a0 a1 = some r) : Fun cfg 58 [.one (.sc (.int .u32 a0)), .one (.sc (.int .i64 a1))] [] (word_Shift.R r) [] := by
  unfold word_Shift.f at h
  refine fun_of_run cfg_ok (f := 58) (fn := Try.f58) Try.func58 rfl (by kernel_rfl) (rs := [.tmp 4]) rfl (nt := 18) rfl (l := fin) (k := (.br (aE 3 .nil) (aE 4 .nil))) (to_goal (q := (U) ∧ (((decide (a1 < (0 : Int))) = true → (U ∧ (U) ∧ ((32 : Int) ≠ 0) ∧ (0 ≤ (Int.tmod (IntKind.wrap .u64 ((IntKind.wrap .i64 (0 - a1)))) (32 : Int))) ∧ (U ∧ ((U) ∧ (U) ∧ (vi .u32 (shr .u32 a0 (Int.tmod (IntKind.wrap .u64 ((IntKind.wrap .i64 (0 - a1)))) (32 : Int))) : Tm) = word_Shift.R r ∧ ([] : List Box) = [])))) ∧ ((decide (a1 < (0 : Int))) = false → (U ∧ (U ∧ (U) ∧ ((32 : Int) ≠ 0) ∧ (0 ≤ (Int.tmod (IntKind.wrap .u64 (a1)) (32 : Int))) ∧ (U ∧ ((U) ∧ (U) ∧ (vi .u32 (shl .u32 a0 (Int.tmod (IntKind.wrap .u64 (a1)) (32 : Int))) : Tm) = word_Shift.R r ∧ ([] : List Box) = []))))))) (by kernel_rfl) ?_)
  refine tI ?_
  refine ⟨fun b1 => ?_, fun b1 => ?_⟩
  · rw [if_pos (dT_ b1)] at h
    refine ⟨T, T, ?_⟩
    refine ⟨(by decide), ?_⟩
    obtain ⟨g2, h⟩ := of_guard h
    refine ⟨g2, ?_⟩
    refine tI ?_
    obtain rfl := oi h
    exact ⟨T, T, rfl, rfl⟩
  · rw [if_neg (dF_ b1)] at h
    refine ⟨T, T, T, ?_⟩
    refine ⟨(by decide), ?_⟩
    obtain ⟨g3, h⟩ := of_guard h
    refine ⟨g3, ?_⟩
    refine tI ?_
    obtain rfl := oi h
    exact ⟨T, T, rfl, rfl⟩
def word_Sar.f (a0 : Int) (a1 : Int) : Option Int :=
  if 0 ≤ (Int.tmod (IntKind.wrap .u64 (a1)) (32 : Int)) then
    some (IntKind.wrap .u32 ((shr .i32 (IntKind.wrap .i32 (a0)) (Int.tmod (IntKind.wrap .u64 (a1)) (32 : Int)))))
  else none
def word_Sar.R (r : Int) : Tm := vi .u32 r
theorem word_Sar.fun_ {a0 : Int} {a1 : Int} {r : Int} (h : word_Sar.f a0 a1 = some r) : Fun cfg 59 [.one (.sc (.int .u32 a0)), .one (.sc (.int .i64 a1))] [] (word_Sar.R r) [] := by
  unfold word_Sar.f at h
  refine fun_of_run cfg_ok (f := 59) (fn := Try.f59) Try.func59 rfl (by kernel_rfl) (rs := [.tmp 4]) rfl (nt := 12) rfl (l := fin) (k := (aE 4 .nil)) (to_goal (q := (U ∧ (U ∧ (U) ∧ (U) ∧ ((32 : Int) ≠ 0) ∧ (0 ≤ (Int.tmod (IntKind.wrap .u64 (a1)) (32 : Int))) ∧ (U) ∧ (U ∧ ((U) ∧ (U) ∧ (vi .u32 (IntKind.wrap .u32 ((shr .i32 (IntKind.wrap .i32 (a0)) (Int.tmod (IntKind.wrap .u64 (a1)) (32 : Int))))) : Tm) = word_Sar.R r ∧ ([] : List Box) = []))))) (by kernel_rfl) ?_)
  refine ⟨T, T, T, T, ?_⟩
  refine ⟨(by decide), ?_⟩
  obtain ⟨g1, h⟩ := of_guard h
  refine ⟨g1, ?_⟩
  refine ⟨T, T, ?_⟩
  obtain rfl := oi h
  exact ⟨T, T, rfl, rfl⟩
def alu_plain.f (a0 : Int) (a1 : Int) (a2 : Int) : Option (Int × (Option Int)) :=
  if a0 = (9 : Int) then
    some ((bits .and .u32 a1 a2), none)
  else
    if a0 = (10 : Int) then
      some ((bits .or .u32 a1 a2), none)
    else
      if a0 = (11 : Int) then
        some ((bits .xor .u32 a1 a2), none)
      else
        if a0 = (12 : Int) then
          (word_Shift.f a1 (IntKind.wrap .i64 ((Int.tmod a2 (32 : Int))))).bind fun t5 =>
          some (t5, none)
        else
          if a0 = (13 : Int) then
            (word_Shift.f a1 (IntKind.wrap .i64 (0 - (IntKind.wrap .i64 ((Int.tmod a2 (32 : Int))))))).bind fun t7 =>
            some (t7, none)
          else
            if a0 = (14 : Int) then
              (word_Sar.f a1 (IntKind.wrap .i64 ((Int.tmod a2 (32 : Int))))).bind fun t9 =>
              some (t9, none)
            else
              some ((0 : Int), (some (22 : Int)))
def alu_plain.R (r : Int × (Option Int)) : Tm := .tup [.one (.sc (.int .u32 r.1)), .one (.err r.2)]
theorem alu_plain.fun_ {a0 : Int} {a1 : Int} {a2 : Int} {r : Int × (Option Int)} (h : alu_plain.f a0 a1 a2 = some r) : Fun cfg 45 [.one (.sc (.int .i64 a0)), .one (.sc (.int .u32 a1)), .one (.sc (.int .u32 a2))] [] (alu_plain.R r) [] := by
  unfold alu_plain.f at h
  refine fun_of_run cfg_ok (f := 45) (fn := Try.f45) Try.func45 rfl (by kernel_rfl) (rs := [.tmp 6, .tmp 7]) rfl (nt := 45) rfl (l := fin) (k := (.br (aE 3 .nil) (.br (aE 3 .nil) (.br (aE 3 .nil) (.br (.call true [] (Int) word_Shift.R (fun t5 => (aE 2 .nil))) (.br (.call true [] (Int) word_Shift.R (fun t7 => (aE 2 .nil))) (.br (.call true [] (Int) word_Sar.R (fun t9 => (aE 2 .nil))) (aE 4 .nil)))))))) (to_goal (q := ((32 : Int) ≠ 0) ∧ (U) ∧ (U) ∧ (((a0 == (9 : Int)) = true → (U ∧ (U) ∧ (U ∧ ((U) ∧ (U) ∧ (.tup [.one (.sc (.int .u32 (bits .and .u32 a1 a2))), .one (.err none)] : Tm) = alu_plain.R r ∧ ([] : List Box) = [])))) ∧ ((a0 == (9 : Int)) = false → (U) ∧ (((a0 == (10 : Int)) = true → (U ∧ (U) ∧ (U ∧ ((U) ∧ (U) ∧ (.tup [.one (.sc (.int .u32 (bits .or .u32 a1 a2))), .one (.err none)] : Tm) = alu_plain.R r ∧ ([] : List Box) = [])))) ∧ ((a0 == (10 : Int)) = false → (U) ∧ (((a0 == (11 : Int)) = true → (U ∧ (U) ∧ (U ∧ ((U) ∧ (U) ∧ (.tup [.one (.sc (.int .u32 (bits .xor .u32 a1 a2))), .one (.err none)] : Tm) = alu_plain.R r ∧ ([] : List Box) = [])))) ∧ ((a0 == (11 : Int)) = false → (U) ∧ (((a0 == (12 : Int)) = true → (∃ t5 : Int, (Fun cfg 58 [.one (.sc (.int .u32 a1)), .one (.sc (.int .i64 (IntKind.wrap .i64 ((Int.tmod a2 (32 : Int))))))] [] (word_Shift.R t5) [] ∧ U) ∧ (U ∧ ((U) ∧ (U) ∧ (.tup [.one (.sc (.int .u32 t5)), .one (.err none)] : Tm) = alu_plain.R r ∧ ([] : List Box) = [])))) ∧ ((a0 == (12 : Int)) = false → (U) ∧ (((a0 == (13 : Int)) = true → (∃ t7 : Int, (Fun cfg 58 [.one (.sc (.int .u32 a1)), .one (.sc (.int .i64 (IntKind.wrap .i64 (0 - (IntKind.wrap .i64 ((Int.tmod a2 (32 : Int))))))))] [] (word_Shift.R t7) [] ∧ U) ∧ (U ∧ ((U) ∧ (U) ∧ (.tup [.one (.sc (.int .u32 t7)), .one (.err none)] : Tm) = alu_plain.R r ∧ ([] : List Box) = [])))) ∧ ((a0 == (13 : Int)) = false → (U) ∧ (((a0 == (14 : Int)) = true → (∃ t9 : Int, (Fun cfg 59 [.one (.sc (.int .u32 a1)), .one (.sc (.int .i64 (IntKind.wrap .i64 ((Int.tmod a2 (32 : Int))))))] [] (word_Sar.R t9) [] ∧ U) ∧ (U ∧ ((U) ∧ (U) ∧ (.tup [.one (.sc (.int .u32 t9)), .one (.err none)] : Tm) = alu_plain.R r ∧ ([] : List Box) = [])))) ∧ ((a0 == (14 : Int)) = false → (U ∧ (U ∧ (U ∧ ((U) ∧ (U) ∧ (.tup [.one (.sc (.int .u32 (0 : Int))), .one (.err (some (22 : Int)))] : Tm) = alu_plain.R r ∧ ([] : List Box) = []))))))))))))))))) (by kernel_rfl) ?_)
  refine ⟨(by decide), ?_⟩
  refine ⟨T, T, ?_⟩
  refine ⟨fun b1 => ?_, fun b1 => ?_⟩
  · rw [if_pos (beq_t b1)] at h
    refine ⟨T, T, T, ?_⟩
    obtain rfl := oi h
    exact ⟨T, T, rfl, rfl⟩
  · rw [if_neg (beq_f b1)] at h
    refine tI ?_
    refine ⟨fun b2 => ?_, fun b2 => ?_⟩
    · rw [if_pos (beq_t b2)] at h
      refine ⟨T, T, T, ?_⟩
      obtain rfl := oi h
      exact ⟨T, T, rfl, rfl⟩
    · rw [if_neg (beq_f b2)] at h
      refine tI ?_
      refine ⟨fun b3 => ?_, fun b3 => ?_⟩
      · rw [if_pos (beq_t b3)] at h
        refine ⟨T, T, T, ?_⟩
        obtain rfl := oi h
        exact ⟨T, T, rfl, rfl⟩
      · rw [if_neg (beq_f b3)] at h
        refine tI ?_
        refine ⟨fun b4 => ?_, fun b4 => ?_⟩
        · rw [if_pos (beq_t b4)] at h
          obtain ⟨t5, ht5, h⟩ := of_bind h
          refine ⟨t5, ⟨word_Shift.fun_ ht5, T⟩, ?_⟩
          refine tI ?_
          obtain rfl := oi h
          exact ⟨T, T, rfl, rfl⟩
        · rw [if_neg (beq_f b4)] at h
          refine tI ?_
          refine ⟨fun b6 => ?_, fun b6 => ?_⟩
          · rw [if_pos (beq_t b6)] at h
            obtain ⟨t7, ht7, h⟩ := of_bind h
            refine ⟨t7, ⟨word_Shift.fun_ ht7, T⟩, ?_⟩
            refine tI ?_
            obtain rfl := oi h
            exact ⟨T, T, rfl, rfl⟩
          · rw [if_neg (beq_f b6)] at h
            refine tI ?_
            refine ⟨fun b8 => ?_, fun b8 => ?_⟩
            · rw [if_pos (beq_t b8)] at h
              obtain ⟨t9, ht9, h⟩ := of_bind h
              refine ⟨t9, ⟨word_Sar.fun_ ht9, T⟩, ?_⟩
              refine tI ?_
              obtain rfl := oi h
              exact ⟨T, T, rfl, rfl⟩
            · rw [if_neg (beq_f b8)] at h
              refine ⟨T, T, T, ?_⟩
              obtain rfl := oi h
              exact ⟨T, T, rfl, rfl⟩
def alu_Do.f (a0 : Int) (a1 : Int) (a2 : Int) (a3 : Int) : Option (Int × Int × (Option Int)) :=
  if a0 = (4 : Int) then
    (alu_sums.f a0 a1 a2).bind fun t2 =>
    some (t2.1, (bits .or .u32 t2.2 (bits .and .u32 a3 (16 : Int))), none)
  else
    if a0 = (5 : Int) then
      (alu_sums.f a0 a1 a2).bind fun t4 =>
      some (t4.1, (bits .or .u32 t4.2 (bits .and .u32 a3 (16 : Int))), none)
    else
      if a0 = (16 : Int) then
        (alu_sums.f a0 a1 a2).bind fun t6 =>
        some (t6.1, (bits .or .u32 t6.2 (bits .and .u32 a3 (16 : Int))), none)
      else
        if a0 = (6 : Int) then
          (alu_sums.f a0 a1 a2).bind fun t8 =>
          some (t8.1, (bits .or .u32 t8.2 (bits .and .u32 a3 (16 : Int))), none)
        else
          if a0 = (7 : Int) then
            (alu_parts.f a0 a1 a2).bind fun t10 =>
            if ¬ (t10.2 = none) then
              some ((0 : Int), (0 : Int), t10.2)
            else
              (alu_pair.f t10.1 false false).bind fun t12 =>
              some (t10.1, (bits .or .u32 t12 (bits .and .u32 a3 (16 : Int))), none)
          else
            if a0 = (8 : Int) then
              (alu_parts.f a0 a1 a2).bind fun t14 =>
              if ¬ (t14.2 = none) then
                some ((0 : Int), (0 : Int), t14.2)
              else
                (alu_pair.f t14.1 false false).bind fun t16 =>
                some (t14.1, (bits .or .u32 t16 (bits .and .u32 a3 (16 : Int))), none)
            else
              (alu_plain.f a0 a1 a2).bind fun t17 =>
              if ¬ (t17.2 = none) then
                some ((0 : Int), (0 : Int), t17.2)
              else
                (alu_pair.f t17.1 false false).bind fun t19 =>
                some (t17.1, (bits .or .u32 t19 (bits .and .u32 a3 (16 : Int))), none)
def alu_Do.R (r : Int × Int × (Option Int)) : Tm := .tup [.one (.sc (.int .u32 r.1)), .one (.sc (.int .u32 r.2.1)), .one (.err r.2.2)]
theorem alu_Do.fun_ {a0 : Int} {a1 : Int} {a2 : Int} {a3 : Int} {r : Int × Int × (Option Int)} (h : alu_Do.f a0 a1 a2 a3 = some r) : Fun cfg 32 [.one (.sc (.int .i64 a0)), .one (.sc (.int .u32 a1)), .one (.sc (.int .u32 a2)), .one (.sc (.int .u32 a3))] [] (alu_Do.R r) [] := by
  unfold alu_Do.f at h
  refine fun_of_run cfg_ok (f := 32) (fn := Try.f32) Try.func32 rfl (by kernel_rfl) (rs := [.tmp 8, .tmp 9, .tmp 10]) rfl (nt := 70) rfl (l := fin) (k := (.br (.one true (.call true [] (Int × Int) alu_sums.R (fun t2 => (aE 3 .nil)))) (.br (.one true (.call true [] (Int × Int) alu_sums.R (fun t4 => (aE 3 .nil)))) (.br (.one true (.call true [] (Int × Int) alu_sums.R (fun t6 => (aE 3 .nil)))) (.br (.call true [] (Int × Int) alu_sums.R (fun t8 => (aE 3 .nil))) (.br (.one true (.call true [] (Int × (Option Int)) alu_parts.R (fun t10 => (.br (aE 3 .nil) (.call true [] (Int) alu_pair.R (fun t12 => (aE 2 .nil))))))) (.br (.call true [] (Int × (Option Int)) alu_parts.R (fun t14 => (.br (aE 3 .nil) (.call true [] (Int) alu_pair.R (fun t16 => (aE 2 .nil)))))) (.call true [] (Int × (Option Int)) alu_plain.R (fun t17 => (.br (aE 3 .nil) (.call true [] (Int) alu_pair.R (fun t19 => (aE 2 .nil))))))))))))) (to_goal (q := (U) ∧ (U) ∧ (((a0 == (4 : Int)) = true → ((a0 == (4 : Int)) = true ∧ (∃ t2 : Int × Int, (Fun cfg 42 [.one (.sc (.int .i64 a0)), .one (.sc (.int .u32 a1)), .one (.sc (.int .u32 a2))] [] (alu_sums.R t2) [] ∧ U) ∧ (U ∧ (U) ∧ (U ∧ ((U) ∧ (U) ∧ (.tup [.one (.sc (.int .u32 t2.1)), .one (.sc (.int .u32 (bits .or .u32 t2.2 (bits .and .u32 a3 (16 : Int))))), .one (.err none)] : Tm) = alu_Do.R r ∧ ([] : List Box) = [])))))) ∧ ((a0 == (4 : Int)) = false → (U) ∧ (((a0 == (5 : Int)) = true → ((a0 == (5 : Int)) = true ∧ (∃ t4 : Int × Int, (Fun cfg 42 [.one (.sc (.int .i64 a0)), .one (.sc (.int .u32 a1)), .one (.sc (.int .u32 a2))] [] (alu_sums.R t4) [] ∧ U) ∧ (U ∧ (U) ∧ (U ∧ ((U) ∧ (U) ∧ (.tup [.one (.sc (.int .u32 t4.1)), .one (.sc (.int .u32 (bits .or .u32 t4.2 (bits .and .u32 a3 (16 : Int))))), .one (.err none)] : Tm) = alu_Do.R r ∧ ([] : List Box) = [])))))) ∧ ((a0 == (5 : Int)) = false → (U) ∧ (((a0 == (16 : Int)) = true → ((a0 == (16 : Int)) = true ∧ (∃ t6 : Int × Int, (Fun cfg 42 [.one (.sc (.int .i64 a0)), .one (.sc (.int .u32 a1)), .one (.sc (.int .u32 a2))] [] (alu_sums.R t6) [] ∧ U) ∧ (U ∧ (U) ∧ (U ∧ ((U) ∧ (U) ∧ (.tup [.one (.sc (.int .u32 t6.1)), .one (.sc (.int .u32 (bits .or .u32 t6.2 (bits .and .u32 a3 (16 : Int))))), .one (.err none)] : Tm) = alu_Do.R r ∧ ([] : List Box) = [])))))) ∧ ((a0 == (16 : Int)) = false → (U) ∧ (((a0 == (6 : Int)) = true → (∃ t8 : Int × Int, (Fun cfg 42 [.one (.sc (.int .i64 a0)), .one (.sc (.int .u32 a1)), .one (.sc (.int .u32 a2))] [] (alu_sums.R t8) [] ∧ U) ∧ (U ∧ (U) ∧ (U ∧ ((U) ∧ (U) ∧ (.tup [.one (.sc (.int .u32 t8.1)), .one (.sc (.int .u32 (bits .or .u32 t8.2 (bits .and .u32 a3 (16 : Int))))), .one (.err none)] : Tm) = alu_Do.R r ∧ ([] : List Box) = []))))) ∧ ((a0 == (6 : Int)) = false → (U) ∧ (((a0 == (7 : Int)) = true → ((a0 == (7 : Int)) = true ∧ (∃ t10 : Int × (Option Int), (Fun cfg 43 [.one (.sc (.int .i64 a0)), .one (.sc (.int .u32 a1)), .one (.sc (.int .u32 a2))] [] (alu_parts.R t10) [] ∧ U) ∧ (U) ∧ (((!(Option.isNone t10.2)) = true → (U ∧ (U ∧ ((U) ∧ (U) ∧ (.tup [.one (.sc (.int .u32 (0 : Int))), .one (.sc (.int .u32 (0 : Int))), .one (.err t10.2)] : Tm) = alu_Do.R r ∧ ([] : List Box) = [])))) ∧ ((!(Option.isNone t10.2)) = false → (∃ t12 : Int, (Fun cfg 44 [.one (.sc (.int .u32 t10.1)), .one (.sc (.bool false)), .one (.sc (.bool false))] [] (alu_pair.R t12) [] ∧ U) ∧ (U) ∧ (U ∧ ((U) ∧ (U) ∧ (.tup [.one (.sc (.int .u32 t10.1)), .one (.sc (.int .u32 (bits .or .u32 t12 (bits .and .u32 a3 (16 : Int))))), .one (.err none)] : Tm) = alu_Do.R r ∧ ([] : List Box) = [])))))))) ∧ ((a0 == (7 : Int)) = false → (U) ∧ (((a0 == (8 : Int)) = true → (∃ t14 : Int × (Option Int), (Fun cfg 43 [.one (.sc (.int .i64 a0)), .one (.sc (.int .u32 a1)), .one (.sc (.int .u32 a2))] [] (alu_parts.R t14) [] ∧ U) ∧ (U) ∧ (((!(Option.isNone t14.2)) = true → (U ∧ (U ∧ ((U) ∧ (U) ∧ (.tup [.one (.sc (.int .u32 (0 : Int))), .one (.sc (.int .u32 (0 : Int))), .one (.err t14.2)] : Tm) = alu_Do.R r ∧ ([] : List Box) = [])))) ∧ ((!(Option.isNone t14.2)) = false → (∃ t16 : Int, (Fun cfg 44 [.one (.sc (.int .u32 t14.1)), .one (.sc (.bool false)), .one (.sc (.bool false))] [] (alu_pair.R t16) [] ∧ U) ∧ (U) ∧ (U ∧ ((U) ∧ (U) ∧ (.tup [.one (.sc (.int .u32 t14.1)), .one (.sc (.int .u32 (bits .or .u32 t16 (bits .and .u32 a3 (16 : Int))))), .one (.err none)] : Tm) = alu_Do.R r ∧ ([] : List Box) = []))))))) ∧ ((a0 == (8 : Int)) = false → (∃ t17 : Int × (Option Int), (Fun cfg 45 [.one (.sc (.int .i64 a0)), .one (.sc (.int .u32 a1)), .one (.sc (.int .u32 a2))] [] (alu_plain.R t17) [] ∧ U) ∧ (U) ∧ (((!(Option.isNone t17.2)) = true → (U ∧ (U ∧ ((U) ∧ (U) ∧ (.tup [.one (.sc (.int .u32 (0 : Int))), .one (.sc (.int .u32 (0 : Int))), .one (.err t17.2)] : Tm) = alu_Do.R r ∧ ([] : List Box) = [])))) ∧ ((!(Option.isNone t17.2)) = false → (∃ t19 : Int, (Fun cfg 44 [.one (.sc (.int .u32 t17.1)), .one (.sc (.bool false)), .one (.sc (.bool false))] [] (alu_pair.R t19) [] ∧ U) ∧ (U) ∧ (U ∧ ((U) ∧ (U) ∧ (.tup [.one (.sc (.int .u32 t17.1)), .one (.sc (.int .u32 (bits .or .u32 t19 (bits .and .u32 a3 (16 : Int))))), .one (.err none)] : Tm) = alu_Do.R r ∧ ([] : List Box) = []))))))))))))))))))) (by kernel_rfl) ?_)
  refine ⟨T, T, ?_⟩
  refine ⟨fun b1 => ?_, fun b1 => ?_⟩
  · rw [if_pos (beq_t b1)] at h
    refine ⟨b1, ?_⟩
    obtain ⟨t2, ht2, h⟩ := of_bind h
    refine ⟨t2, ⟨alu_sums.fun_ ht2, T⟩, ?_⟩
    refine ⟨T, T, T, ?_⟩
    obtain rfl := oi h
    exact ⟨T, T, rfl, rfl⟩
  · rw [if_neg (beq_f b1)] at h
    refine tI ?_
    refine ⟨fun b3 => ?_, fun b3 => ?_⟩
    · rw [if_pos (beq_t b3)] at h
      refine ⟨b3, ?_⟩
      obtain ⟨t4, ht4, h⟩ := of_bind h
      refine ⟨t4, ⟨alu_sums.fun_ ht4, T⟩, ?_⟩
      refine ⟨T, T, T, ?_⟩
      obtain rfl := oi h
      exact ⟨T, T, rfl, rfl⟩
    · rw [if_neg (beq_f b3)] at h
      refine tI ?_
      refine ⟨fun b5 => ?_, fun b5 => ?_⟩
      · rw [if_pos (beq_t b5)] at h
        refine ⟨b5, ?_⟩
        obtain ⟨t6, ht6, h⟩ := of_bind h
        refine ⟨t6, ⟨alu_sums.fun_ ht6, T⟩, ?_⟩
        refine ⟨T, T, T, ?_⟩
        obtain rfl := oi h
        exact ⟨T, T, rfl, rfl⟩
      · rw [if_neg (beq_f b5)] at h
        refine tI ?_
        refine ⟨fun b7 => ?_, fun b7 => ?_⟩
        · rw [if_pos (beq_t b7)] at h
          obtain ⟨t8, ht8, h⟩ := of_bind h
          refine ⟨t8, ⟨alu_sums.fun_ ht8, T⟩, ?_⟩
          refine ⟨T, T, T, ?_⟩
          obtain rfl := oi h
          exact ⟨T, T, rfl, rfl⟩
        · rw [if_neg (beq_f b7)] at h
          refine tI ?_
          refine ⟨fun b9 => ?_, fun b9 => ?_⟩
          · rw [if_pos (beq_t b9)] at h
            refine ⟨b9, ?_⟩
            obtain ⟨t10, ht10, h⟩ := of_bind h
            refine ⟨t10, ⟨alu_parts.fun_ ht10, T⟩, ?_⟩
            refine tI ?_
            refine ⟨fun b11 => ?_, fun b11 => ?_⟩
            · rw [if_pos (none_f (not_t b11))] at h
              refine ⟨T, T, ?_⟩
              obtain rfl := oi h
              exact ⟨T, T, rfl, rfl⟩
            · rw [if_neg (not_not_intro (none_t (not_f b11)))] at h
              obtain ⟨t12, ht12, h⟩ := of_bind h
              refine ⟨t12, ⟨alu_pair.fun_ ht12, T⟩, ?_⟩
              refine ⟨T, T, ?_⟩
              obtain rfl := oi h
              exact ⟨T, T, rfl, rfl⟩
          · rw [if_neg (beq_f b9)] at h
            refine tI ?_
            refine ⟨fun b13 => ?_, fun b13 => ?_⟩
            · rw [if_pos (beq_t b13)] at h
              obtain ⟨t14, ht14, h⟩ := of_bind h
              refine ⟨t14, ⟨alu_parts.fun_ ht14, T⟩, ?_⟩
              refine tI ?_
              refine ⟨fun b15 => ?_, fun b15 => ?_⟩
              · rw [if_pos (none_f (not_t b15))] at h
                refine ⟨T, T, ?_⟩
                obtain rfl := oi h
                exact ⟨T, T, rfl, rfl⟩
              · rw [if_neg (not_not_intro (none_t (not_f b15)))] at h
                obtain ⟨t16, ht16, h⟩ := of_bind h
                refine ⟨t16, ⟨alu_pair.fun_ ht16, T⟩, ?_⟩
                refine ⟨T, T, ?_⟩
                obtain rfl := oi h
                exact ⟨T, T, rfl, rfl⟩
            · rw [if_neg (beq_f b13)] at h
              obtain ⟨t17, ht17, h⟩ := of_bind h
              refine ⟨t17, ⟨alu_plain.fun_ ht17, T⟩, ?_⟩
              refine tI ?_
              refine ⟨fun b18 => ?_, fun b18 => ?_⟩
              · rw [if_pos (none_f (not_t b18))] at h
                refine ⟨T, T, ?_⟩
                obtain rfl := oi h
                exact ⟨T, T, rfl, rfl⟩
              · rw [if_neg (not_not_intro (none_t (not_f b18)))] at h
                obtain ⟨t19, ht19, h⟩ := of_bind h
                refine ⟨t19, ⟨alu_pair.fun_ ht19, T⟩, ?_⟩
                refine ⟨T, T, ?_⟩
                obtain rfl := oi h
                exact ⟨T, T, rfl, rfl⟩
def cm_reckon.f (a0 : (List Int)) (a1 : Int) (a2 : Int) (a3 : (List Int)) (a4 : Int) (a5 : Int) (a6 : Int) (a7 : Int) (a8 : Int) (a9 : Int) (a10 : Int) (a11 : Int) (a12 : (List Int)) : Option ((Int × Int) ⊕ ((List Int) × Int)) :=
  if 0 ≤ a5 ∧ a5 < ((16 : Nat) : Int) then
    if (Int.toNat a5) < 16 then
      if 0 ≤ a6 ∧ a6 < ((16 : Nat) : Int) then
        if (Int.toNat a6) < 16 then
          (alu_Do.f a4 (List.getD a0 (Int.toNat a5) (0 : Int)) (List.getD a0 (Int.toNat a6) (0 : Int)) a2).bind fun t5 =>
          if ¬ (t5.2.2 = none) then
            (cpu_fail.f (8 : Int) a8).bind fun t7 =>
            some (.inl (t7.1, t7.2))
          else
            if 0 ≤ a5 ∧ a5 < ((16 : Nat) : Int) then
              if (Int.toNat a5) < 16 then
                some (.inr ((List.set a0 (Int.toNat a5) t5.1), t5.2.1))
              else none
            else none
        else none
      else none
    else none
  else none
def cm_reckon.R : (Int × Int) ⊕ ((List Int) × Int) → Tm
  | .inl r => .v (.one (.sc (.iface 64 (.agg #[.int .i64 r.1, .int .u32 r.2]))))
  | .inr r => .tup []
def cm_reckon.B (a0 : (List Int)) (a1 : Int) (a2 : Int) (a3 : (List Int)) (a4 : Int) (a5 : Int) (a6 : Int) (a7 : Int) (a8 : Int) (a9 : Int) (a10 : Int) (a11 : Int) (a12 : (List Int)) : (Int × Int) ⊕ ((List Int) × Int) → List Box
  | .inl r => (kB0 a0 a1 a2 a3 a4 a5 a6 a7 a8 a9 a12 a10 a11)
  | .inr r => [.ex false [.c (.ip 29 1), .row 16 (.int .u32) r.1, .c (.sc (.int .u32 a1)), .c (.sc (.int .u32 r.2)), .row 4 (.int .u64) a3, .c (.sc (.int .i64 a4)), .c (.sc (.int .i64 a5)), .c (.sc (.int .i64 a6)), .c (.sc (.int .i64 a7)), .c (.sc (.int .u32 a8)), .c (.sc (.int .i64 a9))] 62, .ex false [.c (.os 2 0 0 1 (List.length a12) none), .c (.sc (.int .i64 a10)), .c (.sc (.int .i64 a11))] 33, .fix false (.int .u8) a12 5]
def cm_reckon.P : (Int × Int) ⊕ ((List Int) × Int) → Bool
  | .inl _ => true
  | .inr _ => false
theorem cm_reckon.P_ : ∀ r : (Int × Int) ⊕ ((List Int) × Int), cm_reckon.P r = true → ∃ t p, cm_reckon.R r = .v (.one (.sc (.iface t p)))
  | .inl _, h => ⟨_, _, rfl⟩
  | .inr _, h => by cases h
theorem cm_reckon.fun_ {a0 : (List Int)} {a1 : Int} {a2 : Int} {a3 : (List Int)} {a4 : Int} {a5 : Int} {a6 : Int} {a7 : Int} {a8 : Int} {a9 : Int} {a10 : Int} {a11 : Int} {a12 : (List Int)} {r : (Int × Int) ⊕ ((List Int) × Int)} (h : cm_reckon.f a0 a1 a2 a3 a4 a5 a6 a7 a8 a9 a10 a11 a12 = some r) : FunG cfg 25 [.one (.ptr 0 ⟨0, 0, 0, 0⟩)] (kB0 a0 a1 a2 a3 a4 a5 a6 a7 a8 a9 a12 a10 a11) (cm_reckon.P r) (cm_reckon.R r) (cm_reckon.B a0 a1 a2 a3 a4 a5 a6 a7 a8 a9 a10 a11 a12 r) := by
  unfold cm_reckon.f at h
  refine funG_of_run cfg_ok (f := 25) (fn := Try.f25) Try.func25 rfl (by kernel_rfl) (rs := []) rfl (nt := 65) rfl (l := fin) (ho := cm_reckon.P_ r) (k := (.ex (Int × Int × (Option Int)) (fun t5 => (.dr (nd [0, 1, 2, 3, 5, 6, 7, 8, 9, 11, 12, 13, 16, 17, 18, 19, 20, 22, 23, 24, 27, 28, 29, 30, 4, 10, 14, 15, 21, 25, 26, 31] ([(32, ⟨none, .callP true [] (alu_Do.R t5), false⟩)] ++ (nr 33 7 []))) (.br (.callX true [] [] (Int × Int) (fun t7 => (.iface 64 (.agg #[.int .i64 t7.1, .int .u32 t7.2]))) (fun t7 => (cpu_fail.B (8 : Int) a8 t7)) (fun t7 => (.adj [] .nil))) (.dr (nd [0, 1, 2, 3, 4, 6, 7, 8, 9, 10, 11, 5, 12, 13, 14, 15, 16, 17] []) (.adj [] .nil))))))) (to_goal (q := (∃ t5 : Int × Int × (Option Int), (U) ∧ (U) ∧ (0 ≤ a5 ∧ a5 < ((16 : Nat) : Int)) ∧ ((Int.toNat a5) < 16) ∧ (U) ∧ (0 ≤ a6 ∧ a6 < ((16 : Nat) : Int)) ∧ ((Int.toNat a6) < 16) ∧ (U) ∧ (Fun cfg 32 [.one (.sc (.int .i64 a4)), .one (.sc (.int .u32 (List.getD a0 (Int.toNat a5) (0 : Int)))), .one (.sc (.int .u32 (List.getD a0 (Int.toNat a6) (0 : Int)))), .one (.sc (.int .u32 a2))] [] (alu_Do.R t5) [] ∧ U) ∧ (U) ∧ (((!(Option.isNone (z2 t5))) = true → (U) ∧ (∃ t7 : Int × Int, (FunX cfg 21 [.one (.sc (.int .i64 (8 : Int))), .one (.sc (.int .u32 a8))] [] (.iface 64 (.agg #[.int .i64 t7.1, .int .u32 t7.2])) (cpu_fail.B (8 : Int) a8 t7) ∧ U) ∧ (cm_reckon.P r = true ∧ (U) ∧ (.v (.one (.sc (.iface 64 (.agg #[.int .i64 t7.1, .int .u32 t7.2])))) : Tm) = cm_reckon.R r ∧ ((kB0 a0 a1 a2 a3 a4 a5 a6 a7 a8 a9 a12 a10 a11) : List Box) = cm_reckon.B a0 a1 a2 a3 a4 a5 a6 a7 a8 a9 a10 a11 a12 r))) ∧ ((!(Option.isNone (z2 t5))) = false → (U) ∧ (0 ≤ a5 ∧ a5 < ((16 : Nat) : Int)) ∧ ((Int.toNat a5) < 16) ∧ (U) ∧ (cm_reckon.P r = false ∧ (U) ∧ (U) ∧ (.tup [] : Tm) = cm_reckon.R r ∧ ([.ex false [.c (.ip 29 1), .row 16 (.int .u32) (List.set a0 (Int.toNat a5) t5.1), .c (.sc (.int .u32 a1)), .c (.sc (.int .u32 t5.2.1)), .row 4 (.int .u64) a3, .c (.sc (.int .i64 a4)), .c (.sc (.int .i64 a5)), .c (.sc (.int .i64 a6)), .c (.sc (.int .i64 a7)), .c (.sc (.int .u32 a8)), .c (.sc (.int .i64 a9))] 62, .ex false [.c (.os 2 0 0 1 (List.length a12) none), .c (.sc (.int .i64 a10)), .c (.sc (.int .i64 a11))] 33, .fix false (.int .u8) a12 5] : List Box) = cm_reckon.B a0 a1 a2 a3 a4 a5 a6 a7 a8 a9 a10 a11 a12 r))))) (by kernel_rfl) ?_)
  obtain ⟨g1, h⟩ := of_guard h
  obtain ⟨g2, h⟩ := of_guard h
  obtain ⟨g3, h⟩ := of_guard h
  obtain ⟨g4, h⟩ := of_guard h
  obtain ⟨t5, ht5, h⟩ := of_bind h
  refine ⟨t5, ?_⟩
  refine ⟨T, T, g1, g2, T, g3, g4, T, ⟨alu_Do.fun_ ht5, T⟩, ?_⟩
  refine tI ?_
  refine ⟨fun b6 => ?_, fun b6 => ?_⟩
  · rw [if_pos (none_f (not_t b6))] at h
    refine tI ?_
    obtain ⟨t7, ht7, h⟩ := of_bind h
    refine ⟨t7, ⟨cpu_fail.fun_ ht7, T⟩, ?_⟩
    obtain rfl := oi h
    exact ⟨rfl, T, rfl, rfl⟩
  · rw [if_neg (not_not_intro (none_t (not_f b6)))] at h
    obtain ⟨g8, h⟩ := of_guard h
    obtain ⟨g9, h⟩ := of_guard h
    refine ⟨T, g8, g9, T, ?_⟩
    obtain rfl := oi h
    exact ⟨rfl, T, T, rfl, rfl⟩
def cm_load.c0 (a2 : (List Int)) (a3 : Int) (a4 : Int) (a5 : (List Int)) (a6 : Int) (a7 : Int) (a8 : Int) (a9 : Int) (a10 : Int) (a11 : Int) : Box := .ex false [.c (.ip 29 1), .row 16 (.int .u32) a2, .c (.sc (.int .u32 a3)), .c (.sc (.int .u32 a4)), .row 4 (.int .u64) a5, .c (.sc (.int .i64 a6)), .c (.sc (.int .i64 a7)), .c (.sc (.int .i64 a8)), .c (.sc (.int .i64 a9)), .c (.sc (.int .u32 a10)), .c (.sc (.int .i64 a11))] 62
def cm_load.f (a0 : Int) (a1 : Int) (a2 : (List Int)) (a3 : Int) (a4 : Int) (a5 : (List Int)) (a6 : Int) (a7 : Int) (a8 : Int) (a9 : Int) (a10 : Int) (a11 : Int) (a12 : Int) (a13 : Int) (a14 : (List Int)) : Option ((Int) ⊕ (Int × Int)) :=
  (halterlaw12_board_Load.f a0 a1 a12 a13 a14).bind fun t1 =>
  (cpu_told.f t1.2 a0).bind fun t2 =>
  match t2 with
  | .inl t3 =>
    some (.inl t1.1)
  | .inr t4 =>
    some (.inr (t4.1, t4.2))
def cm_load.R : (Int) ⊕ (Int × Int) → Tm
  | .inl r => vi .u32 r
  | .inr r => .v (.one (.sc (.iface 64 (.agg #[.int .i64 r.1, .int .u32 r.2]))))
def cm_load.B (a0 : Int) (a1 : Int) (a2 : (List Int)) (a3 : Int) (a4 : Int) (a5 : (List Int)) (a6 : Int) (a7 : Int) (a8 : Int) (a9 : Int) (a10 : Int) (a11 : Int) (a12 : Int) (a13 : Int) (a14 : (List Int)) : (Int) ⊕ (Int × Int) → List Box
  | .inl r => (kB0 a2 a3 a4 a5 a6 a7 a8 a9 a10 a11 a14 a12 a13)
  | .inr r => (kB0 a2 a3 a4 a5 a6 a7 a8 a9 a10 a11 a14 a12 a13)
def cm_load.P : (Int) ⊕ (Int × Int) → Bool
  | .inl _ => false
  | .inr _ => true
theorem cm_load.P_ : ∀ r : (Int) ⊕ (Int × Int), cm_load.P r = true → ∃ t p, cm_load.R r = .v (.one (.sc (.iface t p)))
  | .inl _, h => by cases h
  | .inr _, h => ⟨_, _, rfl⟩
theorem cm_load.fun_ {a0 : Int} {a1 : Int} {a2 : (List Int)} {a3 : Int} {a4 : Int} {a5 : (List Int)} {a6 : Int} {a7 : Int} {a8 : Int} {a9 : Int} {a10 : Int} {a11 : Int} {a12 : Int} {a13 : Int} {a14 : (List Int)} {r : (Int) ⊕ (Int × Int)} (h : cm_load.f a0 a1 a2 a3 a4 a5 a6 a7 a8 a9 a10 a11 a12 a13 a14 = some r) : FunG cfg 33 [.one (.ptr 0 ⟨0, 0, 0, 0⟩), .one (.sc (.int .u32 a0)), .one (.sc (.int .i64 a1))] (kB0 a2 a3 a4 a5 a6 a7 a8 a9 a10 a11 a14 a12 a13) (cm_load.P r) (cm_load.R r) (cm_load.B a0 a1 a2 a3 a4 a5 a6 a7 a8 a9 a10 a11 a12 a13 a14 r) := by
  unfold cm_load.f at h
  refine funG_of_run cfg_ok (f := 33) (fn := Try.f33) Try.func33 rfl (by kernel_rfl) (rs := [.tmp 6]) rfl (nt := 23) rfl (l := fin) (ho := cm_load.P_ r) (k := (.callR true [] [1, 2] (Int × (Option Int)) (fun t1 => (halterlaw12_board_Load.R t1)) (fun t1 => (halterlaw12_board_Load.B a0 a1 a12 a13 a14 t1)) (fun t1 => (.orx (.callX true [] [] (Int × Int) (fun t4 => (.iface 64 (.agg #[.int .i64 t4.1, .int .u32 t4.2]))) (fun t4 => (cpu_told.B t1.2 a0 (.inr t4))) (fun t4 => (.adj [] .nil))) (.callR true [] [] (Unit) (fun t3 => (cpu_told.R (.inl t3))) (fun t3 => (cpu_told.B t1.2 a0 (.inl t3))) (fun t3 => (aE 3 .nil))))))) (to_goal (q := (U) ∧ (∃ t1 : Int × (Option Int), (Fun cfg 84 [.one (.ptr 0 ⟨0, 0, 0, 0⟩), .one (.sc (.int .u32 a0)), .one (.sc (.int .i64 a1))] (kB1 a14 a12 a13) (halterlaw12_board_Load.R t1) (halterlaw12_board_Load.B a0 a1 a12 a13 a14 t1) ∧ U) ∧ ((∃ t4 : Int × Int, (FunX cfg 19 [.one (.err t1.2), .one (.sc (.int .u32 a0))] [] (.iface 64 (.agg #[.int .i64 t4.1, .int .u32 t4.2])) (cpu_told.B t1.2 a0 (.inr t4)) ∧ U) ∧ (cm_load.P r = true ∧ (U) ∧ (.v (.one (.sc (.iface 64 (.agg #[.int .i64 t4.1, .int .u32 t4.2])))) : Tm) = cm_load.R r ∧ ([(cm_load.c0 a2 a3 a4 a5 a6 a7 a8 a9 a10 a11), .ex false [.c (.os 2 0 0 1 (List.length a14) none), .c (.sc (.int .i64 a12)), .c (.sc (.int .i64 a13))] 33, .fix false (.int .u8) a14 5] : List Box) = cm_load.B a0 a1 a2 a3 a4 a5 a6 a7 a8 a9 a10 a11 a12 a13 a14 r)) ∨ (∃ t3 : Unit, (Fun cfg 19 [.one (.err t1.2), .one (.sc (.int .u32 a0))] [] (cpu_told.R (.inl t3)) (cpu_told.B t1.2 a0 (.inl t3)) ∧ U) ∧ (U ∧ (U ∧ (cm_load.P r = false ∧ (U) ∧ (U) ∧ (vi .u32 t1.1 : Tm) = cm_load.R r ∧ ([(cm_load.c0 a2 a3 a4 a5 a6 a7 a8 a9 a10 a11), .ex false [.c (.os 2 0 0 1 (List.length a14) none), .c (.sc (.int .i64 a12)), .c (.sc (.int .i64 a13))] 33, .fix false (.int .u8) a14 5] : List Box) = cm_load.B a0 a1 a2 a3 a4 a5 a6 a7 a8 a9 a10 a11 a12 a13 a14 r))))))) (by kernel_rfl) ?_)
  refine tI ?_
  obtain ⟨t1, ht1, h⟩ := of_bind h
  refine ⟨t1, ⟨halterlaw12_board_Load.fun_ ht1, T⟩, ?_⟩
  obtain ⟨t2, ht2, h⟩ := of_bind h
  rcases t2 with t3 | t4
  · dsimp only at h
    right
    refine ⟨t3, ⟨cpu_told.fun_ ht2, T⟩, ?_⟩
    refine ⟨T, T, ?_⟩
    obtain rfl := oi h
    exact ⟨rfl, T, T, rfl, rfl⟩
  · dsimp only at h
    left
    refine ⟨t4, ⟨cpu_told.fun_ ht2, T⟩, ?_⟩
    obtain rfl := oi h
    exact ⟨rfl, T, rfl, rfl⟩
def halterlaw12_board_Store.l0 (a0 : Int) (a1 : Int) (a3 : Int) (a4 : Int) (a5 : (List Int)) : Nat → (List Int) → Int → Int → Option (List Int)
  | 0, _, _, _ => none
  | n + 1, x14, x15, x16 =>
    if x16 < a1 then
      if 0 ≤ (IntKind.wrap .i64 ((IntKind.wrap .i64 (a0)) + x16)) ∧ (IntKind.wrap .i64 ((IntKind.wrap .i64 (a0)) + x16)) < (((List.length a5) : Nat) : Int) then
        if (0 + (Int.toNat (IntKind.wrap .i64 ((IntKind.wrap .i64 (a0)) + x16)))) < (List.length x14) then
          halterlaw12_board_Store.l0 a0 a1 a3 a4 a5 n (List.set x14 (0 + (Int.toNat (IntKind.wrap .i64 ((IntKind.wrap .i64 (a0)) + x16)))) (IntKind.wrap .u8 ((Int.tmod x15 (256 : Int))))) (IntKind.wrap .u32 (Int.tdiv x15 (256 : Int))) (IntKind.wrap .i64 (x16 + (1 : Int)))
        else none
      else none
    else
      some x14
def halterlaw12_board_Store.l0_S (a0 : Int) (a1 : Int) (a3 : Int) (a4 : Int) (a5 : (List Int)) (x14 : List Int) (x15 : Int) (x16 : Int) : St := ⟨([P0, vi .u32 a0, vi .i64 a1, vi .u32 x15] ++ (rA 5 ([vi .i64 x16] ++ (rA 45 [])))), [.ex false [.c (.os 1 0 0 1 (List.length a5) none), .c (.sc (.int .i64 a3)), .c (.sc (.int .i64 (IntKind.wrap .i64 (a4 + (1 : Int)))))] 33, .fix false (.int .u8) x14 5], 2⟩
def halterlaw12_board_Store.l0_Q (a0 : Int) (a1 : Int) (a3 : Int) (a4 : Int) (a5 : (List Int)) (t : (List Int)) : Exit → St → Prop := fun e s => e = (.exit 0) ∧ s = ⟨(rA 55 []), [.ex false [.c (.os 1 0 0 1 (List.length a5) none), .c (.sc (.int .i64 a3)), .c (.sc (.int .i64 (IntKind.wrap .i64 (a4 + (1 : Int)))))] 33, .fix false (.int .u8) t 5], 2⟩
theorem halterlaw12_board_Store.l0_ok (a0 : Int) (a1 : Int) (a3 : Int) (a4 : Int) (a5 : (List Int)) : ∀ (n : Nat) (x14 : List Int) (x15 : Int) (x16 : Int) (r : (List Int)), halterlaw12_board_Store.l0 a0 a1 a3 a4 a5 n x14 x15 x16 = some r → TripN cfg (cpath (Try.f85.body.getD .skip) [1, 1, 1, 0, 1, 0, 0]) n (halterlaw12_board_Store.l0_S a0 a1 a3 a4 a5 x14 x15 x16) (halterlaw12_board_Store.l0_Q a0 a1 a3 a4 a5 r) := by
  intro n
  induction n with
  | zero => intro x14 x15 x16 r h; cases h
  | succ n ih =>
    intro x14 x15 x16 r h
    rw [halterlaw12_board_Store.l0] at h
    refine TripN.of_run cfg_ok (k := (.br (aE 5 (.adj [.keep [0, 1, 2, 3, 9], .drop 2] .nil)) (.adj [.keep [], .drop 2] .nil))) (to_goal (q := (U) ∧ (((decide (x16 < a1)) = true → (U ∧ (U ∧ (U ∧ (U) ∧ (U) ∧ (U) ∧ ((256 : Int) ≠ 0) ∧ (U) ∧ (0 ≤ (IntKind.wrap .i64 ((IntKind.wrap .i64 (a0)) + x16)) ∧ (IntKind.wrap .i64 ((IntKind.wrap .i64 (a0)) + x16)) < (((List.length a5) : Nat) : Int)) ∧ ((0 + (Int.toNat (IntKind.wrap .i64 ((IntKind.wrap .i64 (a0)) + x16)))) < (List.length x14)) ∧ (U ∧ ((256 : Int) ≠ 0) ∧ (U ∧ (U) ∧ (((U) ∧ (U) ∧ U) ∧ TripN cfg (cpath (Try.f85.body.getD .skip) [1, 1, 1, 0, 1, 0, 0]) n (halterlaw12_board_Store.l0_S a0 a1 a3 a4 a5 (List.set x14 (0 + (Int.toNat (IntKind.wrap .i64 ((IntKind.wrap .i64 (a0)) + x16)))) (IntKind.wrap .u8 ((Int.tmod x15 (256 : Int))))) (IntKind.wrap .u32 (Int.tdiv x15 (256 : Int))) (IntKind.wrap .i64 (x16 + (1 : Int)))) (halterlaw12_board_Store.l0_Q a0 a1 a3 a4 a5 r)))))))) ∧ ((decide (x16 < a1)) = false → (((U) ∧ (U) ∧ U) ∧ halterlaw12_board_Store.l0_Q a0 a1 a3 a4 a5 r (.exit 0) ⟨(rA 55 []), [.ex false [.c (.os 1 0 0 1 (List.length a5) none), .c (.sc (.int .i64 a3)), .c (.sc (.int .i64 (IntKind.wrap .i64 (a4 + (1 : Int)))))] 33, .fix false (.int .u8) x14 5], 2⟩)))) (by kernel_rfl) ?_)
    refine tI ?_
    refine ⟨fun b22 => ?_, fun b22 => ?_⟩
    · rw [if_pos (dT_ b22)] at h
      refine ⟨T, T, T, T, T, T, ?_⟩
      refine ⟨(by decide), ?_⟩
      refine tI ?_
      obtain ⟨g24, h⟩ := of_guard h
      refine ⟨g24, ?_⟩
      obtain ⟨g23, h⟩ := of_guard h
      refine ⟨g23, ?_⟩
      refine tI ?_
      refine ⟨(by decide), ?_⟩
      refine ⟨T, T, ?_⟩
      exact ⟨⟨T, T, T⟩, ih (List.set x14 (0 + (Int.toNat (IntKind.wrap .i64 ((IntKind.wrap .i64 (a0)) + x16)))) (IntKind.wrap .u8 ((Int.tmod x15 (256 : Int))))) (IntKind.wrap .u32 (Int.tdiv x15 (256 : Int))) (IntKind.wrap .i64 (x16 + (1 : Int))) r h⟩
    · rw [if_neg (dF_ b22)] at h
      obtain rfl := oi h
      exact ⟨⟨T, T, T⟩, rfl, rfl⟩
def halterlaw12_board_Store.f (a0 : Int) (a1 : Int) (a2 : Int) (a3 : Int) (a4 : Int) (a5 : (List Int)) : Option ((Option Int) × Int × (List Int)) :=
  if a1 < (0 : Int) then
    some ((some (14 : Int)), a4, a5)
  else
    if a1 > (4 : Int) then
      some ((some (14 : Int)), a4, a5)
    else
      if (IntKind.wrap .i64 ((IntKind.wrap .i64 (a0)) + a1)) > (((List.length a5) : Nat) : Int) then
        some ((some (14 : Int)), a4, a5)
      else
        (halterlaw12_board_Store.l0 a0 a1 a3 a4 a5 FUEL a5 a2 (0 : Int)).bind fun t21 =>
        if (List.length a5) = (List.length t21) then
          some (none, (IntKind.wrap .i64 (a4 + (1 : Int))), t21)
        else none
def halterlaw12_board_Store.R (r : (Option Int) × Int × (List Int)) : Tm := .v (.one (.err r.1))
def halterlaw12_board_Store.B (a0 : Int) (a1 : Int) (a2 : Int) (a3 : Int) (a4 : Int) (a5 : (List Int)) (r : (Option Int) × Int × (List Int)) : List Box := [.ex false [.c (.os 1 0 0 1 (List.length r.2.2) none), .c (.sc (.int .i64 a3)), .c (.sc (.int .i64 r.2.1))] 33, .fix false (.int .u8) r.2.2 5]
theorem halterlaw12_board_Store.fun_ {a0 : Int} {a1 : Int} {a2 : Int} {a3 : Int} {a4 : Int} {a5 : (List Int)} {r : (Option Int) × Int × (List Int)} (h : halterlaw12_board_Store.f a0 a1 a2 a3 a4 a5 = some r) : Fun cfg 85 [.one (.ptr 0 ⟨0, 0, 0, 0⟩), .one (.sc (.int .u32 a0)), .one (.sc (.int .i64 a1)), .one (.sc (.int .u32 a2))] (kB1 a5 a3 a4) (halterlaw12_board_Store.R r) (halterlaw12_board_Store.B a0 a1 a2 a3 a4 a5 r) := by
  unfold halterlaw12_board_Store.f at h
  refine fun_of_run cfg_ok (f := 85) (fn := Try.f85) Try.func85 rfl (by kernel_rfl) (rs := [.tmp 8]) rfl (nt := 55) rfl (l := fin) (k := (.br (oT 14 (aE 3 .nil)) (oF 2 (.br (oT 11 (aE 3 .nil)) (oF 10 (.br (aE 3 .nil) (aE 4 (.adj [.keep [0, 1, 2, 3, 9]] (.sub ((List Int)) (fun _ => (.exit 0)) (fun t21 => ⟨(rA 55 []), [.ex false [.c (.os 1 0 0 1 (List.length a5) none), .c (.sc (.int .i64 a3)), .c (.sc (.int .i64 (IntKind.wrap .i64 (a4 + (1 : Int)))))] 33, .fix false (.int .u8) t21 5], 2⟩) (fun t21 => (aE 2 (.adj [.len 0 0 (List.length t21)] .nil)))))))))))) (to_goal (q := (U) ∧ (((decide (a1 < (0 : Int))) = false → ((decide (a1 < (0 : Int))) = false ∧ (U) ∧ ((decide (a1 < (0 : Int))) = false ∧ (((decide (a1 > (4 : Int))) = false → ((decide (a1 > (4 : Int))) = false ∧ (U) ∧ ((decide (a1 > (4 : Int))) = false ∧ ((decide (a1 > (4 : Int))) = false ∧ (U) ∧ ((decide (a1 > (4 : Int))) = false ∧ ((decide (a1 > (4 : Int))) = false ∧ ((decide (a1 > (4 : Int))) = false ∧ ((decide (a1 > (4 : Int))) = false ∧ (U) ∧ ((decide (a1 > (4 : Int))) = false ∧ (U) ∧ ((decide (a1 > (4 : Int))) = false ∧ (U) ∧ ((decide (a1 > (4 : Int))) = false ∧ (((decide ((IntKind.wrap .i64 ((IntKind.wrap .i64 (a0)) + a1)) > (((List.length a5) : Nat) : Int))) = true → (U ∧ (U ∧ ((U) ∧ (U) ∧ (.v (.one (.err (some (14 : Int)))) : Tm) = halterlaw12_board_Store.R r ∧ ((kB1 a5 a3 a4) : List Box) = halterlaw12_board_Store.B a0 a1 a2 a3 a4 a5 r)))) ∧ ((decide ((IntKind.wrap .i64 ((IntKind.wrap .i64 (a0)) + a1)) > (((List.length a5) : Nat) : Int))) = false → (U ∧ (U ∧ (U) ∧ (U) ∧ (U) ∧ (U ∧ (U ∧ (((U) ∧ U) ∧ (∃ t21 : (List Int), Trip cfg (.loop (cpath (Try.f85.body.getD .skip) [1, 1, 1, 0, 1, 0, 0])) ⟨([P0, vi .u32 a0, vi .i64 a1, vi .u32 a2] ++ (rA 5 ([vi .i64 (0 : Int)] ++ (rA 45 [])))), [.ex false [.c (.os 1 0 0 1 (List.length a5) none), .c (.sc (.int .i64 a3)), .c (.sc (.int .i64 (IntKind.wrap .i64 (a4 + (1 : Int)))))] 33, .fix false (.int .u8) a5 5], 2⟩ (fun e s => e = (.exit 0) ∧ s = ⟨(rA 55 []), [.ex false [.c (.os 1 0 0 1 (List.length a5) none), .c (.sc (.int .i64 a3)), .c (.sc (.int .i64 (IntKind.wrap .i64 (a4 + (1 : Int)))))] 33, .fix false (.int .u8) t21 5], 2⟩) ∧ (U ∧ (U ∧ ((U) ∧ (((List.length a5) = (List.length t21)) ∧ U) ∧ (.v (.one (.err none)) : Tm) = halterlaw12_board_Store.R r ∧ ([.ex false [.c (.os 1 0 0 1 (List.length t21) none), .c (.sc (.int .i64 a3)), .c (.sc (.int .i64 (IntKind.wrap .i64 (a4 + (1 : Int)))))] 33, .fix false (.int .u8) t21 5] : List Box) = halterlaw12_board_Store.B a0 a1 a2 a3 a4 a5 r)))))))))))))))))))))) ∧ ((decide (a1 > (4 : Int))) = true → ((decide (a1 > (4 : Int))) = true ∧ ((decide (a1 > (4 : Int))) = true ∧ ((decide (a1 > (4 : Int))) = true ∧ ((decide (a1 > (4 : Int))) = true ∧ ((decide (a1 > (4 : Int))) = true ∧ ((decide (a1 > (4 : Int))) = true ∧ ((decide (a1 > (4 : Int))) = true ∧ ((decide (a1 > (4 : Int))) = true ∧ ((decide (a1 > (4 : Int))) = true ∧ ((decide (a1 > (4 : Int))) = true ∧ (true = true ∧ (U ∧ (U ∧ ((U) ∧ (U) ∧ (.v (.one (.err (some (14 : Int)))) : Tm) = halterlaw12_board_Store.R r ∧ ((kB1 a5 a3 a4) : List Box) = halterlaw12_board_Store.B a0 a1 a2 a3 a4 a5 r))))))))))))))))))) ∧ ((decide (a1 < (0 : Int))) = true → ((decide (a1 < (0 : Int))) = true ∧ ((decide (a1 < (0 : Int))) = true ∧ (true = true ∧ (true = true ∧ (true = true ∧ (true = true ∧ (true = true ∧ (true = true ∧ (true = true ∧ (true = true ∧ (true = true ∧ (true = true ∧ (true = true ∧ (true = true ∧ (U ∧ (U ∧ ((U) ∧ (U) ∧ (.v (.one (.err (some (14 : Int)))) : Tm) = halterlaw12_board_Store.R r ∧ ((kB1 a5 a3 a4) : List Box) = halterlaw12_board_Store.B a0 a1 a2 a3 a4 a5 r)))))))))))))))))))) (by kernel_rfl) ?_)
  refine tI ?_
  refine ⟨fun b1 => ?_, fun b1 => ?_⟩
  · rw [if_neg (dF_ b1)] at h
    refine ⟨b1, ?_⟩
    refine tI ?_
    refine ⟨b1, ?_⟩
    refine ⟨fun b2 => ?_, fun b2 => ?_⟩
    · rw [if_neg (dF_ b2)] at h
      refine ⟨b2, ?_⟩
      refine tI ?_
      refine ⟨b2, ?_⟩
      refine ⟨b2, ?_⟩
      refine tI ?_
      refine ⟨b2, ?_⟩
      refine ⟨b2, ?_⟩
      refine ⟨b2, ?_⟩
      refine ⟨b2, ?_⟩
      refine tI ?_
      refine ⟨b2, ?_⟩
      refine tI ?_
      refine ⟨b2, ?_⟩
      refine tI ?_
      refine ⟨b2, ?_⟩
      refine ⟨fun b3 => ?_, fun b3 => ?_⟩
      · rw [if_pos (dT_ b3)] at h
        refine ⟨T, T, ?_⟩
        obtain rfl := oi h
        exact ⟨T, T, rfl, rfl⟩
      · rw [if_neg (dF_ b3)] at h
        refine ⟨T, T, T, T, T, T, T, ?_⟩
        obtain ⟨t21, ht21, h⟩ := of_bind h
        refine ⟨⟨T, T⟩, t21, Trip.loop FUEL (halterlaw12_board_Store.l0_ok a0 a1 a3 a4 a5 FUEL a5 a2 (0 : Int) t21 ht21), ?_⟩
        refine ⟨T, T, ?_⟩
        obtain ⟨g27, h⟩ := of_guard h
        obtain rfl := oi h
        exact ⟨T, ⟨g27, T⟩, rfl, rfl⟩
    · rw [if_pos (dT_ b2)] at h
      refine ⟨b2, ?_⟩
      refine ⟨b2, ?_⟩
      refine ⟨b2, ?_⟩
      refine ⟨b2, ?_⟩
      refine ⟨b2, ?_⟩
      refine ⟨b2, ?_⟩
      refine ⟨b2, ?_⟩
      refine ⟨b2, ?_⟩
      refine ⟨b2, ?_⟩
      refine ⟨b2, ?_⟩
      refine ⟨rfl, T, T, ?_⟩
      obtain rfl := oi h
      exact ⟨T, T, rfl, rfl⟩
  · rw [if_pos (dT_ b1)] at h
    refine ⟨b1, ?_⟩
    refine ⟨b1, ?_⟩
    refine ⟨rfl, rfl, rfl, rfl, rfl, rfl, rfl, rfl, rfl, rfl, rfl, rfl, T, T, ?_⟩
    obtain rfl := oi h
    exact ⟨T, T, rfl, rfl⟩
def cm_store.c0 (a3 : (List Int)) (a4 : Int) (a5 : Int) (a6 : (List Int)) (a7 : Int) (a8 : Int) (a9 : Int) (a10 : Int) (a11 : Int) (a12 : Int) : Box := .ex false [.c (.ip 29 1), .row 16 (.int .u32) a3, .c (.sc (.int .u32 a4)), .c (.sc (.int .u32 a5)), .row 4 (.int .u64) a6, .c (.sc (.int .i64 a7)), .c (.sc (.int .i64 a8)), .c (.sc (.int .i64 a9)), .c (.sc (.int .i64 a10)), .c (.sc (.int .u32 a11)), .c (.sc (.int .i64 a12))] 62
def cm_store.f (a0 : Int) (a1 : Int) (a2 : Int) (a3 : (List Int)) (a4 : Int) (a5 : Int) (a6 : (List Int)) (a7 : Int) (a8 : Int) (a9 : Int) (a10 : Int) (a11 : Int) (a12 : Int) (a13 : Int) (a14 : Int) (a15 : (List Int)) : Option ((Int × (List Int)) ⊕ (Int × Int × Int × (List Int))) :=
  (halterlaw12_board_Store.f a0 a1 a2 a13 a14 a15).bind fun t1 =>
  (cpu_told.f t1.1 a0).bind fun t2 =>
  match t2 with
  | .inl t3 =>
    some (.inl (t1.2.1, t1.2.2))
  | .inr t4 =>
    some (.inr (t4.1, t4.2, t1.2.1, t1.2.2))
def cm_store.R : (Int × (List Int)) ⊕ (Int × Int × Int × (List Int)) → Tm
  | .inl r => .tup []
  | .inr r => .v (.one (.sc (.iface 64 (.agg #[.int .i64 r.1, .int .u32 r.2.1]))))
def cm_store.B (a0 : Int) (a1 : Int) (a2 : Int) (a3 : (List Int)) (a4 : Int) (a5 : Int) (a6 : (List Int)) (a7 : Int) (a8 : Int) (a9 : Int) (a10 : Int) (a11 : Int) (a12 : Int) (a13 : Int) (a14 : Int) (a15 : (List Int)) : (Int × (List Int)) ⊕ (Int × Int × Int × (List Int)) → List Box
  | .inl r => [.ex false [.c (.ip 29 1), .row 16 (.int .u32) a3, .c (.sc (.int .u32 a4)), .c (.sc (.int .u32 a5)), .row 4 (.int .u64) a6, .c (.sc (.int .i64 a7)), .c (.sc (.int .i64 a8)), .c (.sc (.int .i64 a9)), .c (.sc (.int .i64 a10)), .c (.sc (.int .u32 a11)), .c (.sc (.int .i64 a12))] 62, .ex false [.c (.os 2 0 0 1 (List.length r.2) none), .c (.sc (.int .i64 a13)), .c (.sc (.int .i64 r.1))] 33, .fix false (.int .u8) r.2 5]
  | .inr r => [.ex false [.c (.ip 29 1), .row 16 (.int .u32) a3, .c (.sc (.int .u32 a4)), .c (.sc (.int .u32 a5)), .row 4 (.int .u64) a6, .c (.sc (.int .i64 a7)), .c (.sc (.int .i64 a8)), .c (.sc (.int .i64 a9)), .c (.sc (.int .i64 a10)), .c (.sc (.int .u32 a11)), .c (.sc (.int .i64 a12))] 62, .ex false [.c (.os 2 0 0 1 (List.length r.2.2.2) none), .c (.sc (.int .i64 a13)), .c (.sc (.int .i64 r.2.2.1))] 33, .fix false (.int .u8) r.2.2.2 5]
def cm_store.P : (Int × (List Int)) ⊕ (Int × Int × Int × (List Int)) → Bool
  | .inl _ => false
  | .inr _ => true
theorem cm_store.P_ : ∀ r : (Int × (List Int)) ⊕ (Int × Int × Int × (List Int)), cm_store.P r = true → ∃ t p, cm_store.R r = .v (.one (.sc (.iface t p)))
  | .inl _, h => by cases h
  | .inr _, h => ⟨_, _, rfl⟩
theorem cm_store.fun_ {a0 : Int} {a1 : Int} {a2 : Int} {a3 : (List Int)} {a4 : Int} {a5 : Int} {a6 : (List Int)} {a7 : Int} {a8 : Int} {a9 : Int} {a10 : Int} {a11 : Int} {a12 : Int} {a13 : Int} {a14 : Int} {a15 : (List Int)} {r : (Int × (List Int)) ⊕ (Int × Int × Int × (List Int))} (h : cm_store.f a0 a1 a2 a3 a4 a5 a6 a7 a8 a9 a10 a11 a12 a13 a14 a15 = some r) : FunG cfg 34 [.one (.ptr 0 ⟨0, 0, 0, 0⟩), .one (.sc (.int .u32 a0)), .one (.sc (.int .i64 a1)), .one (.sc (.int .u32 a2))] (kB0 a3 a4 a5 a6 a7 a8 a9 a10 a11 a12 a15 a13 a14) (cm_store.P r) (cm_store.R r) (cm_store.B a0 a1 a2 a3 a4 a5 a6 a7 a8 a9 a10 a11 a12 a13 a14 a15 r) := by
  unfold cm_store.f at h
  refine funG_of_run cfg_ok (f := 34) (fn := Try.f34) Try.func34 rfl (by kernel_rfl) (rs := []) rfl (nt := 18) rfl (l := fin) (ho := cm_store.P_ r) (k := (.callR true [] [1, 2] ((Option Int) × Int × (List Int)) (fun t1 => (halterlaw12_board_Store.R t1)) (fun t1 => (halterlaw12_board_Store.B a0 a1 a2 a13 a14 a15 t1)) (fun t1 => (.orx (.callX true [] [] (Int × Int) (fun t4 => (.iface 64 (.agg #[.int .i64 t4.1, .int .u32 t4.2]))) (fun t4 => (cpu_told.B t1.1 a0 (.inr t4))) (fun t4 => (.adj [] .nil))) (.callR true [] [] (Unit) (fun t3 => (cpu_told.R (.inl t3))) (fun t3 => (cpu_told.B t1.1 a0 (.inl t3))) (fun t3 => (.adj [] .nil))))))) (to_goal (q := (U) ∧ (∃ t1 : (Option Int) × Int × (List Int), (Fun cfg 85 [.one (.ptr 0 ⟨0, 0, 0, 0⟩), .one (.sc (.int .u32 a0)), .one (.sc (.int .i64 a1)), .one (.sc (.int .u32 a2))] (kB1 a15 a13 a14) (halterlaw12_board_Store.R t1) (halterlaw12_board_Store.B a0 a1 a2 a13 a14 a15 t1) ∧ U) ∧ ((∃ t4 : Int × Int, (FunX cfg 19 [.one (.err t1.1), .one (.sc (.int .u32 a0))] [] (.iface 64 (.agg #[.int .i64 t4.1, .int .u32 t4.2])) (cpu_told.B t1.1 a0 (.inr t4)) ∧ U) ∧ (cm_store.P r = true ∧ (U) ∧ (.v (.one (.sc (.iface 64 (.agg #[.int .i64 t4.1, .int .u32 t4.2])))) : Tm) = cm_store.R r ∧ ([(cm_store.c0 a3 a4 a5 a6 a7 a8 a9 a10 a11 a12), .ex false [.c (.os 2 0 0 1 (List.length (z2 t1)) none), .c (.sc (.int .i64 a13)), .c (.sc (.int .i64 t1.2.1))] 33, .fix false (.int .u8) (z2 t1) 5] : List Box) = cm_store.B a0 a1 a2 a3 a4 a5 a6 a7 a8 a9 a10 a11 a12 a13 a14 a15 r)) ∨ (∃ t3 : Unit, (Fun cfg 19 [.one (.err t1.1), .one (.sc (.int .u32 a0))] [] (cpu_told.R (.inl t3)) (cpu_told.B t1.1 a0 (.inl t3)) ∧ U) ∧ (cm_store.P r = false ∧ (U) ∧ (U) ∧ (.tup [] : Tm) = cm_store.R r ∧ ([(cm_store.c0 a3 a4 a5 a6 a7 a8 a9 a10 a11 a12), .ex false [.c (.os 2 0 0 1 (List.length (z2 t1)) none), .c (.sc (.int .i64 a13)), .c (.sc (.int .i64 t1.2.1))] 33, .fix false (.int .u8) (z2 t1) 5] : List Box) = cm_store.B a0 a1 a2 a3 a4 a5 a6 a7 a8 a9 a10 a11 a12 a13 a14 a15 r))))) (by kernel_rfl) ?_)
  refine tI ?_
  obtain ⟨t1, ht1, h⟩ := of_bind h
  refine ⟨t1, ⟨halterlaw12_board_Store.fun_ ht1, T⟩, ?_⟩
  obtain ⟨t2, ht2, h⟩ := of_bind h
  rcases t2 with t3 | t4
  · dsimp only at h
    right
    refine ⟨t3, ⟨cpu_told.fun_ ht2, T⟩, ?_⟩
    obtain rfl := oi h
    exact ⟨rfl, T, T, rfl, rfl⟩
  · dsimp only at h
    left
    refine ⟨t4, ⟨cpu_told.fun_ ht2, T⟩, ?_⟩
    obtain rfl := oi h
    exact ⟨rfl, T, rfl, rfl⟩
def cm_float.c0 (a1 : (List Int)) (a2 : Int) (a3 : Int) (a4 : (List Int)) (a5 : Int) (a6 : Int) (a7 : Int) (a8 : Int) (a9 : Int) (a10 : Int) : Box := .ex false [.c (.ip 29 1), .row 16 (.int .u32) a1, .c (.sc (.int .u32 a2)), .c (.sc (.int .u32 a3)), .row 4 (.int .u64) a4, .c (.sc (.int .i64 a5)), .c (.sc (.int .i64 a6)), .c (.sc (.int .i64 a7)), .c (.sc (.int .i64 a8)), .c (.sc (.int .u32 a9)), .c (.sc (.int .i64 a10))] 62
def cm_float.f (a0 : Int) (a1 : (List Int)) (a2 : Int) (a3 : Int) (a4 : (List Int)) (a5 : Int) (a6 : Int) (a7 : Int) (a8 : Int) (a9 : Int) (a10 : Int) (a11 : Int) (a12 : Int) (a13 : (List Int)) : Option ((Int × Int) ⊕ (Int)) :=
  if a0 ≥ (4 : Int) then
    (cpu_fail.f (4 : Int) a9).bind fun t2 =>
    some (.inl (t2.1, t2.2))
  else
    some (.inr a0)
def cm_float.R : (Int × Int) ⊕ (Int) → Tm
  | .inl r => .v (.one (.sc (.iface 64 (.agg #[.int .i64 r.1, .int .u32 r.2]))))
  | .inr r => vi .i64 r
def cm_float.B (a0 : Int) (a1 : (List Int)) (a2 : Int) (a3 : Int) (a4 : (List Int)) (a5 : Int) (a6 : Int) (a7 : Int) (a8 : Int) (a9 : Int) (a10 : Int) (a11 : Int) (a12 : Int) (a13 : (List Int)) : (Int × Int) ⊕ (Int) → List Box
  | .inl r => (kB0 a1 a2 a3 a4 a5 a6 a7 a8 a9 a10 a13 a11 a12)
  | .inr r => (kB0 a1 a2 a3 a4 a5 a6 a7 a8 a9 a10 a13 a11 a12)
def cm_float.P : (Int × Int) ⊕ (Int) → Bool
  | .inl _ => true
  | .inr _ => false
theorem cm_float.P_ : ∀ r : (Int × Int) ⊕ (Int), cm_float.P r = true → ∃ t p, cm_float.R r = .v (.one (.sc (.iface t p)))
  | .inl _, h => ⟨_, _, rfl⟩
  | .inr _, h => by cases h
theorem cm_float.fun_ {a0 : Int} {a1 : (List Int)} {a2 : Int} {a3 : Int} {a4 : (List Int)} {a5 : Int} {a6 : Int} {a7 : Int} {a8 : Int} {a9 : Int} {a10 : Int} {a11 : Int} {a12 : Int} {a13 : (List Int)} {r : (Int × Int) ⊕ (Int)} (h : cm_float.f a0 a1 a2 a3 a4 a5 a6 a7 a8 a9 a10 a11 a12 a13 = some r) : FunG cfg 35 [.one (.ptr 0 ⟨0, 0, 0, 0⟩), .one (.sc (.int .i64 a0))] (kB0 a1 a2 a3 a4 a5 a6 a7 a8 a9 a10 a13 a11 a12) (cm_float.P r) (cm_float.R r) (cm_float.B a0 a1 a2 a3 a4 a5 a6 a7 a8 a9 a10 a11 a12 a13 r) := by
  unfold cm_float.f at h
  refine funG_of_run cfg_ok (f := 35) (fn := Try.f35) Try.func35 rfl (by kernel_rfl) (rs := [.tmp 4]) rfl (nt := 13) rfl (l := fin) (ho := cm_float.P_ r) (k := (.br (.callX true [] [] (Int × Int) (fun t2 => (.iface 64 (.agg #[.int .i64 t2.1, .int .u32 t2.2]))) (fun t2 => (cpu_fail.B (4 : Int) a9 t2)) (fun t2 => (.adj [] .nil))) (aE 4 .nil))) (to_goal (q := (U) ∧ (((decide (a0 ≥ (4 : Int))) = true → (U) ∧ (∃ t2 : Int × Int, (FunX cfg 21 [.one (.sc (.int .i64 (4 : Int))), .one (.sc (.int .u32 a9))] [] (.iface 64 (.agg #[.int .i64 t2.1, .int .u32 t2.2])) (cpu_fail.B (4 : Int) a9 t2) ∧ U) ∧ (cm_float.P r = true ∧ (U) ∧ (.v (.one (.sc (.iface 64 (.agg #[.int .i64 t2.1, .int .u32 t2.2])))) : Tm) = cm_float.R r ∧ ([(cm_float.c0 a1 a2 a3 a4 a5 a6 a7 a8 a9 a10), .ex false [.c (.os 2 0 0 1 (List.length a13) none), .c (.sc (.int .i64 a11)), .c (.sc (.int .i64 a12))] 33, .fix false (.int .u8) a13 5] : List Box) = cm_float.B a0 a1 a2 a3 a4 a5 a6 a7 a8 a9 a10 a11 a12 a13 r))) ∧ ((decide (a0 ≥ (4 : Int))) = false → (U ∧ (U ∧ (U ∧ (cm_float.P r = false ∧ (U) ∧ (U) ∧ (vi .i64 a0 : Tm) = cm_float.R r ∧ ([(cm_float.c0 a1 a2 a3 a4 a5 a6 a7 a8 a9 a10), .ex false [.c (.os 2 0 0 1 (List.length a13) none), .c (.sc (.int .i64 a11)), .c (.sc (.int .i64 a12))] 33, .fix false (.int .u8) a13 5] : List Box) = cm_float.B a0 a1 a2 a3 a4 a5 a6 a7 a8 a9 a10 a11 a12 a13 r))))))) (by kernel_rfl) ?_)
  refine tI ?_
  refine ⟨fun b1 => ?_, fun b1 => ?_⟩
  · rw [if_pos (dT_ b1)] at h
    refine tI ?_
    obtain ⟨t2, ht2, h⟩ := of_bind h
    refine ⟨t2, ⟨cpu_fail.fun_ ht2, T⟩, ?_⟩
    obtain rfl := oi h
    exact ⟨rfl, T, rfl, rfl⟩
  · rw [if_neg (dF_ b1)] at h
    refine ⟨T, T, T, ?_⟩
    obtain rfl := oi h
    exact ⟨rfl, T, T, rfl, rfl⟩
def cm_move.c0 (a0 : (List Int)) (a1 : Int) (a2 : Int) (a3 : (List Int)) (a4 : Int) (a5 : Int) (a6 : Int) (a7 : Int) (a8 : Int) (a9 : Int) : Box := .ex false [.c (.ip 29 1), .row 16 (.int .u32) a0, .c (.sc (.int .u32 a1)), .c (.sc (.int .u32 a2)), .row 4 (.int .u64) a3, .c (.sc (.int .i64 a4)), .c (.sc (.int .i64 a5)), .c (.sc (.int .i64 a6)), .c (.sc (.int .i64 a7)), .c (.sc (.int .u32 a8)), .c (.sc (.int .i64 a9))] 62
def cm_move.f (a0 : (List Int)) (a1 : Int) (a2 : Int) (a3 : (List Int)) (a4 : Int) (a5 : Int) (a6 : Int) (a7 : Int) (a8 : Int) (a9 : Int) (a10 : Int) (a11 : Int) (a12 : (List Int)) : Option (((List Int) × (List Int) × Int × (List Int)) ⊕ (Int × Int × Int × (List Int))) :=
  (cm_at.f a0 a1 a2 a3 a4 a5 a6 a7 a8 a9 a10 a11 a12).bind fun t1 =>
  if a4 = (17 : Int) then
    (cm_load.f t1 (1 : Int) a0 a1 a2 a3 a4 a5 a6 a7 a8 a9 a10 a11 a12).bind fun t3 =>
    match t3 with
    | .inl t4 =>
      if 0 ≤ a5 ∧ a5 < ((16 : Nat) : Int) then
        if (Int.toNat a5) < 16 then
          some (.inl ((List.set a0 (Int.toNat a5) t4), a3, a11, a12))
        else none
      else none
    | .inr t7 =>
      some (.inr (t7.1, t7.2, a11, a12))
  else
    if a4 = (19 : Int) then
      if 0 ≤ a5 ∧ a5 < ((16 : Nat) : Int) then
        if (Int.toNat a5) < 16 then
          (cm_store.f t1 (1 : Int) (List.getD a0 (Int.toNat a5) (0 : Int)) a0 a1 a2 a3 a4 a5 a6 a7 a8 a9 a10 a11 a12).bind fun t9 =>
          match t9 with
          | .inl t10 =>
            some (.inl (a0, a3, t10.1, t10.2))
          | .inr t11 =>
            some (.inr (t11.1, t11.2.1, t11.2.2.1, t11.2.2.2))
        else none
      else none
    else
      if a4 = (18 : Int) then
        (cpu_whole.f t1 (4 : Int)).bind fun t15 =>
        match t15 with
        | .inl t16 =>
          some (.inr (t16.1, t16.2, a11, a12))
        | .inr t17 =>
          (cm_load.f t1 (4 : Int) a0 a1 a2 a3 a4 a5 a6 a7 a8 a9 a10 a11 a12).bind fun t18 =>
          match t18 with
          | .inl t19 =>
            if 0 ≤ a5 ∧ a5 < ((16 : Nat) : Int) then
              if (Int.toNat a5) < 16 then
                some (.inl ((List.set a0 (Int.toNat a5) t19), a3, a11, a12))
              else none
            else none
          | .inr t22 =>
            some (.inr (t22.1, t22.2, a11, a12))
      else
        if a4 = (20 : Int) then
          (cpu_whole.f t1 (4 : Int)).bind fun t24 =>
          match t24 with
          | .inl t25 =>
            some (.inr (t25.1, t25.2, a11, a12))
          | .inr t26 =>
            if 0 ≤ a5 ∧ a5 < ((16 : Nat) : Int) then
              if (Int.toNat a5) < 16 then
                (cm_store.f t1 (4 : Int) (List.getD a0 (Int.toNat a5) (0 : Int)) a0 a1 a2 a3 a4 a5 a6 a7 a8 a9 a10 a11 a12).bind fun t27 =>
                match t27 with
                | .inl t28 =>
                  some (.inl (a0, a3, t28.1, t28.2))
                | .inr t29 =>
                  some (.inr (t29.1, t29.2.1, t29.2.2.1, t29.2.2.2))
              else none
            else none
        else
          if a4 = (31 : Int) then
            (cm_float.f a5 a0 a1 a2 a3 a4 a5 a6 a7 a8 a9 a10 a11 a12).bind fun t33 =>
            match t33 with
            | .inl t34 =>
              some (.inr (t34.1, t34.2, a11, a12))
            | .inr t35 =>
              (cpu_whole.f t1 (8 : Int)).bind fun t36 =>
              match t36 with
              | .inl t37 =>
                some (.inr (t37.1, t37.2, a11, a12))
              | .inr t38 =>
                (cm_load.f t1 (4 : Int) a0 a1 a2 a3 a4 a5 a6 a7 a8 a9 a10 a11 a12).bind fun t39 =>
                match t39 with
                | .inl t40 =>
                  (cm_load.f (IntKind.wrap .u32 (t1 + (4 : Int))) (4 : Int) a0 a1 a2 a3 a4 a5 a6 a7 a8 a9 a10 a11 a12).bind fun t41 =>
                  match t41 with
                  | .inl t42 =>
                    if 0 ≤ t35 ∧ t35 < ((4 : Nat) : Int) then
                      if (Int.toNat t35) < 4 then
                        some (.inl (a0, (List.set a3 (Int.toNat t35) (bits .or .u64 (IntKind.wrap .u64 (t40)) (shl .u64 (IntKind.wrap .u64 (t42)) (32 : Int)))), a11, a12))
                      else none
                    else none
                  | .inr t45 =>
                    some (.inr (t45.1, t45.2, a11, a12))
                | .inr t46 =>
                  some (.inr (t46.1, t46.2, a11, a12))
          else
            if a4 = (32 : Int) then
              (cm_float.f a5 a0 a1 a2 a3 a4 a5 a6 a7 a8 a9 a10 a11 a12).bind fun t48 =>
              match t48 with
              | .inl t49 =>
                some (.inr (t49.1, t49.2, a11, a12))
              | .inr t50 =>
                if 0 ≤ t50 ∧ t50 < ((4 : Nat) : Int) then
                  if (Int.toNat t50) < 4 then
                    (cpu_whole.f t1 (8 : Int)).bind fun t53 =>
                    match t53 with
                    | .inl t54 =>
                      some (.inr (t54.1, t54.2, a11, a12))
                    | .inr t55 =>
                      (cm_store.f t1 (4 : Int) (IntKind.wrap .u32 ((List.getD a3 (Int.toNat t50) (0 : Int)))) a0 a1 a2 a3 a4 a5 a6 a7 a8 a9 a10 a11 a12).bind fun t56 =>
                      match t56 with
                      | .inl t57 =>
                        (cm_store.f (IntKind.wrap .u32 (t1 + (4 : Int))) (4 : Int) (IntKind.wrap .u32 ((shr .u64 (List.getD a3 (Int.toNat t50) (0 : Int)) (32 : Int)))) a0 a1 a2 a3 a4 a5 a6 a7 a8 a9 a10 t57.1 t57.2).bind fun t58 =>
                        match t58 with
                        | .inl t59 =>
                          some (.inl (a0, a3, t59.1, t59.2))
                        | .inr t60 =>
                          some (.inr (t60.1, t60.2.1, t60.2.2.1, t60.2.2.2))
                      | .inr t61 =>
                        some (.inr (t61.1, t61.2.1, t61.2.2.1, t61.2.2.2))
                  else none
                else none
            else
              some (.inl (a0, a3, a11, a12))
def cm_move.R : ((List Int) × (List Int) × Int × (List Int)) ⊕ (Int × Int × Int × (List Int)) → Tm
  | .inl r => .tup []
  | .inr r => .v (.one (.sc (.iface 64 (.agg #[.int .i64 r.1, .int .u32 r.2.1]))))
def cm_move.B (a0 : (List Int)) (a1 : Int) (a2 : Int) (a3 : (List Int)) (a4 : Int) (a5 : Int) (a6 : Int) (a7 : Int) (a8 : Int) (a9 : Int) (a10 : Int) (a11 : Int) (a12 : (List Int)) : ((List Int) × (List Int) × Int × (List Int)) ⊕ (Int × Int × Int × (List Int)) → List Box
  | .inl r => [.ex false [.c (.ip 29 1), .row 16 (.int .u32) r.1, .c (.sc (.int .u32 a1)), .c (.sc (.int .u32 a2)), .row 4 (.int .u64) r.2.1, .c (.sc (.int .i64 a4)), .c (.sc (.int .i64 a5)), .c (.sc (.int .i64 a6)), .c (.sc (.int .i64 a7)), .c (.sc (.int .u32 a8)), .c (.sc (.int .i64 a9))] 62, .ex false [.c (.os 2 0 0 1 (List.length r.2.2.2) none), .c (.sc (.int .i64 a10)), .c (.sc (.int .i64 r.2.2.1))] 33, .fix false (.int .u8) r.2.2.2 5]
  | .inr r => [.ex false [.c (.ip 29 1), .row 16 (.int .u32) a0, .c (.sc (.int .u32 a1)), .c (.sc (.int .u32 a2)), .row 4 (.int .u64) a3, .c (.sc (.int .i64 a4)), .c (.sc (.int .i64 a5)), .c (.sc (.int .i64 a6)), .c (.sc (.int .i64 a7)), .c (.sc (.int .u32 a8)), .c (.sc (.int .i64 a9))] 62, .ex false [.c (.os 2 0 0 1 (List.length r.2.2.2) none), .c (.sc (.int .i64 a10)), .c (.sc (.int .i64 r.2.2.1))] 33, .fix false (.int .u8) r.2.2.2 5]
def cm_move.P : ((List Int) × (List Int) × Int × (List Int)) ⊕ (Int × Int × Int × (List Int)) → Bool
  | .inl _ => false
  | .inr _ => true
theorem cm_move.P_ : ∀ r : ((List Int) × (List Int) × Int × (List Int)) ⊕ (Int × Int × Int × (List Int)), cm_move.P r = true → ∃ t p, cm_move.R r = .v (.one (.sc (.iface t p)))
  | .inl _, h => by cases h
  | .inr _, h => ⟨_, _, rfl⟩
theorem cm_move.fun_ {a0 : (List Int)} {a1 : Int} {a2 : Int} {a3 : (List Int)} {a4 : Int} {a5 : Int} {a6 : Int} {a7 : Int} {a8 : Int} {a9 : Int} {a10 : Int} {a11 : Int} {a12 : (List Int)} {r : ((List Int) × (List Int) × Int × (List Int)) ⊕ (Int × Int × Int × (List Int))} (h : cm_move.f a0 a1 a2 a3 a4 a5 a6 a7 a8 a9 a10 a11 a12 = some r) : FunG cfg 26 [.one (.ptr 0 ⟨0, 0, 0, 0⟩)] (kB0 a0 a1 a2 a3 a4 a5 a6 a7 a8 a9 a12 a10 a11) (cm_move.P r) (cm_move.R r) (cm_move.B a0 a1 a2 a3 a4 a5 a6 a7 a8 a9 a10 a11 a12 r) := by
  unfold cm_move.f at h
  refine funG_of_run cfg_ok (f := 26) (fn := Try.f26) Try.func26 rfl (by kernel_rfl) (rs := []) rfl (nt := 119) rfl (l := fin) (ho := cm_move.P_ r) (k := (.ex (Int) (fun t1 => (.drP (nd [0, 2, 3, 4, 5] [(1, ⟨none, .callR true [] [0, 1, 2] (cm_at.R t1) (cm_at.B a0 a1 a2 a3 a4 a5 a6 a7 a8 a9 a10 a11 a12 t1), true⟩), (7, dN), (6, ⟨none, .no, true⟩), (8, dN)]) [([0, 2, 3, 4, 5, 6, 1, 7, 8], [0, 1, 2])] ⟨([P0, A, vi .u32 t1, vi .i64 a5, A, A, A, P0, vi .u32 t1, P0, P0, pt 23 0 0, pt 24 0 0, vi .i64 a5] ++ (rA 105 [])), (kB0 a0 a1 a2 a3 a4 a5 a6 a7 a8 a9 a12 a10 a11), 3⟩ (.br (.alt (.ex (Int) (fun t4 => (.dr (nd [0, 1, 2, 3, 5, 6, 7] [(4, ⟨none, .callR true [] [0, 1, 2] (cm_load.R (.inl t4)) (cm_load.B t1 (1 : Int) a0 a1 a2 a3 a4 a5 a6 a7 a8 a9 a10 a11 a12 (.inl t4)), false⟩), (8, dN), (9, dN)]) (.adj [] .nil)))) (.drX (nd [0, 1, 2, 3, 5, 6, 7, 4, 8, 9] []) 7 [] (.callX true [] [0, 1, 2] (Int × Int) (fun t7 => (.iface 64 (.agg #[.int .i64 t7.1, .int .u32 t7.2]))) (fun t7 => (cm_load.B t1 (1 : Int) a0 a1 a2 a3 a4 a5 a6 a7 a8 a9 a10 a11 a12 (.inr t7))) (fun t7 => (.adj [] .nil))))) (.br (.orx (.callX true [] [0, 1, 2] (Int × Int × Int × (List Int)) (fun t11 => (.iface 64 (.agg #[.int .i64 t11.1, .int .u32 t11.2.1]))) (fun t11 => (cm_store.B t1 (1 : Int) (List.getD a0 (Int.toNat a5) (0 : Int)) a0 a1 a2 a3 a4 a5 a6 a7 a8 a9 a10 a11 a12 (.inr t11))) (fun t11 => (.adj [] .nil))) (.callR true [] [0, 1, 2] (Int × (List Int)) (fun t10 => (cm_store.R (.inl t10))) (fun t10 => (cm_store.B t1 (1 : Int) (List.getD a0 (Int.toNat a5) (0 : Int)) a0 a1 a2 a3 a4 a5 a6 a7 a8 a9 a10 a11 a12 (.inl t10))) (fun t10 => (.adj [] .nil)))) (.br (.orx (.callX true [] [] (Int × Int) (fun t16 => (.iface 64 (.agg #[.int .i64 t16.1, .int .u32 t16.2]))) (fun t16 => (cpu_whole.B t1 (4 : Int) (.inl t16))) (fun t16 => (.adj [] .nil))) (.callR true [] [] (Unit) (fun t17 => (cpu_whole.R (.inr t17))) (fun t17 => (cpu_whole.B t1 (4 : Int) (.inr t17))) (fun t17 => (.alt (.ex (Int) (fun t19 => (.dr (nd [0, 1, 2, 3, 5, 6, 7] [(4, ⟨none, .callR true [] [0, 1, 2] (cm_load.R (.inl t19)) (cm_load.B t1 (4 : Int) a0 a1 a2 a3 a4 a5 a6 a7 a8 a9 a10 a11 a12 (.inl t19)), false⟩), (8, dN), (9, dN)]) (.adj [] .nil)))) (.drX (nd [0, 1, 2, 3, 5, 6, 7, 4, 8, 9] []) 7 [] (.callX true [] [0, 1, 2] (Int × Int) (fun t22 => (.iface 64 (.agg #[.int .i64 t22.1, .int .u32 t22.2]))) (fun t22 => (cm_load.B t1 (4 : Int) a0 a1 a2 a3 a4 a5 a6 a7 a8 a9 a10 a11 a12 (.inr t22))) (fun t22 => (.adj [] .nil)))))))) (.br (.orx (.callX true [] [] (Int × Int) (fun t25 => (.iface 64 (.agg #[.int .i64 t25.1, .int .u32 t25.2]))) (fun t25 => (cpu_whole.B t1 (4 : Int) (.inl t25))) (fun t25 => (.adj [] .nil))) (.callR true [] [] (Unit) (fun t26 => (cpu_whole.R (.inr t26))) (fun t26 => (cpu_whole.B t1 (4 : Int) (.inr t26))) (fun t26 => (.orx (.callX true [] [0, 1, 2] (Int × Int × Int × (List Int)) (fun t29 => (.iface 64 (.agg #[.int .i64 t29.1, .int .u32 t29.2.1]))) (fun t29 => (cm_store.B t1 (4 : Int) (List.getD a0 (Int.toNat a5) (0 : Int)) a0 a1 a2 a3 a4 a5 a6 a7 a8 a9 a10 a11 a12 (.inr t29))) (fun t29 => (.adj [] .nil))) (.callR true [] [0, 1, 2] (Int × (List Int)) (fun t28 => (cm_store.R (.inl t28))) (fun t28 => (cm_store.B t1 (4 : Int) (List.getD a0 (Int.toNat a5) (0 : Int)) a0 a1 a2 a3 a4 a5 a6 a7 a8 a9 a10 a11 a12 (.inl t28))) (fun t28 => (.adj [] .nil))))))) (.br (.orx (.callX true [] [0, 1, 2] (Int × Int) (fun t34 => (.iface 64 (.agg #[.int .i64 t34.1, .int .u32 t34.2]))) (fun t34 => (cm_float.B a5 a0 a1 a2 a3 a4 a5 a6 a7 a8 a9 a10 a11 a12 (.inl t34))) (fun t34 => (.adj [] .nil))) (.callR true [] [0, 1, 2] (Int) (fun t35 => (cm_float.R (.inr t35))) (fun t35 => (cm_float.B a5 a0 a1 a2 a3 a4 a5 a6 a7 a8 a9 a10 a11 a12 (.inr t35))) (fun t35 => (.orx (.callX true [] [] (Int × Int) (fun t37 => (.iface 64 (.agg #[.int .i64 t37.1, .int .u32 t37.2]))) (fun t37 => (cpu_whole.B t1 (8 : Int) (.inl t37))) (fun t37 => (.adj [] .nil))) (.callR true [] [] (Unit) (fun t38 => (cpu_whole.R (.inr t38))) (fun t38 => (cpu_whole.B t1 (8 : Int) (.inr t38))) (fun t38 => (.orx (.callX true [] [0, 1, 2] (Int × Int) (fun t46 => (.iface 64 (.agg #[.int .i64 t46.1, .int .u32 t46.2]))) (fun t46 => (cm_load.B t1 (4 : Int) a0 a1 a2 a3 a4 a5 a6 a7 a8 a9 a10 a11 a12 (.inr t46))) (fun t46 => (.adj [] .nil))) (.callR true [] [0, 1, 2] (Int) (fun t40 => (cm_load.R (.inl t40))) (fun t40 => (cm_load.B t1 (4 : Int) a0 a1 a2 a3 a4 a5 a6 a7 a8 a9 a10 a11 a12 (.inl t40))) (fun t40 => (.alt (.ex (Int) (fun t42 => (.dr (nd [0, 1, 2, 3, 4, 5, 6, 11, 12, 13] ([(7, ⟨none, .callR true [] [0, 1, 2] (cm_load.R (.inl t42)) (cm_load.B (IntKind.wrap .u32 (t1 + (4 : Int))) (4 : Int) a0 a1 a2 a3 a4 a5 a6 a7 a8 a9 a10 a11 a12 (.inl t42)), false⟩)] ++ (nd [8, 9, 10, 14, 15] []))) (.adj [] .nil)))) (.drX (nd [0, 1, 2, 3, 4, 5, 6, 11, 12, 13, 7, 8, 9, 10, 14, 15] []) 10 [] (.callX true [] [0, 1, 2] (Int × Int) (fun t45 => (.iface 64 (.agg #[.int .i64 t45.1, .int .u32 t45.2]))) (fun t45 => (cm_load.B (IntKind.wrap .u32 (t1 + (4 : Int))) (4 : Int) a0 a1 a2 a3 a4 a5 a6 a7 a8 a9 a10 a11 a12 (.inr t45))) (fun t45 => (.adj [] .nil)))))))))))))) (.br (.alt (.drX (nd [0, 1, 2, 4, 5, 6, 3, 7, 8, 9] []) 6 [] (.callX true [] [0, 1, 2] (Int × Int) (fun t49 => (.iface 64 (.agg #[.int .i64 t49.1, .int .u32 t49.2]))) (fun t49 => (cm_float.B a5 a0 a1 a2 a3 a4 a5 a6 a7 a8 a9 a10 a11 a12 (.inl t49))) (fun t49 => (.adj [] .nil)))) (.ex (Int) (fun t50 => (.dr (nd [0, 1, 2, 4, 5, 6] ([(3, ⟨none, .callR true [] [0, 1, 2] (cm_float.R (.inr t50)) (cm_float.B a5 a0 a1 a2 a3 a4 a5 a6 a7 a8 a9 a10 a11 a12 (.inr t50)), false⟩)] ++ (nd [7, 8, 9] []))) (.orx (.callX true [] [] (Int × Int) (fun t54 => (.iface 64 (.agg #[.int .i64 t54.1, .int .u32 t54.2]))) (fun t54 => (cpu_whole.B t1 (8 : Int) (.inl t54))) (fun t54 => (.adj [] .nil))) (.callR true [] [] (Unit) (fun t55 => (cpu_whole.R (.inr t55))) (fun t55 => (cpu_whole.B t1 (8 : Int) (.inr t55))) (fun t55 => (.orx (.callX true [] [0, 1, 2] (Int × Int × Int × (List Int)) (fun t61 => (.iface 64 (.agg #[.int .i64 t61.1, .int .u32 t61.2.1]))) (fun t61 => (cm_store.B t1 (4 : Int) (IntKind.wrap .u32 ((List.getD a3 (Int.toNat t50) (0 : Int)))) a0 a1 a2 a3 a4 a5 a6 a7 a8 a9 a10 a11 a12 (.inr t61))) (fun t61 => (.adj [] .nil))) (.callR true [] [0, 1, 2] (Int × (List Int)) (fun t57 => (cm_store.R (.inl t57))) (fun t57 => (cm_store.B t1 (4 : Int) (IntKind.wrap .u32 ((List.getD a3 (Int.toNat t50) (0 : Int)))) a0 a1 a2 a3 a4 a5 a6 a7 a8 a9 a10 a11 a12 (.inl t57))) (fun t57 => (.orx (.callX true [] [0, 1, 2] (Int × Int × Int × (List Int)) (fun t60 => (.iface 64 (.agg #[.int .i64 t60.1, .int .u32 t60.2.1]))) (fun t60 => (cm_store.B (IntKind.wrap .u32 (t1 + (4 : Int))) (4 : Int) (IntKind.wrap .u32 ((shr .u64 (List.getD a3 (Int.toNat t50) (0 : Int)) (32 : Int)))) a0 a1 a2 a3 a4 a5 a6 a7 a8 a9 a10 t57.1 t57.2 (.inr t60))) (fun t60 => (.adj [] .nil))) (.callR true [] [0, 1, 2] (Int × (List Int)) (fun t59 => (cm_store.R (.inl t59))) (fun t59 => (cm_store.B (IntKind.wrap .u32 (t1 + (4 : Int))) (4 : Int) (IntKind.wrap .u32 ((shr .u64 (List.getD a3 (Int.toNat t50) (0 : Int)) (32 : Int)))) a0 a1 a2 a3 a4 a5 a6 a7 a8 a9 a10 t57.1 t57.2 (.inl t59))) (fun t59 => (.adj [] .nil)))))))))))))) (aE 2 .nil))))))))))) (to_goal (q := (∃ t1 : Int, (((Fun cfg 31 [.one (.ptr 0 ⟨0, 0, 0, 0⟩)] [(cm_move.c0 a0 a1 a2 a3 a4 a5 a6 a7 a8 a9), .ex false [.c (.os 2 0 0 1 (List.length a12) none), .c (.sc (.int .i64 a10)), .c (.sc (.int .i64 a11))] 33, .fix false (.int .u8) a12 5] (cm_at.R t1) (cm_at.B a0 a1 a2 a3 a4 a5 a6 a7 a8 a9 a10 a11 a12 t1) ∧ U) ∧ (U) ∧ (⟨([P0, A, vi .u32 t1, vi .i64 a5, A, A, A, P0, vi .u32 t1, P0, P0, pt 23 0 0, pt 24 0 0, vi .i64 a5] ++ (rA 105 [])), [(cm_move.c0 a0 a1 a2 a3 a4 a5 a6 a7 a8 a9), .ex false [.c (.os 2 0 0 1 (List.length a12) none), .c (.sc (.int .i64 a10)), .c (.sc (.int .i64 a11))] 33, .fix false (.int .u8) a12 5], 3⟩ : St) = ⟨([P0, A, vi .u32 t1, vi .i64 a5, A, A, A, P0, vi .u32 t1, P0, P0, pt 23 0 0, pt 24 0 0, vi .i64 a5] ++ (rA 105 [])), [(cm_move.c0 a0 a1 a2 a3 a4 a5 a6 a7 a8 a9), .ex false [.c (.os 2 0 0 1 (List.length a12) none), .c (.sc (.int .i64 a10)), .c (.sc (.int .i64 a11))] 33, .fix false (.int .u8) a12 5], 3⟩) ∧ (((U) ∧ (Fun cfg 31 [.one (.ptr 0 ⟨0, 0, 0, 0⟩)] [(cm_move.c0 a0 a1 a2 a3 a4 a5 a6 a7 a8 a9), .ex false [.c (.os 2 0 0 1 (List.length a12) none), .c (.sc (.int .i64 a10)), .c (.sc (.int .i64 a11))] 33, .fix false (.int .u8) a12 5] (cm_at.R t1) (cm_at.B a0 a1 a2 a3 a4 a5 a6 a7 a8 a9 a10 a11 a12 t1) ∧ U) ∧ U ∧ (⟨([P0, A, vi .u32 t1, vi .i64 a5, A, A, A, P0, vi .u32 t1, P0, P0, pt 23 0 0, pt 24 0 0, vi .i64 a5] ++ (rA 105 [])), [(cm_move.c0 a0 a1 a2 a3 a4 a5 a6 a7 a8 a9), .ex false [.c (.os 2 0 0 1 (List.length a12) none), .c (.sc (.int .i64 a10)), .c (.sc (.int .i64 a11))] 33, .fix false (.int .u8) a12 5], 3⟩ : St) = ⟨([P0, A, vi .u32 t1, vi .i64 a5, A, A, A, P0, vi .u32 t1, P0, P0, pt 23 0 0, pt 24 0 0, vi .i64 a5] ++ (rA 105 [])), [(cm_move.c0 a0 a1 a2 a3 a4 a5 a6 a7 a8 a9), .ex false [.c (.os 2 0 0 1 (List.length a12) none), .c (.sc (.int .i64 a10)), .c (.sc (.int .i64 a11))] 33, .fix false (.int .u8) a12 5], 3⟩) ∧ U) ∧ (U) ∧ (U) ∧ (((a4 == (17 : Int)) = true → ((∃ t4 : Int, (Fun cfg 33 [.one (.ptr 0 ⟨0, 0, 0, 0⟩), .one (.sc (.int .u32 t1)), .one (.sc (.int .i64 (1 : Int)))] [(cm_move.c0 a0 a1 a2 a3 a4 a5 a6 a7 a8 a9), .ex false [.c (.os 2 0 0 1 (List.length a12) none), .c (.sc (.int .i64 a10)), .c (.sc (.int .i64 a11))] 33, .fix false (.int .u8) a12 5] (cm_load.R (.inl t4)) (cm_load.B t1 (1 : Int) a0 a1 a2 a3 a4 a5 a6 a7 a8 a9 a10 a11 a12 (.inl t4)) ∧ U) ∧ (0 ≤ a5 ∧ a5 < ((16 : Nat) : Int)) ∧ ((Int.toNat a5) < 16) ∧ (cm_move.P r = false ∧ (U) ∧ (U) ∧ (.tup [] : Tm) = cm_move.R r ∧ ([.ex false [.c (.ip 29 1), .row 16 (.int .u32) (List.set a0 (Int.toNat a5) t4), .c (.sc (.int .u32 a1)), .c (.sc (.int .u32 a2)), .row 4 (.int .u64) a3, .c (.sc (.int .i64 a4)), .c (.sc (.int .i64 a5)), .c (.sc (.int .i64 a6)), .c (.sc (.int .i64 a7)), .c (.sc (.int .u32 a8)), .c (.sc (.int .i64 a9))] 62, .ex false [.c (.os 2 0 0 1 (List.length a12) none), .c (.sc (.int .i64 a10)), .c (.sc (.int .i64 a11))] 33, .fix false (.int .u8) a12 5] : List Box) = cm_move.B a0 a1 a2 a3 a4 a5 a6 a7 a8 a9 a10 a11 a12 r)) ∨ (((∃ t7 : Int × Int, (FunX cfg 33 [.one (.ptr 0 ⟨0, 0, 0, 0⟩), .one (.sc (.int .u32 t1)), .one (.sc (.int .i64 (1 : Int)))] [(cm_move.c0 a0 a1 a2 a3 a4 a5 a6 a7 a8 a9), .ex false [.c (.os 2 0 0 1 (List.length a12) none), .c (.sc (.int .i64 a10)), .c (.sc (.int .i64 a11))] 33, .fix false (.int .u8) a12 5] (.iface 64 (.agg #[.int .i64 t7.1, .int .u32 t7.2])) (cm_load.B t1 (1 : Int) a0 a1 a2 a3 a4 a5 a6 a7 a8 a9 a10 a11 a12 (.inr t7)) ∧ U) ∧ (cm_move.P r = true ∧ (U) ∧ (.v (.one (.sc (.iface 64 (.agg #[.int .i64 t7.1, .int .u32 t7.2])))) : Tm) = cm_move.R r ∧ ([(cm_move.c0 a0 a1 a2 a3 a4 a5 a6 a7 a8 a9), .ex false [.c (.os 2 0 0 1 (List.length a12) none), .c (.sc (.int .i64 a10)), .c (.sc (.int .i64 a11))] 33, .fix false (.int .u8) a12 5] : List Box) = cm_move.B a0 a1 a2 a3 a4 a5 a6 a7 a8 a9 a10 a11 a12 r))) ∧ U))) ∧ ((a4 == (17 : Int)) = false → (U) ∧ (((a4 == (19 : Int)) = true → (0 ≤ a5 ∧ a5 < ((16 : Nat) : Int)) ∧ ((Int.toNat a5) < 16) ∧ ((∃ t11 : Int × Int × Int × (List Int), (FunX cfg 34 [.one (.ptr 0 ⟨0, 0, 0, 0⟩), .one (.sc (.int .u32 t1)), .one (.sc (.int .i64 (1 : Int))), .one (.sc (.int .u32 (List.getD a0 (Int.toNat a5) (0 : Int))))] [(cm_move.c0 a0 a1 a2 a3 a4 a5 a6 a7 a8 a9), .ex false [.c (.os 2 0 0 1 (List.length a12) none), .c (.sc (.int .i64 a10)), .c (.sc (.int .i64 a11))] 33, .fix false (.int .u8) a12 5] (.iface 64 (.agg #[.int .i64 t11.1, .int .u32 t11.2.1])) (cm_store.B t1 (1 : Int) (List.getD a0 (Int.toNat a5) (0 : Int)) a0 a1 a2 a3 a4 a5 a6 a7 a8 a9 a10 a11 a12 (.inr t11)) ∧ U) ∧ (cm_move.P r = true ∧ (U) ∧ (.v (.one (.sc (.iface 64 (.agg #[.int .i64 t11.1, .int .u32 t11.2.1])))) : Tm) = cm_move.R r ∧ ([(cm_move.c0 a0 a1 a2 a3 a4 a5 a6 a7 a8 a9), .ex false [.c (.os 2 0 0 1 (List.length (z3 t11)) none), .c (.sc (.int .i64 a10)), .c (.sc (.int .i64 (p2 t11)))] 33, .fix false (.int .u8) (z3 t11) 5] : List Box) = cm_move.B a0 a1 a2 a3 a4 a5 a6 a7 a8 a9 a10 a11 a12 r)) ∨ (∃ t10 : Int × (List Int), (Fun cfg 34 [.one (.ptr 0 ⟨0, 0, 0, 0⟩), .one (.sc (.int .u32 t1)), .one (.sc (.int .i64 (1 : Int))), .one (.sc (.int .u32 (List.getD a0 (Int.toNat a5) (0 : Int))))] [(cm_move.c0 a0 a1 a2 a3 a4 a5 a6 a7 a8 a9), .ex false [.c (.os 2 0 0 1 (List.length a12) none), .c (.sc (.int .i64 a10)), .c (.sc (.int .i64 a11))] 33, .fix false (.int .u8) a12 5] (cm_store.R (.inl t10)) (cm_store.B t1 (1 : Int) (List.getD a0 (Int.toNat a5) (0 : Int)) a0 a1 a2 a3 a4 a5 a6 a7 a8 a9 a10 a11 a12 (.inl t10)) ∧ U) ∧ (cm_move.P r = false ∧ (U) ∧ (U) ∧ (.tup [] : Tm) = cm_move.R r ∧ ([(cm_move.c0 a0 a1 a2 a3 a4 a5 a6 a7 a8 a9), .ex false [.c (.os 2 0 0 1 (List.length t10.2) none), .c (.sc (.int .i64 a10)), .c (.sc (.int .i64 t10.1))] 33, .fix false (.int .u8) t10.2 5] : List Box) = cm_move.B a0 a1 a2 a3 a4 a5 a6 a7 a8 a9 a10 a11 a12 r)))) ∧ ((a4 == (19 : Int)) = false → (U) ∧ (((a4 == (18 : Int)) = true → ((∃ t16 : Int × Int, (FunX cfg 18 [.one (.sc (.int .u32 t1)), .one (.sc (.int .u32 (4 : Int)))] [] (.iface 64 (.agg #[.int .i64 t16.1, .int .u32 t16.2])) (cpu_whole.B t1 (4 : Int) (.inl t16)) ∧ U) ∧ (cm_move.P r = true ∧ (U) ∧ (.v (.one (.sc (.iface 64 (.agg #[.int .i64 t16.1, .int .u32 t16.2])))) : Tm) = cm_move.R r ∧ ([(cm_move.c0 a0 a1 a2 a3 a4 a5 a6 a7 a8 a9), .ex false [.c (.os 2 0 0 1 (List.length a12) none), .c (.sc (.int .i64 a10)), .c (.sc (.int .i64 a11))] 33, .fix false (.int .u8) a12 5] : List Box) = cm_move.B a0 a1 a2 a3 a4 a5 a6 a7 a8 a9 a10 a11 a12 r)) ∨ (∃ t17 : Unit, (Fun cfg 18 [.one (.sc (.int .u32 t1)), .one (.sc (.int .u32 (4 : Int)))] [] (cpu_whole.R (.inr t17)) (cpu_whole.B t1 (4 : Int) (.inr t17)) ∧ U) ∧ ((∃ t19 : Int, (Fun cfg 33 [.one (.ptr 0 ⟨0, 0, 0, 0⟩), .one (.sc (.int .u32 t1)), .one (.sc (.int .i64 (4 : Int)))] [(cm_move.c0 a0 a1 a2 a3 a4 a5 a6 a7 a8 a9), .ex false [.c (.os 2 0 0 1 (List.length a12) none), .c (.sc (.int .i64 a10)), .c (.sc (.int .i64 a11))] 33, .fix false (.int .u8) a12 5] (cm_load.R (.inl t19)) (cm_load.B t1 (4 : Int) a0 a1 a2 a3 a4 a5 a6 a7 a8 a9 a10 a11 a12 (.inl t19)) ∧ U) ∧ (0 ≤ a5 ∧ a5 < ((16 : Nat) : Int)) ∧ ((Int.toNat a5) < 16) ∧ (cm_move.P r = false ∧ (U) ∧ (U) ∧ (.tup [] : Tm) = cm_move.R r ∧ ([.ex false [.c (.ip 29 1), .row 16 (.int .u32) (List.set a0 (Int.toNat a5) t19), .c (.sc (.int .u32 a1)), .c (.sc (.int .u32 a2)), .row 4 (.int .u64) a3, .c (.sc (.int .i64 a4)), .c (.sc (.int .i64 a5)), .c (.sc (.int .i64 a6)), .c (.sc (.int .i64 a7)), .c (.sc (.int .u32 a8)), .c (.sc (.int .i64 a9))] 62, .ex false [.c (.os 2 0 0 1 (List.length a12) none), .c (.sc (.int .i64 a10)), .c (.sc (.int .i64 a11))] 33, .fix false (.int .u8) a12 5] : List Box) = cm_move.B a0 a1 a2 a3 a4 a5 a6 a7 a8 a9 a10 a11 a12 r)) ∨ (((∃ t22 : Int × Int, (FunX cfg 33 [.one (.ptr 0 ⟨0, 0, 0, 0⟩), .one (.sc (.int .u32 t1)), .one (.sc (.int .i64 (4 : Int)))] [(cm_move.c0 a0 a1 a2 a3 a4 a5 a6 a7 a8 a9), .ex false [.c (.os 2 0 0 1 (List.length a12) none), .c (.sc (.int .i64 a10)), .c (.sc (.int .i64 a11))] 33, .fix false (.int .u8) a12 5] (.iface 64 (.agg #[.int .i64 t22.1, .int .u32 t22.2])) (cm_load.B t1 (4 : Int) a0 a1 a2 a3 a4 a5 a6 a7 a8 a9 a10 a11 a12 (.inr t22)) ∧ U) ∧ (cm_move.P r = true ∧ (U) ∧ (.v (.one (.sc (.iface 64 (.agg #[.int .i64 t22.1, .int .u32 t22.2])))) : Tm) = cm_move.R r ∧ ([(cm_move.c0 a0 a1 a2 a3 a4 a5 a6 a7 a8 a9), .ex false [.c (.os 2 0 0 1 (List.length a12) none), .c (.sc (.int .i64 a10)), .c (.sc (.int .i64 a11))] 33, .fix false (.int .u8) a12 5] : List Box) = cm_move.B a0 a1 a2 a3 a4 a5 a6 a7 a8 a9 a10 a11 a12 r))) ∧ U))))) ∧ ((a4 == (18 : Int)) = false → (U) ∧ (((a4 == (20 : Int)) = true → ((∃ t25 : Int × Int, (FunX cfg 18 [.one (.sc (.int .u32 t1)), .one (.sc (.int .u32 (4 : Int)))] [] (.iface 64 (.agg #[.int .i64 t25.1, .int .u32 t25.2])) (cpu_whole.B t1 (4 : Int) (.inl t25)) ∧ U) ∧ (cm_move.P r = true ∧ (U) ∧ (.v (.one (.sc (.iface 64 (.agg #[.int .i64 t25.1, .int .u32 t25.2])))) : Tm) = cm_move.R r ∧ ([(cm_move.c0 a0 a1 a2 a3 a4 a5 a6 a7 a8 a9), .ex false [.c (.os 2 0 0 1 (List.length a12) none), .c (.sc (.int .i64 a10)), .c (.sc (.int .i64 a11))] 33, .fix false (.int .u8) a12 5] : List Box) = cm_move.B a0 a1 a2 a3 a4 a5 a6 a7 a8 a9 a10 a11 a12 r)) ∨ (∃ t26 : Unit, (Fun cfg 18 [.one (.sc (.int .u32 t1)), .one (.sc (.int .u32 (4 : Int)))] [] (cpu_whole.R (.inr t26)) (cpu_whole.B t1 (4 : Int) (.inr t26)) ∧ U) ∧ (0 ≤ a5 ∧ a5 < ((16 : Nat) : Int)) ∧ ((Int.toNat a5) < 16) ∧ ((∃ t29 : Int × Int × Int × (List Int), (FunX cfg 34 [.one (.ptr 0 ⟨0, 0, 0, 0⟩), .one (.sc (.int .u32 t1)), .one (.sc (.int .i64 (4 : Int))), .one (.sc (.int .u32 (List.getD a0 (Int.toNat a5) (0 : Int))))] [(cm_move.c0 a0 a1 a2 a3 a4 a5 a6 a7 a8 a9), .ex false [.c (.os 2 0 0 1 (List.length a12) none), .c (.sc (.int .i64 a10)), .c (.sc (.int .i64 a11))] 33, .fix false (.int .u8) a12 5] (.iface 64 (.agg #[.int .i64 t29.1, .int .u32 t29.2.1])) (cm_store.B t1 (4 : Int) (List.getD a0 (Int.toNat a5) (0 : Int)) a0 a1 a2 a3 a4 a5 a6 a7 a8 a9 a10 a11 a12 (.inr t29)) ∧ U) ∧ (cm_move.P r = true ∧ (U) ∧ (.v (.one (.sc (.iface 64 (.agg #[.int .i64 t29.1, .int .u32 t29.2.1])))) : Tm) = cm_move.R r ∧ ([(cm_move.c0 a0 a1 a2 a3 a4 a5 a6 a7 a8 a9), .ex false [.c (.os 2 0 0 1 (List.length (z3 t29)) none), .c (.sc (.int .i64 a10)), .c (.sc (.int .i64 (p2 t29)))] 33, .fix false (.int .u8) (z3 t29) 5] : List Box) = cm_move.B a0 a1 a2 a3 a4 a5 a6 a7 a8 a9 a10 a11 a12 r)) ∨ (∃ t28 : Int × (List Int), (Fun cfg 34 [.one (.ptr 0 ⟨0, 0, 0, 0⟩), .one (.sc (.int .u32 t1)), .one (.sc (.int .i64 (4 : Int))), .one (.sc (.int .u32 (List.getD a0 (Int.toNat a5) (0 : Int))))] [(cm_move.c0 a0 a1 a2 a3 a4 a5 a6 a7 a8 a9), .ex false [.c (.os 2 0 0 1 (List.length a12) none), .c (.sc (.int .i64 a10)), .c (.sc (.int .i64 a11))] 33, .fix false (.int .u8) a12 5] (cm_store.R (.inl t28)) (cm_store.B t1 (4 : Int) (List.getD a0 (Int.toNat a5) (0 : Int)) a0 a1 a2 a3 a4 a5 a6 a7 a8 a9 a10 a11 a12 (.inl t28)) ∧ U) ∧ (cm_move.P r = false ∧ (U) ∧ (U) ∧ (.tup [] : Tm) = cm_move.R r ∧ ([(cm_move.c0 a0 a1 a2 a3 a4 a5 a6 a7 a8 a9), .ex false [.c (.os 2 0 0 1 (List.length t28.2) none), .c (.sc (.int .i64 a10)), .c (.sc (.int .i64 t28.1))] 33, .fix false (.int .u8) t28.2 5] : List Box) = cm_move.B a0 a1 a2 a3 a4 a5 a6 a7 a8 a9 a10 a11 a12 r)))))) ∧ ((a4 == (20 : Int)) = false → (U) ∧ (((a4 == (31 : Int)) = true → ((∃ t34 : Int × Int, (FunX cfg 35 [.one (.ptr 0 ⟨0, 0, 0, 0⟩), .one (.sc (.int .i64 a5))] [(cm_move.c0 a0 a1 a2 a3 a4 a5 a6 a7 a8 a9), .ex false [.c (.os 2 0 0 1 (List.length a12) none), .c (.sc (.int .i64 a10)), .c (.sc (.int .i64 a11))] 33, .fix false (.int .u8) a12 5] (.iface 64 (.agg #[.int .i64 t34.1, .int .u32 t34.2])) (cm_float.B a5 a0 a1 a2 a3 a4 a5 a6 a7 a8 a9 a10 a11 a12 (.inl t34)) ∧ U) ∧ (cm_move.P r = true ∧ (U) ∧ (.v (.one (.sc (.iface 64 (.agg #[.int .i64 t34.1, .int .u32 t34.2])))) : Tm) = cm_move.R r ∧ ([(cm_move.c0 a0 a1 a2 a3 a4 a5 a6 a7 a8 a9), .ex false [.c (.os 2 0 0 1 (List.length a12) none), .c (.sc (.int .i64 a10)), .c (.sc (.int .i64 a11))] 33, .fix false (.int .u8) a12 5] : List Box) = cm_move.B a0 a1 a2 a3 a4 a5 a6 a7 a8 a9 a10 a11 a12 r)) ∨ (∃ t35 : Int, (Fun cfg 35 [.one (.ptr 0 ⟨0, 0, 0, 0⟩), .one (.sc (.int .i64 a5))] [(cm_move.c0 a0 a1 a2 a3 a4 a5 a6 a7 a8 a9), .ex false [.c (.os 2 0 0 1 (List.length a12) none), .c (.sc (.int .i64 a10)), .c (.sc (.int .i64 a11))] 33, .fix false (.int .u8) a12 5] (cm_float.R (.inr t35)) (cm_float.B a5 a0 a1 a2 a3 a4 a5 a6 a7 a8 a9 a10 a11 a12 (.inr t35)) ∧ U) ∧ ((∃ t37 : Int × Int, (FunX cfg 18 [.one (.sc (.int .u32 t1)), .one (.sc (.int .u32 (8 : Int)))] [] (.iface 64 (.agg #[.int .i64 t37.1, .int .u32 t37.2])) (cpu_whole.B t1 (8 : Int) (.inl t37)) ∧ U) ∧ (cm_move.P r = true ∧ (U) ∧ (.v (.one (.sc (.iface 64 (.agg #[.int .i64 t37.1, .int .u32 t37.2])))) : Tm) = cm_move.R r ∧ ([(cm_move.c0 a0 a1 a2 a3 a4 a5 a6 a7 a8 a9), .ex false [.c (.os 2 0 0 1 (List.length a12) none), .c (.sc (.int .i64 a10)), .c (.sc (.int .i64 a11))] 33, .fix false (.int .u8) a12 5] : List Box) = cm_move.B a0 a1 a2 a3 a4 a5 a6 a7 a8 a9 a10 a11 a12 r)) ∨ (∃ t38 : Unit, (Fun cfg 18 [.one (.sc (.int .u32 t1)), .one (.sc (.int .u32 (8 : Int)))] [] (cpu_whole.R (.inr t38)) (cpu_whole.B t1 (8 : Int) (.inr t38)) ∧ U) ∧ ((∃ t46 : Int × Int, (FunX cfg 33 [.one (.ptr 0 ⟨0, 0, 0, 0⟩), .one (.sc (.int .u32 t1)), .one (.sc (.int .i64 (4 : Int)))] [(cm_move.c0 a0 a1 a2 a3 a4 a5 a6 a7 a8 a9), .ex false [.c (.os 2 0 0 1 (List.length a12) none), .c (.sc (.int .i64 a10)), .c (.sc (.int .i64 a11))] 33, .fix false (.int .u8) a12 5] (.iface 64 (.agg #[.int .i64 t46.1, .int .u32 t46.2])) (cm_load.B t1 (4 : Int) a0 a1 a2 a3 a4 a5 a6 a7 a8 a9 a10 a11 a12 (.inr t46)) ∧ U) ∧ (cm_move.P r = true ∧ (U) ∧ (.v (.one (.sc (.iface 64 (.agg #[.int .i64 t46.1, .int .u32 t46.2])))) : Tm) = cm_move.R r ∧ ([(cm_move.c0 a0 a1 a2 a3 a4 a5 a6 a7 a8 a9), .ex false [.c (.os 2 0 0 1 (List.length a12) none), .c (.sc (.int .i64 a10)), .c (.sc (.int .i64 a11))] 33, .fix false (.int .u8) a12 5] : List Box) = cm_move.B a0 a1 a2 a3 a4 a5 a6 a7 a8 a9 a10 a11 a12 r)) ∨ (∃ t40 : Int, (Fun cfg 33 [.one (.ptr 0 ⟨0, 0, 0, 0⟩), .one (.sc (.int .u32 t1)), .one (.sc (.int .i64 (4 : Int)))] [(cm_move.c0 a0 a1 a2 a3 a4 a5 a6 a7 a8 a9), .ex false [.c (.os 2 0 0 1 (List.length a12) none), .c (.sc (.int .i64 a10)), .c (.sc (.int .i64 a11))] 33, .fix false (.int .u8) a12 5] (cm_load.R (.inl t40)) (cm_load.B t1 (4 : Int) a0 a1 a2 a3 a4 a5 a6 a7 a8 a9 a10 a11 a12 (.inl t40)) ∧ U) ∧ ((∃ t42 : Int, (U) ∧ (U) ∧ (Fun cfg 33 [.one (.ptr 0 ⟨0, 0, 0, 0⟩), .one (.sc (.int .u32 (IntKind.wrap .u32 (t1 + (4 : Int))))), .one (.sc (.int .i64 (4 : Int)))] [(cm_move.c0 a0 a1 a2 a3 a4 a5 a6 a7 a8 a9), .ex false [.c (.os 2 0 0 1 (List.length a12) none), .c (.sc (.int .i64 a10)), .c (.sc (.int .i64 a11))] 33, .fix false (.int .u8) a12 5] (cm_load.R (.inl t42)) (cm_load.B (IntKind.wrap .u32 (t1 + (4 : Int))) (4 : Int) a0 a1 a2 a3 a4 a5 a6 a7 a8 a9 a10 a11 a12 (.inl t42)) ∧ U) ∧ (U) ∧ (0 ≤ (32 : Int)) ∧ (U) ∧ (0 ≤ t35 ∧ t35 < ((4 : Nat) : Int)) ∧ ((Int.toNat t35) < 4) ∧ (cm_move.P r = false ∧ (U) ∧ (U) ∧ (.tup [] : Tm) = cm_move.R r ∧ ([.ex false [.c (.ip 29 1), .row 16 (.int .u32) a0, .c (.sc (.int .u32 a1)), .c (.sc (.int .u32 a2)), .row 4 (.int .u64) (List.set a3 (Int.toNat t35) (bits .or .u64 (IntKind.wrap .u64 (t40)) (shl .u64 (IntKind.wrap .u64 (t42)) (32 : Int)))), .c (.sc (.int .i64 a4)), .c (.sc (.int .i64 a5)), .c (.sc (.int .i64 a6)), .c (.sc (.int .i64 a7)), .c (.sc (.int .u32 a8)), .c (.sc (.int .i64 a9))] 62, .ex false [.c (.os 2 0 0 1 (List.length a12) none), .c (.sc (.int .i64 a10)), .c (.sc (.int .i64 a11))] 33, .fix false (.int .u8) a12 5] : List Box) = cm_move.B a0 a1 a2 a3 a4 a5 a6 a7 a8 a9 a10 a11 a12 r)) ∨ (((U) ∧ (U) ∧ (∃ t45 : Int × Int, (FunX cfg 33 [.one (.ptr 0 ⟨0, 0, 0, 0⟩), .one (.sc (.int .u32 (IntKind.wrap .u32 (t1 + (4 : Int))))), .one (.sc (.int .i64 (4 : Int)))] [(cm_move.c0 a0 a1 a2 a3 a4 a5 a6 a7 a8 a9), .ex false [.c (.os 2 0 0 1 (List.length a12) none), .c (.sc (.int .i64 a10)), .c (.sc (.int .i64 a11))] 33, .fix false (.int .u8) a12 5] (.iface 64 (.agg #[.int .i64 t45.1, .int .u32 t45.2])) (cm_load.B (IntKind.wrap .u32 (t1 + (4 : Int))) (4 : Int) a0 a1 a2 a3 a4 a5 a6 a7 a8 a9 a10 a11 a12 (.inr t45)) ∧ U) ∧ (cm_move.P r = true ∧ (U) ∧ (.v (.one (.sc (.iface 64 (.agg #[.int .i64 t45.1, .int .u32 t45.2])))) : Tm) = cm_move.R r ∧ ([(cm_move.c0 a0 a1 a2 a3 a4 a5 a6 a7 a8 a9), .ex false [.c (.os 2 0 0 1 (List.length a12) none), .c (.sc (.int .i64 a10)), .c (.sc (.int .i64 a11))] 33, .fix false (.int .u8) a12 5] : List Box) = cm_move.B a0 a1 a2 a3 a4 a5 a6 a7 a8 a9 a10 a11 a12 r))) ∧ U))))))))) ∧ ((a4 == (31 : Int)) = false → (U) ∧ (((a4 == (32 : Int)) = true → ((((∃ t49 : Int × Int, (FunX cfg 35 [.one (.ptr 0 ⟨0, 0, 0, 0⟩), .one (.sc (.int .i64 a5))] [(cm_move.c0 a0 a1 a2 a3 a4 a5 a6 a7 a8 a9), .ex false [.c (.os 2 0 0 1 (List.length a12) none), .c (.sc (.int .i64 a10)), .c (.sc (.int .i64 a11))] 33, .fix false (.int .u8) a12 5] (.iface 64 (.agg #[.int .i64 t49.1, .int .u32 t49.2])) (cm_float.B a5 a0 a1 a2 a3 a4 a5 a6 a7 a8 a9 a10 a11 a12 (.inl t49)) ∧ U) ∧ (cm_move.P r = true ∧ (U) ∧ (.v (.one (.sc (.iface 64 (.agg #[.int .i64 t49.1, .int .u32 t49.2])))) : Tm) = cm_move.R r ∧ ([(cm_move.c0 a0 a1 a2 a3 a4 a5 a6 a7 a8 a9), .ex false [.c (.os 2 0 0 1 (List.length a12) none), .c (.sc (.int .i64 a10)), .c (.sc (.int .i64 a11))] 33, .fix false (.int .u8) a12 5] : List Box) = cm_move.B a0 a1 a2 a3 a4 a5 a6 a7 a8 a9 a10 a11 a12 r))) ∧ U) ∨ (∃ t50 : Int, (Fun cfg 35 [.one (.ptr 0 ⟨0, 0, 0, 0⟩), .one (.sc (.int .i64 a5))] [(cm_move.c0 a0 a1 a2 a3 a4 a5 a6 a7 a8 a9), .ex false [.c (.os 2 0 0 1 (List.length a12) none), .c (.sc (.int .i64 a10)), .c (.sc (.int .i64 a11))] 33, .fix false (.int .u8) a12 5] (cm_float.R (.inr t50)) (cm_float.B a5 a0 a1 a2 a3 a4 a5 a6 a7 a8 a9 a10 a11 a12 (.inr t50)) ∧ U) ∧ (0 ≤ t50 ∧ t50 < ((4 : Nat) : Int)) ∧ ((Int.toNat t50) < 4) ∧ ((∃ t54 : Int × Int, (FunX cfg 18 [.one (.sc (.int .u32 t1)), .one (.sc (.int .u32 (8 : Int)))] [] (.iface 64 (.agg #[.int .i64 t54.1, .int .u32 t54.2])) (cpu_whole.B t1 (8 : Int) (.inl t54)) ∧ U) ∧ (cm_move.P r = true ∧ (U) ∧ (.v (.one (.sc (.iface 64 (.agg #[.int .i64 t54.1, .int .u32 t54.2])))) : Tm) = cm_move.R r ∧ ([(cm_move.c0 a0 a1 a2 a3 a4 a5 a6 a7 a8 a9), .ex false [.c (.os 2 0 0 1 (List.length a12) none), .c (.sc (.int .i64 a10)), .c (.sc (.int .i64 a11))] 33, .fix false (.int .u8) a12 5] : List Box) = cm_move.B a0 a1 a2 a3 a4 a5 a6 a7 a8 a9 a10 a11 a12 r)) ∨ (∃ t55 : Unit, (Fun cfg 18 [.one (.sc (.int .u32 t1)), .one (.sc (.int .u32 (8 : Int)))] [] (cpu_whole.R (.inr t55)) (cpu_whole.B t1 (8 : Int) (.inr t55)) ∧ U) ∧ (U) ∧ ((∃ t61 : Int × Int × Int × (List Int), (FunX cfg 34 [.one (.ptr 0 ⟨0, 0, 0, 0⟩), .one (.sc (.int .u32 t1)), .one (.sc (.int .i64 (4 : Int))), .one (.sc (.int .u32 (IntKind.wrap .u32 ((List.getD a3 (Int.toNat t50) (0 : Int))))))] [(cm_move.c0 a0 a1 a2 a3 a4 a5 a6 a7 a8 a9), .ex false [.c (.os 2 0 0 1 (List.length a12) none), .c (.sc (.int .i64 a10)), .c (.sc (.int .i64 a11))] 33, .fix false (.int .u8) a12 5] (.iface 64 (.agg #[.int .i64 t61.1, .int .u32 t61.2.1])) (cm_store.B t1 (4 : Int) (IntKind.wrap .u32 ((List.getD a3 (Int.toNat t50) (0 : Int)))) a0 a1 a2 a3 a4 a5 a6 a7 a8 a9 a10 a11 a12 (.inr t61)) ∧ U) ∧ (cm_move.P r = true ∧ (U) ∧ (.v (.one (.sc (.iface 64 (.agg #[.int .i64 t61.1, .int .u32 t61.2.1])))) : Tm) = cm_move.R r ∧ ([(cm_move.c0 a0 a1 a2 a3 a4 a5 a6 a7 a8 a9), .ex false [.c (.os 2 0 0 1 (List.length (z3 t61)) none), .c (.sc (.int .i64 a10)), .c (.sc (.int .i64 (p2 t61)))] 33, .fix false (.int .u8) (z3 t61) 5] : List Box) = cm_move.B a0 a1 a2 a3 a4 a5 a6 a7 a8 a9 a10 a11 a12 r)) ∨ (∃ t57 : Int × (List Int), (Fun cfg 34 [.one (.ptr 0 ⟨0, 0, 0, 0⟩), .one (.sc (.int .u32 t1)), .one (.sc (.int .i64 (4 : Int))), .one (.sc (.int .u32 (IntKind.wrap .u32 ((List.getD a3 (Int.toNat t50) (0 : Int))))))] [(cm_move.c0 a0 a1 a2 a3 a4 a5 a6 a7 a8 a9), .ex false [.c (.os 2 0 0 1 (List.length a12) none), .c (.sc (.int .i64 a10)), .c (.sc (.int .i64 a11))] 33, .fix false (.int .u8) a12 5] (cm_store.R (.inl t57)) (cm_store.B t1 (4 : Int) (IntKind.wrap .u32 ((List.getD a3 (Int.toNat t50) (0 : Int)))) a0 a1 a2 a3 a4 a5 a6 a7 a8 a9 a10 a11 a12 (.inl t57)) ∧ U) ∧ (U) ∧ (0 ≤ (32 : Int)) ∧ (U) ∧ ((∃ t60 : Int × Int × Int × (List Int), (FunX cfg 34 [.one (.ptr 0 ⟨0, 0, 0, 0⟩), .one (.sc (.int .u32 (IntKind.wrap .u32 (t1 + (4 : Int))))), .one (.sc (.int .i64 (4 : Int))), .one (.sc (.int .u32 (IntKind.wrap .u32 ((shr .u64 (List.getD a3 (Int.toNat t50) (0 : Int)) (32 : Int))))))] [(cm_move.c0 a0 a1 a2 a3 a4 a5 a6 a7 a8 a9), .ex false [.c (.os 2 0 0 1 (List.length t57.2) none), .c (.sc (.int .i64 a10)), .c (.sc (.int .i64 t57.1))] 33, .fix false (.int .u8) t57.2 5] (.iface 64 (.agg #[.int .i64 t60.1, .int .u32 t60.2.1])) (cm_store.B (IntKind.wrap .u32 (t1 + (4 : Int))) (4 : Int) (IntKind.wrap .u32 ((shr .u64 (List.getD a3 (Int.toNat t50) (0 : Int)) (32 : Int)))) a0 a1 a2 a3 a4 a5 a6 a7 a8 a9 a10 t57.1 t57.2 (.inr t60)) ∧ U) ∧ (cm_move.P r = true ∧ (U) ∧ (.v (.one (.sc (.iface 64 (.agg #[.int .i64 t60.1, .int .u32 t60.2.1])))) : Tm) = cm_move.R r ∧ ([(cm_move.c0 a0 a1 a2 a3 a4 a5 a6 a7 a8 a9), .ex false [.c (.os 2 0 0 1 (List.length (z3 t60)) none), .c (.sc (.int .i64 a10)), .c (.sc (.int .i64 (p2 t60)))] 33, .fix false (.int .u8) (z3 t60) 5] : List Box) = cm_move.B a0 a1 a2 a3 a4 a5 a6 a7 a8 a9 a10 a11 a12 r)) ∨ (∃ t59 : Int × (List Int), (Fun cfg 34 [.one (.ptr 0 ⟨0, 0, 0, 0⟩), .one (.sc (.int .u32 (IntKind.wrap .u32 (t1 + (4 : Int))))), .one (.sc (.int .i64 (4 : Int))), .one (.sc (.int .u32 (IntKind.wrap .u32 ((shr .u64 (List.getD a3 (Int.toNat t50) (0 : Int)) (32 : Int))))))] [(cm_move.c0 a0 a1 a2 a3 a4 a5 a6 a7 a8 a9), .ex false [.c (.os 2 0 0 1 (List.length t57.2) none), .c (.sc (.int .i64 a10)), .c (.sc (.int .i64 t57.1))] 33, .fix false (.int .u8) t57.2 5] (cm_store.R (.inl t59)) (cm_store.B (IntKind.wrap .u32 (t1 + (4 : Int))) (4 : Int) (IntKind.wrap .u32 ((shr .u64 (List.getD a3 (Int.toNat t50) (0 : Int)) (32 : Int)))) a0 a1 a2 a3 a4 a5 a6 a7 a8 a9 a10 t57.1 t57.2 (.inl t59)) ∧ U) ∧ (cm_move.P r = false ∧ (U) ∧ (U) ∧ (.tup [] : Tm) = cm_move.R r ∧ ([(cm_move.c0 a0 a1 a2 a3 a4 a5 a6 a7 a8 a9), .ex false [.c (.os 2 0 0 1 (List.length t59.2) none), .c (.sc (.int .i64 a10)), .c (.sc (.int .i64 t59.1))] 33, .fix false (.int .u8) t59.2 5] : List Box) = cm_move.B a0 a1 a2 a3 a4 a5 a6 a7 a8 a9 a10 a11 a12 r)))))))))) ∧ ((a4 == (32 : Int)) = false → (U ∧ (cm_move.P r = false ∧ (U) ∧ (U) ∧ (.tup [] : Tm) = cm_move.R r ∧ ([(cm_move.c0 a0 a1 a2 a3 a4 a5 a6 a7 a8 a9), .ex false [.c (.os 2 0 0 1 (List.length a12) none), .c (.sc (.int .i64 a10)), .c (.sc (.int .i64 a11))] 33, .fix false (.int .u8) a12 5] : List Box) = cm_move.B a0 a1 a2 a3 a4 a5 a6 a7 a8 a9 a10 a11 a12 r))))))))))))))))) (by kernel_rfl) ?_)
  obtain ⟨t1, ht1, h⟩ := of_bind h
  refine ⟨t1, ?_⟩
  refine ⟨⟨⟨cm_at.fun_ ht1, T⟩, T, rfl⟩, ⟨⟨T, ⟨cm_at.fun_ ht1, T⟩, T, rfl⟩, T⟩, ?_⟩
  refine ⟨T, T, ?_⟩
  refine ⟨fun b2 => ?_, fun b2 => ?_⟩
  · rw [if_pos (beq_t b2)] at h
    obtain ⟨t3, ht3, h⟩ := of_bind h
    rcases t3 with t4 | t7
    · dsimp only at h
      left
      refine ⟨t4, ?_⟩
      obtain ⟨g5, h⟩ := of_guard h
      obtain ⟨g6, h⟩ := of_guard h
      refine ⟨⟨cm_load.fun_ ht3, T⟩, g5, g6, ?_⟩
      obtain rfl := oi h
      exact ⟨rfl, T, T, rfl, rfl⟩
    · dsimp only at h
      right
      have hP : (∃ t7 : Int × Int, (FunX cfg 33 [.one (.ptr 0 ⟨0, 0, 0, 0⟩), .one (.sc (.int .u32 t1)), .one (.sc (.int .i64 (1 : Int)))] (kB0 a0 a1 a2 a3 a4 a5 a6 a7 a8 a9 a12 a10 a11) (.iface 64 (.agg #[.int .i64 t7.1, .int .u32 t7.2])) (cm_load.B t1 (1 : Int) a0 a1 a2 a3 a4 a5 a6 a7 a8 a9 a10 a11 a12 (.inr t7)) ∧ U) ∧ (cm_move.P r = true ∧ (U) ∧ (.v (.one (.sc (.iface 64 (.agg #[.int .i64 t7.1, .int .u32 t7.2])))) : Tm) = cm_move.R r ∧ ((kB0 a0 a1 a2 a3 a4 a5 a6 a7 a8 a9 a12 a10 a11) : List Box) = cm_move.B a0 a1 a2 a3 a4 a5 a6 a7 a8 a9 a10 a11 a12 r)) := by
        refine ⟨t7, ⟨cm_load.fun_ ht3, T⟩, ?_⟩
        obtain rfl := oi h
        exact ⟨rfl, T, rfl, rfl⟩
      exact ⟨hP, T⟩
  · rw [if_neg (beq_f b2)] at h
    refine tI ?_
    refine ⟨fun b8 => ?_, fun b8 => ?_⟩
    · rw [if_pos (beq_t b8)] at h
      obtain ⟨g13, h⟩ := of_guard h
      refine ⟨g13, ?_⟩
      obtain ⟨g12, h⟩ := of_guard h
      refine ⟨g12, ?_⟩
      obtain ⟨t9, ht9, h⟩ := of_bind h
      rcases t9 with t10 | t11
      · dsimp only at h
        right
        refine ⟨t10, ⟨cm_store.fun_ ht9, T⟩, ?_⟩
        obtain rfl := oi h
        exact ⟨rfl, T, T, rfl, rfl⟩
      · dsimp only at h
        left
        refine ⟨t11, ⟨cm_store.fun_ ht9, T⟩, ?_⟩
        obtain rfl := oi h
        exact ⟨rfl, T, rfl, rfl⟩
    · rw [if_neg (beq_f b8)] at h
      refine tI ?_
      refine ⟨fun b14 => ?_, fun b14 => ?_⟩
      · rw [if_pos (beq_t b14)] at h
        obtain ⟨t15, ht15, h⟩ := of_bind h
        rcases t15 with t16 | t17
        · dsimp only at h
          left
          refine ⟨t16, ⟨cpu_whole.fun_ ht15, T⟩, ?_⟩
          obtain rfl := oi h
          exact ⟨rfl, T, rfl, rfl⟩
        · dsimp only at h
          right
          refine ⟨t17, ⟨cpu_whole.fun_ ht15, T⟩, ?_⟩
          obtain ⟨t18, ht18, h⟩ := of_bind h
          rcases t18 with t19 | t22
          · dsimp only at h
            left
            refine ⟨t19, ?_⟩
            obtain ⟨g20, h⟩ := of_guard h
            obtain ⟨g21, h⟩ := of_guard h
            refine ⟨⟨cm_load.fun_ ht18, T⟩, g20, g21, ?_⟩
            obtain rfl := oi h
            exact ⟨rfl, T, T, rfl, rfl⟩
          · dsimp only at h
            right
            have hP : (∃ t22 : Int × Int, (FunX cfg 33 [.one (.ptr 0 ⟨0, 0, 0, 0⟩), .one (.sc (.int .u32 t1)), .one (.sc (.int .i64 (4 : Int)))] (kB0 a0 a1 a2 a3 a4 a5 a6 a7 a8 a9 a12 a10 a11) (.iface 64 (.agg #[.int .i64 t22.1, .int .u32 t22.2])) (cm_load.B t1 (4 : Int) a0 a1 a2 a3 a4 a5 a6 a7 a8 a9 a10 a11 a12 (.inr t22)) ∧ U) ∧ (cm_move.P r = true ∧ (U) ∧ (.v (.one (.sc (.iface 64 (.agg #[.int .i64 t22.1, .int .u32 t22.2])))) : Tm) = cm_move.R r ∧ ((kB0 a0 a1 a2 a3 a4 a5 a6 a7 a8 a9 a12 a10 a11) : List Box) = cm_move.B a0 a1 a2 a3 a4 a5 a6 a7 a8 a9 a10 a11 a12 r)) := by
              refine ⟨t22, ⟨cm_load.fun_ ht18, T⟩, ?_⟩
              obtain rfl := oi h
              exact ⟨rfl, T, rfl, rfl⟩
            exact ⟨hP, T⟩
      · rw [if_neg (beq_f b14)] at h
        refine tI ?_
        refine ⟨fun b23 => ?_, fun b23 => ?_⟩
        · rw [if_pos (beq_t b23)] at h
          obtain ⟨t24, ht24, h⟩ := of_bind h
          rcases t24 with t25 | t26
          · dsimp only at h
            left
            refine ⟨t25, ⟨cpu_whole.fun_ ht24, T⟩, ?_⟩
            obtain rfl := oi h
            exact ⟨rfl, T, rfl, rfl⟩
          · dsimp only at h
            right
            refine ⟨t26, ⟨cpu_whole.fun_ ht24, T⟩, ?_⟩
            obtain ⟨g31, h⟩ := of_guard h
            refine ⟨g31, ?_⟩
            obtain ⟨g30, h⟩ := of_guard h
            refine ⟨g30, ?_⟩
            obtain ⟨t27, ht27, h⟩ := of_bind h
            rcases t27 with t28 | t29
            · dsimp only at h
              right
              refine ⟨t28, ⟨cm_store.fun_ ht27, T⟩, ?_⟩
              obtain rfl := oi h
              exact ⟨rfl, T, T, rfl, rfl⟩
            · dsimp only at h
              left
              refine ⟨t29, ⟨cm_store.fun_ ht27, T⟩, ?_⟩
              obtain rfl := oi h
              exact ⟨rfl, T, rfl, rfl⟩
        · rw [if_neg (beq_f b23)] at h
          refine tI ?_
          refine ⟨fun b32 => ?_, fun b32 => ?_⟩
          · rw [if_pos (beq_t b32)] at h
            obtain ⟨t33, ht33, h⟩ := of_bind h
            rcases t33 with t34 | t35
            · dsimp only at h
              left
              refine ⟨t34, ⟨cm_float.fun_ ht33, T⟩, ?_⟩
              obtain rfl := oi h
              exact ⟨rfl, T, rfl, rfl⟩
            · dsimp only at h
              right
              refine ⟨t35, ⟨cm_float.fun_ ht33, T⟩, ?_⟩
              obtain ⟨t36, ht36, h⟩ := of_bind h
              rcases t36 with t37 | t38
              · dsimp only at h
                left
                refine ⟨t37, ⟨cpu_whole.fun_ ht36, T⟩, ?_⟩
                obtain rfl := oi h
                exact ⟨rfl, T, rfl, rfl⟩
              · dsimp only at h
                right
                refine ⟨t38, ⟨cpu_whole.fun_ ht36, T⟩, ?_⟩
                obtain ⟨t39, ht39, h⟩ := of_bind h
                rcases t39 with t40 | t46
                · dsimp only at h
                  right
                  refine ⟨t40, ⟨cm_load.fun_ ht39, T⟩, ?_⟩
                  obtain ⟨t41, ht41, h⟩ := of_bind h
                  rcases t41 with t42 | t45
                  · dsimp only at h
                    left
                    refine ⟨t42, ?_⟩
                    obtain ⟨g43, h⟩ := of_guard h
                    obtain ⟨g44, h⟩ := of_guard h
                    refine ⟨T, T, ⟨cm_load.fun_ ht41, T⟩, T, (by decide), T, g43, g44, ?_⟩
                    obtain rfl := oi h
                    exact ⟨rfl, T, T, rfl, rfl⟩
                  · dsimp only at h
                    right
                    have hP : (∃ t45 : Int × Int, (FunX cfg 33 [.one (.ptr 0 ⟨0, 0, 0, 0⟩), .one (.sc (.int .u32 (IntKind.wrap .u32 (t1 + (4 : Int))))), .one (.sc (.int .i64 (4 : Int)))] (kB0 a0 a1 a2 a3 a4 a5 a6 a7 a8 a9 a12 a10 a11) (.iface 64 (.agg #[.int .i64 t45.1, .int .u32 t45.2])) (cm_load.B (IntKind.wrap .u32 (t1 + (4 : Int))) (4 : Int) a0 a1 a2 a3 a4 a5 a6 a7 a8 a9 a10 a11 a12 (.inr t45)) ∧ U) ∧ (cm_move.P r = true ∧ (U) ∧ (.v (.one (.sc (.iface 64 (.agg #[.int .i64 t45.1, .int .u32 t45.2])))) : Tm) = cm_move.R r ∧ ((kB0 a0 a1 a2 a3 a4 a5 a6 a7 a8 a9 a12 a10 a11) : List Box) = cm_move.B a0 a1 a2 a3 a4 a5 a6 a7 a8 a9 a10 a11 a12 r)) := by
                      refine ⟨t45, ⟨cm_load.fun_ ht41, T⟩, ?_⟩
                      obtain rfl := oi h
                      exact ⟨rfl, T, rfl, rfl⟩
                    exact ⟨⟨T, T, hP⟩, T⟩
                · dsimp only at h
                  left
                  refine ⟨t46, ⟨cm_load.fun_ ht39, T⟩, ?_⟩
                  obtain rfl := oi h
                  exact ⟨rfl, T, rfl, rfl⟩
          · rw [if_neg (beq_f b32)] at h
            refine tI ?_
            refine ⟨fun b47 => ?_, fun b47 => ?_⟩
            · rw [if_pos (beq_t b47)] at h
              obtain ⟨t48, ht48, h⟩ := of_bind h
              rcases t48 with t49 | t50
              · dsimp only at h
                left
                have hP : (∃ t49 : Int × Int, (FunX cfg 35 [.one (.ptr 0 ⟨0, 0, 0, 0⟩), .one (.sc (.int .i64 a5))] (kB0 a0 a1 a2 a3 a4 a5 a6 a7 a8 a9 a12 a10 a11) (.iface 64 (.agg #[.int .i64 t49.1, .int .u32 t49.2])) (cm_float.B a5 a0 a1 a2 a3 a4 a5 a6 a7 a8 a9 a10 a11 a12 (.inl t49)) ∧ U) ∧ (cm_move.P r = true ∧ (U) ∧ (.v (.one (.sc (.iface 64 (.agg #[.int .i64 t49.1, .int .u32 t49.2])))) : Tm) = cm_move.R r ∧ ((kB0 a0 a1 a2 a3 a4 a5 a6 a7 a8 a9 a12 a10 a11) : List Box) = cm_move.B a0 a1 a2 a3 a4 a5 a6 a7 a8 a9 a10 a11 a12 r)) := by
                  refine ⟨t49, ⟨cm_float.fun_ ht48, T⟩, ?_⟩
                  obtain rfl := oi h
                  exact ⟨rfl, T, rfl, rfl⟩
                exact ⟨hP, T⟩
              · dsimp only at h
                right
                refine ⟨t50, ?_⟩
                obtain ⟨g51, h⟩ := of_guard h
                obtain ⟨g52, h⟩ := of_guard h
                refine ⟨⟨cm_float.fun_ ht48, T⟩, g51, g52, ?_⟩
                obtain ⟨t53, ht53, h⟩ := of_bind h
                rcases t53 with t54 | t55
                · dsimp only at h
                  left
                  refine ⟨t54, ⟨cpu_whole.fun_ ht53, T⟩, ?_⟩
                  obtain rfl := oi h
                  exact ⟨rfl, T, rfl, rfl⟩
                · dsimp only at h
                  right
                  refine ⟨t55, ⟨cpu_whole.fun_ ht53, T⟩, ?_⟩
                  refine tI ?_
                  obtain ⟨t56, ht56, h⟩ := of_bind h
                  rcases t56 with t57 | t61
                  · dsimp only at h
                    right
                    refine ⟨t57, ⟨cm_store.fun_ ht56, T⟩, ?_⟩
                    refine tI ?_
                    refine ⟨(by decide), ?_⟩
                    refine tI ?_
                    obtain ⟨t58, ht58, h⟩ := of_bind h
                    rcases t58 with t59 | t60
                    · dsimp only at h
                      right
                      refine ⟨t59, ⟨cm_store.fun_ ht58, T⟩, ?_⟩
                      obtain rfl := oi h
                      exact ⟨rfl, T, T, rfl, rfl⟩
                    · dsimp only at h
                      left
                      refine ⟨t60, ⟨cm_store.fun_ ht58, T⟩, ?_⟩
                      obtain rfl := oi h
                      exact ⟨rfl, T, rfl, rfl⟩
                  · dsimp only at h
                    left
                    refine ⟨t61, ⟨cm_store.fun_ ht56, T⟩, ?_⟩
                    obtain rfl := oi h
                    exact ⟨rfl, T, rfl, rfl⟩
            · rw [if_neg (beq_f b47)] at h
              refine tI ?_
              obtain rfl := oi h
              exact ⟨rfl, T, T, rfl, rfl⟩
def cm_jump.f (a0 : (List Int)) (a1 : Int) (a2 : Int) (a3 : (List Int)) (a4 : Int) (a5 : Int) (a6 : Int) (a7 : Int) (a8 : Int) (a9 : Int) (a10 : Int) (a11 : Int) (a12 : (List Int)) : Option Int :=
  some (IntKind.wrap .u32 (a1 + (IntKind.wrap .u32 ((IntKind.wrap .u32 ((IntKind.wrap .i32 (a7)))) * (4 : Int)))))
def cm_jump.R (r : Int) : Tm := .tup []
def cm_jump.B (a0 : (List Int)) (a1 : Int) (a2 : Int) (a3 : (List Int)) (a4 : Int) (a5 : Int) (a6 : Int) (a7 : Int) (a8 : Int) (a9 : Int) (a10 : Int) (a11 : Int) (a12 : (List Int)) (r : Int) : List Box := [.ex false [.c (.ip 29 1), .row 16 (.int .u32) a0, .c (.sc (.int .u32 r)), .c (.sc (.int .u32 a2)), .row 4 (.int .u64) a3, .c (.sc (.int .i64 a4)), .c (.sc (.int .i64 a5)), .c (.sc (.int .i64 a6)), .c (.sc (.int .i64 a7)), .c (.sc (.int .u32 a8)), .c (.sc (.int .i64 a9))] 62, .ex false [.c (.os 2 0 0 1 (List.length a12) none), .c (.sc (.int .i64 a10)), .c (.sc (.int .i64 a11))] 33, .fix false (.int .u8) a12 5]
theorem cm_jump.fun_ {a0 : (List Int)} {a1 : Int} {a2 : Int} {a3 : (List Int)} {a4 : Int} {a5 : Int} {a6 : Int} {a7 : Int} {a8 : Int} {a9 : Int} {a10 : Int} {a11 : Int} {a12 : (List Int)} {r : Int} (h : cm_jump.f a0 a1 a2 a3 a4 a5 a6 a7 a8 a9 a10 a11 a12 = some r) : Fun cfg 36 [.one (.ptr 0 ⟨0, 0, 0, 0⟩)] (kB0 a0 a1 a2 a3 a4 a5 a6 a7 a8 a9 a12 a10 a11) (cm_jump.R r) (cm_jump.B a0 a1 a2 a3 a4 a5 a6 a7 a8 a9 a10 a11 a12 r) := by
  unfold cm_jump.f at h
  refine fun_of_run cfg_ok (f := 36) (fn := Try.f36) Try.func36 rfl (by kernel_rfl) (rs := []) rfl (nt := 19) rfl (l := fin) (k := (.dr (nd [0, 1, 2, 3, 5, 6, 7, 8, 4, 9, 10, 11, 12, 13, 14, 15, 16, 17] []) (.adj [] .nil))) (to_goal (q := (U) ∧ (U) ∧ (U) ∧ (U) ∧ (U) ∧ (U) ∧ (U) ∧ ((U) ∧ (U) ∧ (.tup [] : Tm) = cm_jump.R r ∧ ([.ex false [.c (.ip 29 1), .row 16 (.int .u32) a0, .c (.sc (.int .u32 (IntKind.wrap .u32 (a1 + (IntKind.wrap .u32 ((IntKind.wrap .u32 ((IntKind.wrap .i32 (a7)))) * (4 : Int))))))), .c (.sc (.int .u32 a2)), .row 4 (.int .u64) a3, .c (.sc (.int .i64 a4)), .c (.sc (.int .i64 a5)), .c (.sc (.int .i64 a6)), .c (.sc (.int .i64 a7)), .c (.sc (.int .u32 a8)), .c (.sc (.int .i64 a9))] 62, .ex false [.c (.os 2 0 0 1 (List.length a12) none), .c (.sc (.int .i64 a10)), .c (.sc (.int .i64 a11))] 33, .fix false (.int .u8) a12 5] : List Box) = cm_jump.B a0 a1 a2 a3 a4 a5 a6 a7 a8 a9 a10 a11 a12 r)) (by kernel_rfl) ?_)
  refine ⟨T, T, T, T, T, T, T, ?_⟩
  obtain rfl := oi h
  exact ⟨T, T, rfl, rfl⟩
def alu_Taken.f (a0 : Int) (a1 : Int) : Option (Bool × (Option Int)) :=
  if a0 = (21 : Int) then
    some (true, none)
  else
    if a0 = (22 : Int) then
      some (((bits .and .u32 a1 (1 : Int)) != (0 : Int)), none)
    else
      if a0 = (23 : Int) then
        some (((bits .and .u32 a1 (1 : Int)) == (0 : Int)), none)
      else
        if a0 = (24 : Int) then
          some ((!(((bits .and .u32 a1 (2 : Int)) != (0 : Int)) == ((bits .and .u32 a1 (8 : Int)) != (0 : Int)))), none)
        else
          if a0 = (25 : Int) then
            some ((!(!(((bits .and .u32 a1 (2 : Int)) != (0 : Int)) == ((bits .and .u32 a1 (8 : Int)) != (0 : Int))))), none)
          else
            if a0 = (26 : Int) then
              some (((bits .and .u32 a1 (4 : Int)) != (0 : Int)), none)
            else
              some (false, (some (22 : Int)))
def alu_Taken.R (r : Bool × (Option Int)) : Tm := .tup [.one (.sc (.bool r.1)), .one (.err r.2)]
theorem alu_Taken.fun_ {a0 : Int} {a1 : Int} {r : Bool × (Option Int)} (h : alu_Taken.f a0 a1 = some r) : Fun cfg 37 [.one (.sc (.int .i64 a0)), .one (.sc (.int .u32 a1))] [] (alu_Taken.R r) [] := by
  unfold alu_Taken.f at h
  refine fun_of_run cfg_ok (f := 37) (fn := Try.f37) Try.func37 rfl (by kernel_rfl) (rs := [.tmp 4, .tmp 5]) rfl (nt := 40) rfl (l := fin) (k := (.br (aE 3 .nil) (.br (aE 3 .nil) (.br (aE 3 .nil) (.br (aE 3 .nil) (.br (aE 3 .nil) (.br (aE 3 .nil) (aE 4 .nil)))))))) (to_goal (q := (U) ∧ (U) ∧ (U) ∧ (U) ∧ (U) ∧ (U) ∧ (((a0 == (21 : Int)) = true → (U ∧ (U ∧ ((U) ∧ (U) ∧ (.tup [.one (.sc (.bool true)), .one (.err none)] : Tm) = alu_Taken.R r ∧ ([] : List Box) = [])))) ∧ ((a0 == (21 : Int)) = false → (U) ∧ (((a0 == (22 : Int)) = true → (U ∧ (U) ∧ (U) ∧ (U ∧ ((U) ∧ (U) ∧ (.tup [.one (.sc (.bool ((bits .and .u32 a1 (1 : Int)) != (0 : Int)))), .one (.err none)] : Tm) = alu_Taken.R r ∧ ([] : List Box) = [])))) ∧ ((a0 == (22 : Int)) = false → (U) ∧ (((a0 == (23 : Int)) = true → (U ∧ (U) ∧ (U) ∧ (U ∧ ((U) ∧ (U) ∧ (.tup [.one (.sc (.bool ((bits .and .u32 a1 (1 : Int)) == (0 : Int)))), .one (.err none)] : Tm) = alu_Taken.R r ∧ ([] : List Box) = [])))) ∧ ((a0 == (23 : Int)) = false → (U) ∧ (((a0 == (24 : Int)) = true → (U ∧ (U ∧ ((U) ∧ (U) ∧ (.tup [.one (.sc (.bool (!(((bits .and .u32 a1 (2 : Int)) != (0 : Int)) == ((bits .and .u32 a1 (8 : Int)) != (0 : Int)))))), .one (.err none)] : Tm) = alu_Taken.R r ∧ ([] : List Box) = [])))) ∧ ((a0 == (24 : Int)) = false → (U) ∧ (((a0 == (25 : Int)) = true → (U ∧ (U ∧ ((U) ∧ (U) ∧ (.tup [.one (.sc (.bool (!(!(((bits .and .u32 a1 (2 : Int)) != (0 : Int)) == ((bits .and .u32 a1 (8 : Int)) != (0 : Int))))))), .one (.err none)] : Tm) = alu_Taken.R r ∧ ([] : List Box) = [])))) ∧ ((a0 == (25 : Int)) = false → (U) ∧ (((a0 == (26 : Int)) = true → (U ∧ (U) ∧ (U) ∧ (U ∧ ((U) ∧ (U) ∧ (.tup [.one (.sc (.bool ((bits .and .u32 a1 (4 : Int)) != (0 : Int)))), .one (.err none)] : Tm) = alu_Taken.R r ∧ ([] : List Box) = [])))) ∧ ((a0 == (26 : Int)) = false → (U ∧ (U ∧ (U ∧ ((U) ∧ (U) ∧ (.tup [.one (.sc (.bool false)), .one (.err (some (22 : Int)))] : Tm) = alu_Taken.R r ∧ ([] : List Box) = []))))))))))))))))) (by kernel_rfl) ?_)
  refine ⟨T, T, T, T, T, T, ?_⟩
  refine ⟨fun b1 => ?_, fun b1 => ?_⟩
  · rw [if_pos (beq_t b1)] at h
    refine ⟨T, T, ?_⟩
    obtain rfl := oi h
    exact ⟨T, T, rfl, rfl⟩
  · rw [if_neg (beq_f b1)] at h
    refine tI ?_
    refine ⟨fun b2 => ?_, fun b2 => ?_⟩
    · rw [if_pos (beq_t b2)] at h
      refine ⟨T, T, T, T, ?_⟩
      obtain rfl := oi h
      exact ⟨T, T, rfl, rfl⟩
    · rw [if_neg (beq_f b2)] at h
      refine tI ?_
      refine ⟨fun b3 => ?_, fun b3 => ?_⟩
      · rw [if_pos (beq_t b3)] at h
        refine ⟨T, T, T, T, ?_⟩
        obtain rfl := oi h
        exact ⟨T, T, rfl, rfl⟩
      · rw [if_neg (beq_f b3)] at h
        refine tI ?_
        refine ⟨fun b4 => ?_, fun b4 => ?_⟩
        · rw [if_pos (beq_t b4)] at h
          refine ⟨T, T, ?_⟩
          obtain rfl := oi h
          exact ⟨T, T, rfl, rfl⟩
        · rw [if_neg (beq_f b4)] at h
          refine tI ?_
          refine ⟨fun b5 => ?_, fun b5 => ?_⟩
          · rw [if_pos (beq_t b5)] at h
            refine ⟨T, T, ?_⟩
            obtain rfl := oi h
            exact ⟨T, T, rfl, rfl⟩
          · rw [if_neg (beq_f b5)] at h
            refine tI ?_
            refine ⟨fun b6 => ?_, fun b6 => ?_⟩
            · rw [if_pos (beq_t b6)] at h
              refine ⟨T, T, T, T, ?_⟩
              obtain rfl := oi h
              exact ⟨T, T, rfl, rfl⟩
            · rw [if_neg (beq_f b6)] at h
              refine ⟨T, T, T, ?_⟩
              obtain rfl := oi h
              exact ⟨T, T, rfl, rfl⟩
def cm_leap.c0 (a0 : (List Int)) (a1 : Int) (a2 : Int) (a3 : (List Int)) (a4 : Int) (a5 : Int) (a6 : Int) (a7 : Int) (a8 : Int) (a9 : Int) : Box := .ex false [.c (.ip 29 1), .row 16 (.int .u32) a0, .c (.sc (.int .u32 a1)), .c (.sc (.int .u32 a2)), .row 4 (.int .u64) a3, .c (.sc (.int .i64 a4)), .c (.sc (.int .i64 a5)), .c (.sc (.int .i64 a6)), .c (.sc (.int .i64 a7)), .c (.sc (.int .u32 a8)), .c (.sc (.int .i64 a9))] 62
def cm_leap.f (a0 : (List Int)) (a1 : Int) (a2 : Int) (a3 : (List Int)) (a4 : Int) (a5 : Int) (a6 : Int) (a7 : Int) (a8 : Int) (a9 : Int) (a10 : Int) (a11 : Int) (a12 : (List Int)) : Option (((List Int) × Int) ⊕ (Int × Int)) :=
  if a4 = (27 : Int) then
    (cm_jump.f (List.set a0 14 a1) a1 a2 a3 a4 a5 a6 a7 a8 a9 a10 a11 a12).bind fun t2 =>
    some (.inl ((List.set a0 14 a1), t2))
  else
    if a4 = (28 : Int) then
      if 0 ≤ a5 ∧ a5 < ((16 : Nat) : Int) then
        if (Int.toNat a5) < 16 then
          some (.inl (a0, (List.getD a0 (Int.toNat a5) (0 : Int))))
        else none
      else none
    else
      (alu_Taken.f a4 a2).bind fun t6 =>
      if ¬ (t6.2 = none) then
        (cpu_fail.f (4 : Int) a8).bind fun t8 =>
        some (.inr (t8.1, t8.2))
      else
        if t6.1 = true then
          (cm_jump.f a0 a1 a2 a3 a4 a5 a6 a7 a8 a9 a10 a11 a12).bind fun t10 =>
          some (.inl (a0, t10))
        else
          some (.inl (a0, a1))
def cm_leap.R : ((List Int) × Int) ⊕ (Int × Int) → Tm
  | .inl r => .tup []
  | .inr r => .v (.one (.sc (.iface 64 (.agg #[.int .i64 r.1, .int .u32 r.2]))))
def cm_leap.B (a0 : (List Int)) (a1 : Int) (a2 : Int) (a3 : (List Int)) (a4 : Int) (a5 : Int) (a6 : Int) (a7 : Int) (a8 : Int) (a9 : Int) (a10 : Int) (a11 : Int) (a12 : (List Int)) : ((List Int) × Int) ⊕ (Int × Int) → List Box
  | .inl r => [.ex false [.c (.ip 29 1), .row 16 (.int .u32) r.1, .c (.sc (.int .u32 r.2)), .c (.sc (.int .u32 a2)), .row 4 (.int .u64) a3, .c (.sc (.int .i64 a4)), .c (.sc (.int .i64 a5)), .c (.sc (.int .i64 a6)), .c (.sc (.int .i64 a7)), .c (.sc (.int .u32 a8)), .c (.sc (.int .i64 a9))] 62, .ex false [.c (.os 2 0 0 1 (List.length a12) none), .c (.sc (.int .i64 a10)), .c (.sc (.int .i64 a11))] 33, .fix false (.int .u8) a12 5]
  | .inr r => (kB0 a0 a1 a2 a3 a4 a5 a6 a7 a8 a9 a12 a10 a11)
def cm_leap.P : ((List Int) × Int) ⊕ (Int × Int) → Bool
  | .inl _ => false
  | .inr _ => true
theorem cm_leap.P_ : ∀ r : ((List Int) × Int) ⊕ (Int × Int), cm_leap.P r = true → ∃ t p, cm_leap.R r = .v (.one (.sc (.iface t p)))
  | .inl _, h => by cases h
  | .inr _, h => ⟨_, _, rfl⟩
end Go.Proofs.YtllannmegnklmaaGCpuFails
