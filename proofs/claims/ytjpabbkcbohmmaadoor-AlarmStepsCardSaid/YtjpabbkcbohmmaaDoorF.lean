/- slices.Insert of one element, proved by hand. -/
import Derived.Test.YtjpabbkcbohmmaaDoorProg
import Derived.Test.YtjpabbkcbohmmaaDoorE16
import Derived.WalkKit
import Derived.Deep.RegionLaw
import Derived.Laws.Externs
import Derived.Laws.IdiomCopy
import Derived.Laws.NewBlocks
import Derived.Lib.AppendZerosOnto
set_option linter.unusedVariables false
set_option linter.unusedSimpArgs false
set_option linter.unnecessarySimpa false
namespace Go.Proofs.YtjpabbkcbohmmaaDoorF
open Go Go.RowKit Go.Proofs.YtjpabbkcbohmmaaDoorE

theorem wp_copyI {P : Program} (w : World) {o : Oper} {a : Act} {K : Act → World → Prop} {Q : Exit → Act → World → Prop} (d s : Operand) (t t' : TypeId)
    (ho : o.op = .call { callee := .builtin .copy, args := #[d, s], argTypes := #[t, t'] }) (v u : Value) (hd : a.eval d = v) (hs : a.eval s = u) {v' : Value} {w' : World}
    (hr : (Builtin.copy_ #[t, t'] o.type #[v, u]).run P w = .ok v' w') (h : K (a.put o.dst v') w') : o.wp P a w K Q := by
  unfold Oper.wp execOp
  simp only [ho, resolve, invoke, builtin, Sem.run_bind, Sem.run_pure, Result.andThen_ok, List.map_toArray, List.map_cons, List.map_nil, hd, hs, hr]
  exact h

theorem wpList_copyI {P : Program} (w : World) {ops : Array Oper} {rest : List Oper} {o : Oper} {a : Act} {Q : Exit → Act → World → Prop} (hgd : o.guard = none) (d s : Operand) (t t' : TypeId)
    (ho : o.op = .call { callee := .builtin .copy, args := #[d, s], argTypes := #[t, t'] }) (v u : Value) (hd : a.eval d = v) (hs : a.eval s = u) {v' : Value} {w' : World}
    (hr : (Builtin.copy_ #[t, t'] o.type #[v, u]).run P w = .ok v' w') (h : wpList P ops Q rest (a.put o.dst v') w') : wpList P ops Q (o :: rest) a w :=
  wpList_plain hgd fun _ hK => wp_copyI w d s t t' ho v u hd hs hr (hK _ _ h)

theorem step_copyI {P : Program} {ops : Array Oper} {o : Oper} {a : Act} {w : World} {K : Act → World → Prop} {Q : Exit → Act → World → Prop} {E : Prop}
    (hg : o.guard = none) (d x : Operand) (dT sT : TypeId) (hop : o.op = Op.call { callee := Callee.builtin Builtin.copy, args := #[d, x], argTypes := #[dT, sT] })
    (v u : Value) (hd : a.eval d = v) (hx : a.eval x = u) {v' : Value} {w' : World} (hr : (Builtin.copy_ #[dT, sT] o.type #[v, u]).run P w = .ok v' w') (hK : K (a.put o.dst v') w') :
    if Region.wanted o (yielded ops a.tmps) = true then Oper.wp P o a w K Q else E := by
  have hw : Region.wanted o (yielded ops a.tmps) = true := by simp [Region.wanted, hg]
  rw [if_pos hw]
  exact wp_copyI w d x dT sT hop v u hd hx hr hK

/-- Copying a row of cells into a row. -/
theorem copyR {P : Program} (w : World) (dT sT ty elem : TypeId) (k : Nat) (g o dLen dCap : Nat) (a : Addr) (sLen sCap : Nat) (cs c1 c2 c3 : List Value) (t : TypeId) (fr : Nat × Nat)
    (hu : P.underlying dT = some (.slice elem)) (hs : (P.info? elem).map (·.size) = some k) (hn : cs.length = Nat.min sLen dLen * k)
    (hg : w.heap[g]? = some (.cells (c1 ++ (c2 ++ c3)).toArray t fr)) (hth : thaw fr (c1 ++ (c2 ++ c3)).length) (ho : c1.length = o) (hl : cs.length = c2.length)
    (hsrc : ∀ j v, cs[j]? = some v → w.cell? (a.add j) = some v) (h1 : ∀ v ∈ cs, v.oneCell' = true) :
    (Builtin.copy_ #[dT, sT] ty #[.slice (some ⟨g, o, none⟩) dLen dCap, .slice (some a) sLen sCap]).run P w = .ok (goInt (Nat.min sLen dLen)) (w.setRow g (c1 ++ (cs ++ c3)).toArray) := by
  have hl2 := run_loadCells_list (P := P) w a cs hsrc
  have hst := run_storeCells_list P hg hth ho hl h1
  cases hq : P.info? elem with
  | none => simp [hq] at hs
  | some i =>
    have hi : i.size = k := by simpa [hq] using hs
    simp [Builtin.copy_, run_underlying hu, Builtin.lenOf, Builtin.firstCells, sizeOf, typeInfo, hq, hi, ← hn, hl2, hst]

theorem overlaps_no {P : Program} (w : World) (tS tR e : TypeId) (ht : P.underlying tS = some (.slice e)) (size : Nat) (hz : ∀ w, (Go.sizeOf e).run P w = .ok size w)
    (a b : Addr) (la ca lb cb : Nat) (hne : a.block ≠ b.block) (tA tB : TypeId) (kA kB : Nat)
    (hsa : w.shape? a.block = some (tA, kA)) (hsb : w.shape? b.block = some (tB, kB)) (hkA : kA ≠ 0)
    (hfb : w.frozen? b = false) (hfe : w.frozen? { block := b.block, off := kB } = false) :
    (Extern.SlicesOverlaps.overlaps #[tS, tS] #[tR] #[.slice (some a) la ca, .slice (some b) lb cb]).run P w = .ok (.bool false) w := by
  have hnb : (a.block != b.block) = true := by simpa using hne
  have hnb' : (a.block == b.block) = false := by simpa using hne
  change Sem.run P (α := Value) (do
    let some t := (#[tS, tS] : Array TypeId)[0]? | stuck "slices.overlaps: no parameter types"
    let .slice elem ← underlying t | stuck "slices.overlaps: slice type expected"
    let size ← sizeOf elem
    match (some a : Option Addr), (some b : Option Addr) with
    | some a, some b =>
      if la = 0 ∨ lb = 0 ∨ size = 0 then pure (Value.bool false)
      else if a.block != b.block && (← frozen a) && (← frozen b) then unsupported .addressObserved
      else do
        if a.block != b.block then do
          noView a; noView b
          if ← mayBeOne a b then return Value.bool ((← choose (.extern "sameAddr.stringBytes" 2)) == 1)
        pure (Value.bool (a.block == b.block && a.off < b.off + lb * size && b.off < a.off + la * size))
    | _, _ => pure (Value.bool false)) w = _
  by_cases h0 : la = 0 ∨ lb = 0 ∨ size = 0
  · simp [run_underlying ht, hz, h0]
  · cases kA with
    | zero => exact absurd rfl hkA
    | succ kA =>
      cases hfa : w.frozen? a <;> cases hfa2 : w.frozen? { block := a.block, off := kA + 1 } <;>
      simp [run_underlying ht, hz, h0, hnb, hnb', frozen, noView, viewAt, mayBeOne, stringish, shape, Sem.run, hsa, hsb, hfb, hfe, hfa, hfa2]

set_option maxHeartbeats 4000000 in
set_option maxRecDepth 100000 in
/-- There is room, and something stands behind the place. -/
theorem ins_shift (b n c i vc : Nat) (p : Addr) (A B D R X : List Value) (w : World) (ty : TypeId) (fr : Nat × Nat)
    (hi : i < n) (hbig : (n + 1) * 16 ≤ 140737488355328) (hroom : n + 1 ≤ c) (hvb : p.block ≠ b) (hps : p.spot = none)
    (hA : A.length = i * 2) (hB : B.length = (n - i) * 2) (hD : D.length = 2) (hX : X.length = 2)
    (hg : w.heap[b]? = some (.cells (A ++ (B ++ (D ++ R))).toArray ty fr)) (hth : thaw fr (A ++ (B ++ (D ++ R))).length) (hfr : fr.1 = fr.2)
    (hx : ∀ j v, X[j]? = some v → w.cell? (p.add j) = some v) (h1 : ∀ v ∈ A ++ (B ++ (D ++ R)), v.oneCell' = true) (h1x : ∀ v ∈ X, v.oneCell' = true) :
    Calls Tryd.prog 22 #[.slice (some ⟨b, 0, none⟩) n c, .int .i64 i, .slice (some p) 1 vc] w fun e w' =>
      e = .returned (.slice (some ⟨b, 0, none⟩) (n + 1) c) ∧ w' = w.drew.setRow b (A ++ (X ++ (B ++ R))).toArray := by
  have hsz : (Tryd.prog.info? 45).map (·.size) = some 2 := by kernel_rfl
  have hz2 : ¬ ((i : Int) = (n : Int)) := by omega
  obtain ⟨x0, x1, rfl⟩ : ∃ x0 x1, X = [x0, x1] := by
    match X, hX with
    | [x0, x1], _ => exact ⟨x0, x1, rfl⟩
  have hp0 : w.cell? p = some x0 := by have := hx 0 x0 rfl; rwa [show p.add 0 = p by cases p; subst hps; rfl] at this
  obtain ⟨B1, B2, rfl, hB1⟩ : ∃ B1 B2, B = B1 ++ B2 ∧ B1.length = 2 := ⟨B.take 2, B.drop 2, (List.take_append_drop ..).symm, by rw [List.length_take]; omega⟩
  have hB2 : B2.length = (n - (i + 1)) * 2 := by simp at hB; omega
  obtain ⟨pb, po, ps⟩ := p
  simp only at hps hvb
  subst hps
  have hov : ∀ lb cb, (callFunc 27 #[.slice (some ⟨pb, po, none⟩) 1 vc, .slice (some ⟨b, (i + 1) * 2, none⟩) lb cb]).run Tryd.prog w = .ok (.value (.bool false)) w := fun lb cb => by
    have hsb : w.shape? b = some (ty, (A ++ ((B1 ++ B2) ++ (D ++ R))).length) := by unfold World.shape?; rw [hg]; simp
    obtain ⟨tA, kA, hsa, hkA⟩ : ∃ tA kA, w.shape? pb = some (tA, kA) ∧ kA ≠ 0 := by
      unfold World.cell? at hp0
      unfold World.shape?
      cases hh : w.heap[pb]? with
      | none => rw [hh] at hp0; cases hp0
      | some ob =>
        rw [hh] at hp0
        cases ob with
        | cells cs t f =>
          refine ⟨t, cs.size, rfl, fun h0 => ?_⟩
          have h1 : cs = #[] := Array.eq_empty_of_size_eq_zero h0
          subst h1
          simp at hp0
        | _ => cases hp0
    have hf : ∀ k, w.frozen? ⟨b, k, none⟩ = false := fun k => by simp [World.frozen?, hg]; omega
    rw [run_callFunc_extern Tryd.func27 (by kernel_rfl) (by kernel_rfl) (by kernel_rfl) (e := Extern.SlicesOverlaps.overlaps #[25, 25] #[4]) (by kernel_rfl),
      overlaps_no w 25 4 45 Tryd.underlying25 2 Tryd.sizeOf45 ⟨pb, po, none⟩ ⟨b, (i + 1) * 2, none⟩ 1 vc lb cb hvb tA ty kA _ hsa hsb hkA (hf _) (hf _)]
    rfl
  have hdr : ∀ k : Nat, w.drew.heap[k]? = w.heap[k]? := fun k => rfl
  have hcp1 : ∀ ty2 dc sc, (Builtin.copy_ #[25, 25] ty2 #[.slice (some ⟨b, (i + 1) * 2, none⟩) (n - i) dc, .slice (some ⟨b, i * 2, none⟩) (n + 1 - i) sc]).run Tryd.prog w.drew = .ok (goInt ((n - i : Nat) : Int)) (w.drew.setRow b ((A ++ B1) ++ ((B1 ++ B2) ++ R)).toArray) := fun ty2 dc sc => by
    have h := copyR (P := Tryd.prog) w.drew 25 25 ty2 45 2 b ((i + 1) * 2) (n - i) dc ⟨b, i * 2, none⟩ (n + 1 - i) sc (B1 ++ B2) (A ++ B1) (B2 ++ D) R ty fr Tryd.underlying25 hsz
      (by rw [hB, show Nat.min (n + 1 - i) (n - i) = n - i by simp only [Nat.min_def]; split <;> omega])
      (by rw [hdr, hg]; simp [List.append_assoc]) (by rw [show ((A ++ B1) ++ ((B2 ++ D) ++ R)) = A ++ ((B1 ++ B2) ++ (D ++ R)) by simp [List.append_assoc]]; exact hth)
      (by simp; omega) (by simp; omega)
      (fun j v hj => mid_cell (w := w.drew) (by rw [hdr]; exact hg) hA j v hj)
      (fun v hv => h1 v (List.mem_append_right _ (List.mem_append_left _ hv)))
    rw [show Nat.min (n + 1 - i) (n - i) = n - i by simp only [Nat.min_def]; split <;> omega] at h
    exact h
  obtain ⟨W1, hW1⟩ : ∃ W1, W1 = w.drew.setRow b ((A ++ B1) ++ ((B1 ++ B2) ++ R)).toArray := ⟨_, rfl⟩
  have hW1h : W1.heap[b]? = some (.cells (A ++ (B1 ++ ((B1 ++ B2) ++ R))).toArray ty fr) := by
    rw [hW1, show A ++ (B1 ++ ((B1 ++ B2) ++ R)) = (A ++ B1) ++ ((B1 ++ B2) ++ R) by simp [List.append_assoc]]
    exact setRow_heap w.drew b _ _ ty fr (by rw [hdr]; exact hg)
  have hcp2 : ∀ ty2 dc, (Builtin.copy_ #[25, 25] ty2 #[.slice (some ⟨b, i * 2, none⟩) (n + 1 - i) dc, .slice (some ⟨pb, po, none⟩) 1 vc]).run Tryd.prog W1 = .ok (goInt 1) (w.drew.setRow b (A ++ ([x0, x1] ++ ((B1 ++ B2) ++ R))).toArray) := fun ty2 dc => by
    have h := copyR (P := Tryd.prog) W1 25 25 ty2 45 2 b (i * 2) (n + 1 - i) dc ⟨pb, po, none⟩ 1 vc [x0, x1] A B1 ((B1 ++ B2) ++ R) ty fr Tryd.underlying25 hsz
      (by rw [show Nat.min 1 (n + 1 - i) = 1 by simp only [Nat.min_def]; split <;> omega]; rfl)
      hW1h (by
        have e : (A ++ (B1 ++ ((B1 ++ B2) ++ R))).length = (A ++ ((B1 ++ B2) ++ (D ++ R))).length := by simp; omega
        rw [e]; exact hth)
      hA (by rw [hB1]; rfl)
      (fun j v hj => by
        have := hx j v hj
        rw [← this]
        refine cell_of_heap ?_
        rw [add_block, hW1]
        exact (setRow_other w.drew b pb _ hvb).trans (hdr pb))
      h1x
    rw [show Nat.min 1 (n + 1 - i) = 1 by simp only [Nat.min_def]; split <;> omega, hW1, setRow_setRow] at h
    rw [hW1]
    exact h
  rw [← hW1] at hcp1
  generalize hW2 : w.drew.setRow b (A ++ ([x0, x1] ++ ((B1 ++ B2) ++ R))).toArray = W2 at hcp2 ⊢
  have hw1 : IntKind.i64.wrap ((i : Int) + 1) = (i : Int) + 1 := by rw [IntKind.wrap_i64]; omega
  have hw2 : IntKind.i64.wrap ((n : Int) + 1) = (n : Int) + 1 := by rw [IntKind.wrap_i64]; omega
  have hb1 : (0 : Int) ≤ (i : Int) + 1 := by omega
  have hin : i ≤ n := by omega
  have htn : ((i : Int) + 1).toNat = i + 1 := by omega
  have htn2 : ((n : Int) + 1).toNat = n + 1 := by omega
  have hb2 : ¬ (c = i + 1) := by omega
  have hb3 : (i : Int) ≤ (n : Int) + 1 := by omega
  have hb4 : ¬ (c = i) := by omega
  have mixed : Tryd.prog.follows .mixedOrders = true := by kernel_rfl
  clear hW1 hW2 hW1h hth h1 h1x hx hA hB hD hX hB1 hB2 hg hp0
  go_enter Tryd.func22, Tryd.ntmps22
  go_wp2_with (simp only [hov])
  go_region_law (refine step_copyI rfl _ _ 25 25 rfl _ _ (by simp [Act.eval, Act.put]) (by simp [Act.eval, Act.put]) (hcp1 _ _ _) ?_)
  go_wp2_with (at_builtin; refine wpList_copyI _ rfl _ _ 25 25 rfl _ _ rfl rfl (hcp2 _ _) ?_)
  go_ret
  exact ⟨rfl, rfl⟩

set_option maxHeartbeats 4000000 in
set_option maxRecDepth 100000 in
/-- At the end: what the builtin append makes. -/
theorem ins_end (base : Option Addr) (n c vc : Nat) (p : Addr) (w w1 : World) (v1 : Value) (hbig : (n + 1) * 16 ≤ 140737488355328)
    (hr : (Builtin.append_ #[25, 25] 25 #[.slice base n c, .slice (some p) 1 vc]).run Tryd.prog w = .ok v1 w1) :
    Calls Tryd.prog 22 #[.slice base n c, .int .i64 n, .slice (some p) 1 vc] w fun e w' => e = .returned v1 ∧ w' = w1 := by
  go_enter Tryd.func22, Tryd.ntmps22
  cases base with
  | none =>
    go_wp2_with (at_builtin; refine Lib.wpList_append_run _ rfl _ _ _ _ rfl _ _ rfl rfl _ _ hr ?_)
    all_goals (go_ret; exact ⟨rfl, rfl⟩)
  | some a =>
    obtain ⟨ab, ao, asp⟩ := a
    go_wp2_with (at_builtin; refine Lib.wpList_append_run _ rfl _ _ _ _ rfl _ _ rfl rfl _ _ hr ?_)
    all_goals (go_ret; exact ⟨rfl, rfl⟩)

set_option maxHeartbeats 4000000 in
set_option maxRecDepth 100000 in
/-- There is no room, and something stands behind the place: a new row. -/
theorem ins_grow (b n c i vc : Nat) (p : Addr) (A B S X : List Value) (w : World) (ty : TypeId) (fr : Nat × Nat)
    (hi : i < n) (hbig : (n + 1) * 16 ≤ 140737488355328) (hnc : n ≤ c) (hroom : c < n + 1) (hps : p.spot = none)
    (hA : A.length = i * 2) (hB : B.length = (n - i) * 2) (hX : X.length = 2)
    (hg : w.heap[b]? = some (.cells (A ++ (B ++ S)).toArray ty fr))
    (hx : ∀ j v, X[j]? = some v → w.cell? (p.add j) = some v) (h1 : ∀ v ∈ A ++ B, v.oneCell' = true) (h1x : ∀ v ∈ X, v.oneCell' = true) :
    Calls Tryd.prog 22 #[.slice (some ⟨b, 0, none⟩) n c, .int .i64 i, .slice (some p) 1 vc] w fun e w' =>
      ∃ G Z, n + 1 ≤ G ∧ (A ++ (X ++ (B ++ Z))).length = G * 2 ∧ (∀ v ∈ Z, v.oneCell' = true) ∧ e = .returned (.slice (some ⟨w.heap.size, 0, none⟩) (n + 1) G) ∧
        w'.heap[w.heap.size]? = some (.cells (A ++ (X ++ (B ++ Z))).toArray 45 (0, 0)) ∧ w'.heap.size = w.heap.size + 1 ∧ (∀ k, k < w.heap.size → w'.heap[k]? = w.heap[k]?) ∧ w'.os = w.os ∧ w'.tape = w.tape ∧ w'.output = w.output := by
  have hsz : (Tryd.prog.info? 45).map (·.size) = some 2 := by kernel_rfl
  have hin0 : (Tryd.prog.info? 45).map (fun i => (i.zero, i.size, i.bytes)) = some (some (.agg #[.int .i64 0, .int .i64 0]), 2, 16) := by kernel_rfl
  obtain ⟨i0, hi0, hz0, hzs, hzb⟩ := info_parts hin0
  have hz2 : ¬ ((i : Int) = (n : Int)) := by omega
  have hz3 : (c : Int) < (n : Int) + 1 := by omega
  have hbw : b < w.heap.size := (Array.getElem?_eq_some_iff.1 hg).1
  have hdr : ∀ k : Nat, w.drew.heap[k]? = w.heap[k]? := fun k => rfl
  have hold : (Builtin.firstCells i0.size i (.slice (some ⟨b, 0, none⟩) i c)).run Tryd.prog w.drew = .ok A.toArray w.drew := by
    rw [hzs]
    exact run_firstCells_some w.drew 2 i ⟨b, 0, none⟩ i c A (by rw [hA]) (fun j v hj => mid_cell (w := w.drew) (c1 := []) (by rw [hdr, List.nil_append]; exact hg) rfl j v hj)
  have hik : i + (n + 1 - i) = n + 1 := by omega
  have hkk : (n : Int) + 1 - (i : Int) = ((n + 1 - i : Nat) : Int) := by omega
  have hrz := fun ty2 => Lib.run_append_grow_zeros w 25 3 ty2 45 i0 _ .i64 .i64 Tryd.underlying25 Tryd.underlying3 hi0 hz0 (some ⟨b, 0, none⟩) i c A hold (n + 1 - i) (by omega) (by omega) (by omega) (by omega) (by rw [hzb]; omega) (by rw [hzb, hik]; exact growslice_fits hroom hbig)
  rw [hik] at hrz
  obtain ⟨G, hG⟩ : ∃ G, G = grownCap w (n + 1) c 45 := ⟨_, rfl⟩
  rw [← hG] at hrz
  have hGn : n + 1 ≤ G := by rw [hG]; exact grownCap_ge w _ _ _
  have hG63 : G ≤ 9223372036854775807 := by
    have := grownCap_le_maxLen w (n + 1) c 45 (by unfold maxLen; omega)
    rw [← hG] at this
    unfold maxLen at this
    omega
  obtain ⟨z, hz⟩ : ∃ z : List Value, z = [.int .i64 0, .int .i64 0] := ⟨_, rfl⟩
  have hzc : ∀ k, (Builtin.zeroCells (Value.agg #[.int .i64 0, .int .i64 0]).cells k).toList = (List.replicate k z).flatten := fun k => by
    have e : Builtin.zeroCells (Value.agg #[.int .i64 0, .int .i64 0]).cells k = madeCells z.toArray (k * z.length) := by
      rw [hz]; unfold Builtin.zeroCells madeCells; rfl
    rw [e, madeCells_flat]
  have hrow : A.toArray ++ Builtin.zeroCells (Value.agg #[.int .i64 0, .int .i64 0]).cells (n + 1 - i) ++ Builtin.zeroCells (Value.agg #[.int .i64 0, .int .i64 0]).cells (G - (n + 1)) =
      (A ++ (z ++ ((List.replicate (n - i) z).flatten ++ (List.replicate (G - (n + 1)) z).flatten))).toArray := by
    apply Array.ext'
    rw [Array.toList_append, Array.toList_append, hzc, hzc, show n + 1 - i = (n - i) + 1 by omega, List.replicate_succ, List.flatten_cons]
    simp [List.append_assoc]
  rw [hrow] at hrz
  generalize hY : (List.replicate (n - i) z).flatten = Y at hrz
  generalize hZ : (List.replicate (G - (n + 1)) z).flatten = Z at hrz
  have hzl : z.length = 2 := by rw [hz]; rfl
  have hYl : Y.length = (n - i) * 2 := by rw [← hY, List.length_flatten]; simp [hzl]
  have hZl : Z.length = (G - (n + 1)) * 2 := by rw [← hZ, List.length_flatten]; simp [hzl]
  have hZ1 : ∀ v ∈ Z, v.oneCell' = true := fun v hv => by
    rw [← hZ, List.mem_flatten] at hv
    obtain ⟨l, hl, hv⟩ := hv
    rw [(List.mem_replicate.1 hl).2, hz] at hv
    simp at hv
    subst hv
    rfl
  obtain ⟨W1, hW1⟩ : ∃ W1, W1 = w.drew.alloc (.cells (A ++ (z ++ (Y ++ Z))).toArray 45) := ⟨_, rfl⟩
  rw [← hW1] at hrz
  have hs1 : W1.heap = w.heap.push (.cells (A ++ (z ++ (Y ++ Z))).toArray 45 (0, 0)) := by rw [hW1]; rfl
  have h1N : W1.heap[w.heap.size]? = some (.cells (A ++ (z ++ (Y ++ Z))).toArray 45 (0, 0)) := by rw [hs1]; simp
  have h1o : ∀ k, k < w.heap.size → W1.heap[k]? = w.heap[k]? := fun k hk => by rw [hs1, Array.getElem?_push, if_neg (by omega)]
  have hxw : p.block < w.heap.size := by
    have h0 := hx 0 X[0] (List.getElem?_eq_getElem (by omega))
    rw [show p.add 0 = p by cases p; simp only at hps; subst hps; rfl] at h0
    unfold World.cell? at h0
    cases hh : w.heap[p.block]? with
    | none => rw [hh] at h0; cases h0
    | some ob => exact (Array.getElem?_eq_some_iff.1 hh).1
  obtain ⟨pb, po, ps⟩ := p
  simp only at hps hxw
  subst hps
  have hth0 : ∀ m, thaw (0, 0) m := fun m => ⟨Nat.le_refl _, fun o _ ho => by omega, fun _ => rfl⟩
  have hcp1 : ∀ ty2 dc, (Builtin.copy_ #[25, 25] ty2 #[.slice (some ⟨w.heap.size, i * 2, none⟩) (n + 1 - i) dc, .slice (some ⟨pb, po, none⟩) 1 vc]).run Tryd.prog W1 = .ok (goInt 1) (W1.setRow w.heap.size (A ++ (X ++ (Y ++ Z))).toArray) := fun ty2 dc => by
    have h := copyR (P := Tryd.prog) W1 25 25 ty2 45 2 w.heap.size (i * 2) (n + 1 - i) dc ⟨pb, po, none⟩ 1 vc X A z (Y ++ Z) 45 (0, 0) Tryd.underlying25 hsz
      (by rw [show Nat.min 1 (n + 1 - i) = 1 by simp only [Nat.min_def]; split <;> omega, hX]) h1N (hth0 _) hA (by rw [hX, hzl])
      (fun j v hj => by
        rw [← hx j v hj]
        refine cell_of_heap ?_
        rw [add_block]
        exact h1o pb hxw) h1x
    rw [show Nat.min 1 (n + 1 - i) = 1 by simp only [Nat.min_def]; split <;> omega] at h
    exact h
  obtain ⟨W2, hW2⟩ : ∃ W2, W2 = W1.setRow w.heap.size (A ++ (X ++ (Y ++ Z))).toArray := ⟨_, rfl⟩
  rw [← hW2] at hcp1
  have h2N : W2.heap[w.heap.size]? = some (.cells (A ++ (X ++ (Y ++ Z))).toArray 45 (0, 0)) := by rw [hW2]; exact setRow_heap W1 _ _ _ 45 (0, 0) h1N
  have h2o : ∀ k, k < w.heap.size → W2.heap[k]? = w.heap[k]? := fun k hk => by rw [hW2]; exact (setRow_other W1 w.heap.size k _ (by omega)).trans (h1o k hk)
  have hdr2 : ∀ k : Nat, W2.drew.heap[k]? = W2.heap[k]? := fun k => rfl
  have hcp2 : ∀ ty2 dc sc, (Builtin.copy_ #[25, 25] ty2 #[.slice (some ⟨w.heap.size, (i + 1) * 2, none⟩) (n - i) dc, .slice (some ⟨b, i * 2, none⟩) (n - i) sc]).run Tryd.prog W2.drew = .ok (goInt ((n - i : Nat) : Int)) (W2.drew.setRow w.heap.size (A ++ (X ++ (B ++ Z))).toArray) := fun ty2 dc sc => by
    have h := copyR (P := Tryd.prog) W2.drew 25 25 ty2 45 2 w.heap.size ((i + 1) * 2) (n - i) dc ⟨b, i * 2, none⟩ (n - i) sc B (A ++ X) Y Z 45 (0, 0) Tryd.underlying25 hsz
      (by rw [hB, show Nat.min (n - i) (n - i) = n - i by simp]) (by rw [hdr2, h2N]; simp [List.append_assoc]) (hth0 _) (by simp; omega) (by rw [hB, hYl])
      (fun j v hj => mid_cell (w := W2.drew) (by rw [hdr2, h2o b hbw]; exact hg) hA j v hj)
      (fun v hv => h1 v (List.mem_append_right _ hv))
    rw [show Nat.min (n - i) (n - i) = n - i by simp, List.append_assoc] at h
    exact h
  obtain ⟨W3, hW3⟩ : ∃ W3, W3 = W2.drew.setRow w.heap.size (A ++ (X ++ (B ++ Z))).toArray := ⟨_, rfl⟩
  rw [← hW3] at hcp2
  have h3N : W3.heap[w.heap.size]? = some (.cells (A ++ (X ++ (B ++ Z))).toArray 45 (0, 0)) := by rw [hW3]; exact setRow_heap W2.drew _ _ _ 45 (0, 0) (by rw [hdr2]; exact h2N)
  have h3o : ∀ k, k < w.heap.size → W3.heap[k]? = w.heap[k]? := fun k hk => by rw [hW3]; exact (setRow_other W2.drew w.heap.size k _ (by omega)).trans (h2o k hk)
  have h3s : W3.heap.size = w.heap.size + 1 := by
    rw [hW3, setRow_size, show W2.drew.heap.size = W2.heap.size from rfl, hW2, setRow_size, hs1]; simp
  have h3e : W3.os = w.os ∧ W3.tape = w.tape ∧ W3.output = w.output := by rw [hW3, hW2, hW1]; exact ⟨rfl, rfl, rfl⟩
  have hlen : (A ++ (X ++ (B ++ Z))).length = G * 2 := by simp only [List.length_append]; omega
  refine Calls.mono (R := fun e w' => e = .returned (.slice (some ⟨w.heap.size, 0, none⟩) (n + 1) G) ∧ w' = W3) ?_ (by
    rintro e w' ⟨rfl, rfl⟩
    exact ⟨G, Z, hGn, hlen, hZ1, rfl, h3N, h3s, h3o, h3e⟩)
  have hw1 : IntKind.i64.wrap ((i : Int) + 1) = (i : Int) + 1 := by rw [IntKind.wrap_i64]; omega
  have hw2 : IntKind.i64.wrap ((n : Int) + 1) = (n : Int) + 1 := by rw [IntKind.wrap_i64]; omega
  have hw3 : IntKind.i64.wrap ((n : Int) + 1 - (i : Int)) = ((n + 1 - i : Nat) : Int) := by rw [IntKind.wrap_i64]; omega
  have hb1 : (0 : Int) ≤ (i : Int) + 1 := by omega
  have hin : i ≤ n := by omega
  have htn : ((i : Int) + 1).toNat = i + 1 := by omega
  have htn2 : ((n : Int) + 1).toNat = n + 1 := by omega
  have hb3 : (i : Int) ≤ (n : Int) + 1 := by omega
  have hb4 : ¬ (c = i) := by omega
  have hb5 : (i : Int) ≤ (n : Int) := by omega
  have hGi : ¬ (G = i) := by omega
  have hGim : ¬ (G = i + 1) := by omega
  have mixed : Tryd.prog.follows .mixedOrders = true := by kernel_rfl
  clear hW1 hW2 hW3 h1N h2N h3N h1o h2o h3o h3s h3e hs1 hlen hg hx h1 h1x hrow hzc hY hZ hZ1 hZl hYl hth0 hA hB hX hold hik hdr hdr2 hG
  go_enter Tryd.func22, Tryd.ntmps22
  go_wp2_with (first
    | (at_builtin; refine Lib.wpList_append_run _ rfl _ _ _ _ rfl _ _ rfl rfl _ _ (hrz _) ?_)
    | (at_builtin; refine wpList_copyI _ rfl _ _ 25 25 rfl _ _ rfl rfl (hcp1 _ _) ?_))
  go_region_law (refine step_copyI rfl _ _ 25 25 rfl _ _ (by simp [Act.eval, Act.put]) (by simp [Act.eval, Act.put]) (hcp2 _ _ _) ?_)
  go_wp2
  go_ret
  exact ⟨rfl, rfl⟩

def tt : Ty := .pair (.int .i64) (.int .i64)

set_option maxHeartbeats 4000000 in
/-- slices.Insert of one element. -/
theorem ins_fun {C : Cfg} (hP : C.P = Tryd.prog) (hC : COk C) {l l2 : List tt.T} {x : tt.T} {i : Nat} (hi : i ≤ l.length) (hbig : (l.length + 1) * 16 ≤ 140737488355328) (hl2 : l2 = l.take i ++ (x :: l.drop i)) {φ : Prop}
    (hA : lAppend C.E C.L [.v (.one (.os 0 0 0 2 l.length none)), .v (.one (.fs tt [x] false))] [.gro false tt l 45] false 25 25 (.tmp 0) (.tmp 1) = some ⟨φ, .v (.one (.os 0 0 0 2 (l ++ [x]).length none)), [.any, .v (.one (.fs tt [x] false))], [.gro false tt (l ++ [x]) 45]⟩) (hφ : φ) :
    Fun C 22 [.one (.os 0 0 0 2 l.length none), .one (.sc (.int .i64 (i : Int))), .one (.fs tt [x] false)] [.gro false tt l 45] (.v (.one (.os 0 0 0 2 l2.length none))) [.gro false tt l2 45] := by
  intro Z β w vs hB hvs
  obtain ⟨v0, us0, rfl, hv0, v1, us1, rfl, hv1, v2, us2, rfl, hv2, rfl⟩ := hvs
  have hsize : tt.size = 2 := rfl
  refine .inr ⟨?_, ?_⟩
  · unfold callFunc
    rw [Sem.run_bind]
    show ((match C.P.funcs[22]? with | none => _ | some fn => _) : Sem Next).run C.P w = _
    rw [hP, Tryd.func22]
    rfl
  obtain rfl : v1 = .int .i64 (i : Int) := hv1.1.1
  have hv0' := hv0
  have hv2' := hv2
  obtain ⟨⟨hid, hrep⟩, hone0⟩ := hv0
  obtain ⟨a, c, rfl, hlc, _, hc⟩ := hrep rfl
  obtain ⟨⟨⟨a2, n2, c2, ev2, hn2, hc2, hr2⟩, _⟩, _⟩ := hv2
  obtain rfl : v2 = .slice a2 n2 c2 := by simpa using ev2
  obtain rfl : 1 = n2 := hn2
  obtain ⟨p, X, rfl, hrX, hps, hpZ, hpc⟩ := hr2 (by omega)
  have hXl : X.length = 2 := by rw [rowOf_length (fun x ds => repT_length _ tt x ds) _ X hrX]; rfl
  have hX1 := rowOf_one [x] X hrX
  rw [hP]
  by_cases hin : i = l.length
  · -- at the end
    subst hin
    have hl : l2 = l ++ [x] := by rw [hl2]; simp
    rw [hl]
    obtain ⟨n, v, w', β', h1, h2, h3, h4, h5, h6⟩ := lAppend_run (C := C) (m := 1) (bs := [.gro false tt l 45]) (ty := 25) (a := ⟨#[.slice a l.length c, .slice (some p) 1 c2], []⟩) hC (Nat.le_refl 1) hB (env := [.v (.one (.os 0 0 0 2 l.length none)), .v (.one (.fs tt [x] false))])
      ⟨rfl, fun k v tm h1 h2 => by
        match k with
        | 0 => simp at h1 h2; subst h1; subst h2; exact hv0'
        | 1 => simp at h1 h2; subst h1; subst h2; exact hv2'
        | k + 2 => simp at h2⟩ hA hφ
    have hr : (Builtin.append_ #[25, 25] 25 #[.slice a l.length c, .slice (some p) 1 c2]).run Tryd.prog w = .ok v w' := by
      rw [Sem.run_bind, hP] at h1
      simp only [Act.eval, List.getElem?_toArray, Array.getD_eq_getD_getElem?, List.getElem?_cons_zero, List.getElem?_cons_succ, Option.getD_some] at h1
      generalize (Builtin.append_ #[25, 25] 25 #[.slice a l.length c, .slice (some p) 1 c2]).run Tryd.prog w = res at h1
      cases res with
      | ok u w1 =>
        simp only [Result.andThen_ok, Sem.run_pure] at h1
        cases h1
        rcases h2 with h2 | ⟨h2, _⟩
        · cases h2; rfl
        · cases h2
      | _ => simp [Result.andThen] at h1
    exact (ins_end a l.length c c2 p w w' v hbig hr).mono (by
      rintro e w2 ⟨rfl, rfl⟩
      exact ⟨v, rfl, Z, β', h5, h3, h6⟩)
  · have hil : i < l.length := by omega
    obtain ⟨b, z, hb, rfl, hroom⟩ := hc (by omega)
    have hb : β 0 = some (b, z) := hb
    simp only [Nat.zero_mul, Nat.add_zero, Nat.zero_add] at hroom
    have hbox := hB.box 0 _ rfl
    rcases hbox with ⟨h2, _⟩ | ⟨b', cs, fr, c1, c3, h2, h3, h4, h5, h6, h7⟩
    · have h2 : β 0 = none := h2
      rw [hb] at h2; cases h2
    · have h2 : β 0 = some (b', cs.length) := h2
      rw [hb] at h2
      cases h2
      have h3 : w.heap[b]? = some (.cells cs.toArray 45 fr) := h3
      rw [← List.take_append_drop i l] at h6
      obtain ⟨A, B, rfl, hrA, hrB⟩ := rowOf_append.1 h6
      have hAl : A.length = i * 2 := by rw [rowOf_length (fun x ds => repT_length _ tt x ds) _ A hrA, hsize, List.length_take, Nat.min_eq_left hi]
      have hBl : B.length = (l.length - i) * 2 := by rw [rowOf_length (fun x ds => repT_length _ tt x ds) _ B hrB, hsize, List.length_drop]
      have hlen2 : l2.length = l.length + 1 := by rw [hl2]; simp; omega
      have hX0 : bRw [Box.gro false tt l 45] 0 = true := rfl
      have hpb : p.block ≠ b := fun e => hB.zrw p.block hpZ 0 _ hX0 (by rw [e]; exact hb)
      have hcl : cs.length = A.length + B.length + c3.length := by rw [h5]; simp; omega
      by_cases hfit : l.length + 1 ≤ c
      · obtain ⟨D, R, rfl, hDl⟩ : ∃ D R, c3 = D ++ R ∧ D.length = 2 := ⟨c3.take 2, c3.drop 2, (List.take_append_drop ..).symm, by rw [List.length_take]; omega⟩
        subst h5
        have hg : w.heap[b]? = some (.cells (A ++ (B ++ (D ++ R))).toArray 45 fr) := by rw [h3]; simp [List.append_assoc]
        have hle : ((A ++ B) ++ (D ++ R)).length = (A ++ (B ++ (D ++ R))).length := by rw [List.append_assoc]
        refine (ins_shift b l.length c i c2 p A B D R X w 45 fr hil hbig hfit hpb hps hAl hBl hDl hXl hg (by rw [← hle]; exact h4) (h4.2.2 rfl) hpc (fun v hv => h7 v (by rw [List.append_assoc]; exact hv)) hX1).mono ?_
        rintro e w' ⟨rfl, rfl⟩
        generalize hw' : w.drew.setRow b (A ++ (X ++ (B ++ R))).toArray = w'
        have hself : w'.heap[b]? = some (.cells (A ++ (X ++ (B ++ R))).toArray 45 fr) := by rw [← hw']; exact setRow_heap w.drew b _ _ 45 fr hg
        have hoth : ∀ k, k ≠ b → w'.heap[k]? = w.heap[k]? := fun k hk => by rw [← hw']; exact setRow_other w.drew b k _ hk
        have hsz : w'.heap.size = w.heap.size := by rw [← hw']; exact setRow_size w.drew b _
        have hlen : (A ++ (X ++ (B ++ R))).length = ((A ++ B) ++ (D ++ R)).length := by simp; omega
        have hle0 : (mkX C.E Z β w [.gro false tt l 45]).le (mkX C.E Z β w' [.gro false tt l2 45]) := ⟨rfl, fun _ h => h, fun k hk => hoth k (fun e => by subst e; exact hB.zrw k hk 0 _ hX0 hb)⟩
        obtain ⟨g1, g2, g3⟩ := hB.set (w' := w') (bx' := .gro false tt l2 45) (i := 0) rfl rfl rfl rfl hb hsz hoth (.inr ⟨b, A ++ (X ++ (B ++ R)), fr, A ++ (X ++ B), R, by rw [hlen]; exact hb, hself, by rw [hlen]; exact h4, by simp [List.append_assoc],
          by
            rw [hl2]
            refine rowOf_append.2 ⟨A, X ++ B, rfl, rowOf_mono (fun x ds => repT_le hle0 tt x ds) _ A hrA, ?_⟩
            obtain ⟨x1, x2, ex, hx1, hx2⟩ := hrX
            have hx2 : x2 = [] := hx2
            subst hx2
            rw [List.append_nil] at ex
            subst ex
            exact ⟨X, B, rfl, repT_le hle0 tt x X hx1, rowOf_mono (fun x ds => repT_le hle0 tt x ds) _ B hrB⟩, fun v hv => by
            rcases List.mem_append.1 hv with hv | hv
            · exact h7 v (by simp [hv])
            · rcases List.mem_append.1 hv with hv | hv
              · exact hX1 v hv
              · rcases List.mem_append.1 hv with hv | hv
                · exact h7 v (by simp [hv])
                · exact h7 v (by simp [hv])⟩)
        refine ⟨_, rfl, Z, β, g1, ⟨⟨Nat.zero_lt_one, fun _ => ⟨_, c, by rw [hlen2], by rw [hlen2]; exact hfit, fun k hk => (by cases hk), fun _ => ⟨b, _, hb, by simp, by simpa using hroom⟩⟩⟩, rfl⟩, ?_⟩
        exact Ext.set (i := 0) rfl rfl (fun e => by cases e) hb (by rw [← hw']; rfl) (by rw [← hw']; rfl) (by rw [← hw']; rfl) hsz hoth (fun j hj => by
          match j with
          | 0 => rfl
          | j + 1 => simp [bRw] at hj)
      · subst h5
        have hg : w.heap[b]? = some (.cells (A ++ (B ++ c3)).toArray 45 fr) := by rw [h3]; simp [List.append_assoc]
        refine (ins_grow b l.length c i c2 p A B c3 X w 45 fr hil hbig hlc (by omega) hps hAl hBl hXl hg hpc (fun v hv => h7 v (List.mem_append_left _ hv)) hX1).mono ?_
        rintro e w' ⟨G, Y, hG, hlY, hY1, rfl, hN, hs, ho, hos, htp, hou⟩
        have hle0 : (mkX C.E Z β w [.gro false tt l 45]).le (mkX C.E Z (upd β 0 (some (w.heap.size, (A ++ (X ++ (B ++ Y))).length))) w' [.gro false tt l2 45]) := ⟨rfl, fun _ h => h, fun k hk => ho k (hB.zlt k hk)⟩
        have al0 : ∀ {l : List tt.T} {j}, bAl [Box.gro false tt l 45] j = true → j = 0 := fun {l j} hj => by
          match j with
          | 0 => rfl
          | j + 1 => simp [bAl] at hj
        have rw0 : ∀ {l : List tt.T} {j}, bRw [Box.gro false tt l 45] j = true → j = 0 := fun {l j} hj => by
          match j with
          | 0 => rfl
          | j + 1 => simp [bRw] at hj
        refine ⟨_, rfl, Z, upd β 0 (some (w.heap.size, (A ++ (X ++ (B ++ Y))).length)), ⟨fun j bx hj => ?_, fun i j b n m hi hj _ _ => (al0 hi).trans (al0 hj).symm, fun k hk => by rw [hs]; have := hB.zlt k hk; omega, fun k hk j n hj e => ?_, fun j b n h1 h2 e => ?_, fun g hg => ?_⟩,
          ⟨⟨Nat.zero_lt_one, fun _ => ⟨_, G, by rw [hlen2], by rw [hlen2]; exact hG, fun k hk => (by cases hk), fun _ => ⟨w.heap.size, (A ++ (X ++ (B ++ Y))).length, upd_same β 0 _, by simp, by rw [hlY]; omega⟩⟩⟩, rfl⟩,
          ⟨hos, htp, hou, by rw [hs]; omega, fun k hk _ => ho k hk, fun _ h => h, fun j b n hj e => ?_, fun _ h => .inl h, fun j hj he => ?_, fun j hj he => ?_⟩⟩
        · match j with
          | 0 =>
            simp at hj
            subst hj
            refine .inr ⟨w.heap.size, A ++ (X ++ (B ++ Y)), (0, 0), A ++ (X ++ B), Y, upd_same β 0 _, hN, ⟨Nat.le_refl _, fun o _ ho => by omega, fun _ => rfl⟩, by simp [List.append_assoc], ?_, fun v hv => ?_⟩
            · rw [hl2]
              refine rowOf_append.2 ⟨A, X ++ B, rfl, rowOf_mono (fun x ds => repT_le hle0 tt x ds) _ A hrA, ?_⟩
              obtain ⟨x1, x2, ex, hx1, hx2⟩ := hrX
              have hx2 : x2 = [] := hx2
              subst hx2
              rw [List.append_nil] at ex
              subst ex
              exact ⟨X, B, rfl, repT_le hle0 tt x X hx1, rowOf_mono (fun x ds => repT_le hle0 tt x ds) _ B hrB⟩
            · rcases List.mem_append.1 hv with hv | hv
              · exact h7 v (by simp [hv])
              · rcases List.mem_append.1 hv with hv | hv
                · exact hX1 v hv
                · rcases List.mem_append.1 hv with hv | hv
                  · exact h7 v (by simp [hv])
                  · exact hY1 v hv
          | j + 1 => simp at hj
        · obtain rfl := rw0 hj
          rw [upd_same] at e
          have := hB.zlt k hk
          cases e
          omega
        · obtain rfl := al0 h1
          cases h2
        · obtain ⟨h1, h2⟩ := hB.glob g hg
          exact ⟨(cell_of_heap (w := w) (w' := w') (ho _ (hB.zlt _ h2))).trans h1, h2⟩
        · obtain rfl := rw0 hj
          rw [upd_same] at e
          cases e
          exact .inl (Nat.le_refl _)
        · match j with
          | 0 => cases he
          | j + 1 => simp [bEx] at he
        · match j with
          | 0 => cases he
          | j + 1 => simp [bEx] at he
/-- .. at a slice that shows the first elements of its row alone. -/
theorem ins_fun2 {C : Cfg} (hP : C.P = Tryd.prog) (hC : COk C) {L l2 : List tt.T} {x : tt.T} {i k : Nat} (hk : k ≤ L.length) (hi : i ≤ k) (hbig : (k + 1) * 16 ≤ 140737488355328) (hl2 : l2 = (L.take k).take i ++ (x :: (L.take k).drop i))
    (hA : ∀ l : List tt.T, lAppend C.E C.L [.v (.one (.os 0 0 0 2 l.length none)), .v (.one (.fs tt [x] false))] [.gro false tt l 45] false 25 25 (.tmp 0) (.tmp 1) = some ⟨True ∧ 0 = 0 ∧ l.length = l.length ∧ (l.length + 1) * 16 ≤ 140737488355328 ∧ l.length + 1 ≤ 9223372036854775807, .v (.one (.os 0 0 0 2 (l ++ [x]).length none)), [.any, .v (.one (.fs tt [x] false))], [.gro false tt (l ++ [x]) 45]⟩) :
    Fun C 22 [.one (.os 0 0 0 2 k none), .one (.sc (.int .i64 (i : Int))), .one (.fs tt [x] false)] [.gro false tt L 45] (.v (.one (.os 0 0 0 2 l2.length none))) [.gro false tt l2 45] := by
  have hlen : (L.take k).length = k := by rw [List.length_take, Nat.min_eq_left hk]
  have hF := ins_fun hP hC (l := L.take k) (x := x) (i := i) (by rw [hlen]; exact hi) (by rw [hlen]; exact hbig) hl2 (hA _) ⟨trivial, rfl, rfl, by rw [hlen]; exact hbig, by rw [hlen]; omega⟩
  rw [hlen] at hF
  have hAl : bAl [Box.gro false tt L 45] = bAl [Box.gro false tt (L.take k) 45] := funext fun j => by cases j <;> rfl
  have hRw : bRw [Box.gro false tt L 45] = bRw [Box.gro false tt (L.take k) 45] := funext fun j => by cases j <;> rfl
  have hEx : bEx [Box.gro false tt L 45] = bEx [Box.gro false tt (L.take k) 45] := funext fun j => by cases j <;> rfl
  intro Z β w vs hB hvs
  have hX : mkX C.E Z β w [Box.gro false tt L 45] = mkX C.E Z β w [Box.gro false tt (L.take k) 45] := by unfold mkX; rw [hAl]; rfl
  have hB2 : RelB C.E C.G Z β w [Box.gro false tt (L.take k) 45] := by
    refine ⟨fun j bx hj => ?_, by rw [← hAl]; exact hB.inj, hB.zlt, by rw [← hRw]; exact hB.zrw, by rw [← hAl, ← hRw]; exact hB.zro, hB.glob⟩
    match j with
    | 0 =>
      simp at hj
      subst hj
      rw [← hX]
      rcases hB.box 0 _ rfl with ⟨hb, hl⟩ | ⟨b, cs, fr, c1, c2, h1, h2, h3, h4, h5, h6⟩
      · exact .inl ⟨hb, by rw [hl]; simp⟩
      · rw [← List.take_append_drop k L] at h5
        obtain ⟨d1, d2, e5, h7, h8⟩ := rowOf_append.1 h5
        exact .inr ⟨b, cs, fr, d1, d2 ++ c2, h1, h2, h3, by rw [h4, e5, List.append_assoc], h7, h6⟩
    | j + 1 => simp at hj
  have post : ∀ r bs' v w', Post C Z β w [Box.gro false tt (L.take k) 45] r bs' v w' → Post C Z β w [Box.gro false tt L 45] r bs' v w' := by
    rintro r bs' v w' ⟨Z', β', h1, h2, h3⟩
    exact ⟨Z', β', h1, h2, h3.os, h3.tape, h3.output, h3.size, by rw [hRw]; exact h3.frame, h3.zmono, by rw [hRw]; exact h3.prov, by rw [hRw]; exact h3.zprov, by rw [hEx]; exact h3.kind, h3.keep⟩
  rw [hX] at hvs
  rcases hF Z β w vs hB2 hvs with ⟨v, w', h1, h2⟩ | ⟨h1, h2⟩
  · exact .inl ⟨v, w', h1, post _ _ _ _ h2⟩
  · exact .inr ⟨h1, h2.mono fun e w' h => h.imp fun v hv => ⟨hv.1, post _ _ _ _ hv.2⟩⟩
end Go.Proofs.YtjpabbkcbohmmaaDoorF
