/- The types of the program; loading and storing; how a step keeps what stands for what. -/
import Derived.Test.YtllannmegnklmaaE2
import Derived.Laws.StructEq
set_option linter.unusedVariables false
set_option linter.unusedSimpArgs false
set_option linter.unnecessarySimpa false
namespace Go.Proofs.YtllannmegnklmaaE
open Go

/-! ### What is told of the program's types -/
inductive Sk where
  | bool | int (k : IntKind) | str | ptr (e : TypeId) | slice (e : TypeId) | array (n : Nat) (e : TypeId) | struct (fs : List (Nat × TypeId)) | iface | other

def skel : TypeDesc → Sk
  | .bool => .bool
  | .int k => .int k
  | .string => .str
  | .pointer e => .ptr e
  | .slice e => .slice e
  | .array n e => .array n e
  | .struct fs => .struct (fs.toList.map fun f => (f.offset, f.type))
  | .interface _ => .iface
  | _ => .other

structure TI where
  cells : Nat
  bytes : Nat
  agg : Bool
  sk : Sk
  zero : List Piece
  ty : Option Ty

def Sk.agg : Sk → Bool
  | .array _ _ => true
  | .struct _ => true
  | _ => false

/-! A closed value's cells. -/
def flatM {α : Type} (f : α → Option (List Value)) : List α → Option (List Value)
  | [] => some []
  | x :: xs => match f x, flatM f xs with
    | some a, some b => some (a ++ b)
    | _, _ => none

def encT : (t : Ty) → t.T → Option (List Value)
  | .int k, n => some [.int k n]
  | .bool, b => some [.bool b]
  | .str, s => some [.string s]
  | .pair a b, x => match encT a x.1, encT b x.2 with
    | some c, some d => some (c ++ d)
    | _, _ => none
  | .arr n t, l => bif Nat.beq (List.length l) n then flatM (encT t) l else none
  | .sl t, l => match (l : List t.T) with
    | [] => some [.slice none 0 0]
    | _ => none

def encP : Piece → Option (List Value)
  | .c (.sc v) => bif v.oneCell' then some [v] else none
  | .c (.err none) => some [.nilIface]
  | .row n t l => bif Nat.beq l.length n then flatM (encT t) l else none
  | _ => none

def encPs : List Piece → Option (List Value)
  | [] => some []
  | p :: ps => match encP p, encPs ps with
    | some a, some b => some (a ++ b)
    | _, _ => none

theorem flatM_rep {α : Type} {f : α → Option (List Value)} {R : α → List Value → Prop} (h : ∀ x cs, f x = some cs → R x cs) : ∀ (l : List α) (cs : List Value), flatM f l = some cs → rowOf R l cs
  | [], cs, e => by simp only [flatM, Option.some.injEq] at e; exact e.symm
  | x :: xs, cs, e => by
    simp only [flatM] at e
    split at e
    · rename_i a b ha hb
      cases e
      exact ⟨a, b, rfl, h _ _ ha, flatM_rep h xs b hb⟩
    · cases e

theorem encT_rep {X : Cx} : ∀ (t : Ty) (x : t.T) (cs : List Value), encT t x = some cs → repT X t x cs
  | .int k, n, cs, h => by simp only [encT, Option.some.injEq] at h; exact h.symm
  | .bool, n, cs, h => by simp only [encT, Option.some.injEq] at h; exact h.symm
  | .str, n, cs, h => by simp only [encT, Option.some.injEq] at h; exact h.symm
  | .pair a b, x, cs, h => by
    simp only [encT] at h
    split at h
    · rename_i c d hc hd
      cases h
      exact ⟨c, d, rfl, encT_rep a _ _ hc, encT_rep b _ _ hd⟩
    · cases h
  | .arr n t, l, cs, h => by
    simp only [encT] at h
    cases hb : Nat.beq (List.length l) n with
    | false => simp [hb] at h
    | true =>
      simp only [hb, cond_true] at h
      exact ⟨beq_eq hb, flatM_rep (fun x ds => encT_rep t x ds) l cs h⟩
  | .sl t, l, cs, h => by
    simp only [encT] at h
    split at h
    · cases h
      exact ⟨none, 0, 0, rfl, rfl, Nat.le_refl _, fun hn => absurd hn (by simp)⟩
    · cases h

theorem encP_rep {X : Cx} {p : Piece} {cs : List Value} (h : encP p = some cs) : repP X cs p := by
  unfold encP at h
  split at h
  · rename_i v
    cases ho : v.oneCell' with
    | false => simp [ho] at h
    | true => simp only [ho, cond_true, Option.some.injEq] at h; exact ⟨v, h.symm, ⟨rfl, ho⟩, ho⟩
  · cases h
    exact ⟨_, rfl, rfl, rfl⟩
  · rename_i n t l
    cases hb : Nat.beq l.length n with
    | false => simp [hb] at h
    | true => simp only [hb, cond_true] at h; exact ⟨beq_eq hb, flatM_rep (fun x ds => encT_rep t x ds) l cs h⟩
  · cases h

theorem encPs_rep {X : Cx} : ∀ {ps : List Piece} {cs : List Value}, encPs ps = some cs → repPs X ps cs
  | [], cs, h => by simp only [encPs, Option.some.injEq] at h; exact h.symm
  | p :: ps, cs, h => by
    simp only [encPs] at h
    split at h
    · rename_i a b ha hb
      cases h
      exact ⟨a, b, rfl, encP_rep ha, encPs_rep hb⟩
    · cases h

structure TOk (P : Program) (t : TypeId) (i : TI) : Prop where
  sk : (P.underlying t).map skel = some i.sk
  info : (P.info? t).map (fun x => (x.size, x.bytes)) = some (i.cells, i.bytes)
  agg : i.agg = i.sk.agg
  zero : (P.info? t).bind (fun x => x.zero.map fun v => v.cells.toList) = encPs i.zero
  zok : (encPs i.zero).isSome = true
  zl : (encPs i.zero).map List.length = some i.cells

def look : List (Nat × TI) → Nat → Option TI
  | [], _ => none
  | (k, i) :: r, t => bif Nat.beq k t then some i else look r t

/-- The fields' zero values, if the fields lie one behind the other from 'at' on. -/
def fieldsZ (L : List (Nat × TI)) : Nat → List (Nat × TypeId) → Option (List (List Piece))
  | _, [] => some []
  | k, (off, ft) :: r => match look L ft with
    | some fi => bif Nat.beq off k then (match fieldsZ L (k + fi.cells) r with | some l => some (fi.zero :: l) | none => none) else none
    | none => none

/-- Of these types no field goes by '_', and none stands in for another one. -/
def plainQ (P : Program) (t : TypeId) : Bool := !P.stoodInHeld t && ((P.fieldsOf t).toList.all (fun f => f.name != "_") && !P.eqGuardType P.depth t)

structure Cfg where
  P : Program
  E : TypeId
  G : Globs
  L : List (Nat × TI)
  Q : List TypeId
  gt : List (Nat × IntKind × List Int)
  mt : List (TypeId × String × FuncId)

/-- A table that stands in a variable. -/
def tabG (x : Nat × IntKind × List Int) : Globs := (List.range x.2.2.length).map fun j => (⟨x.1, j, none⟩, .int x.2.1 (x.2.2.getD j 0))

structure COk (C : Cfg) : Prop where
  ok : ∀ p, p ∈ C.L → TOk C.P p.1 p.2
  mixed : C.P.follows .mixedOrders = true
  zs : ∀ p, p ∈ C.L → ∀ fs, p.2.sk = .struct fs → ∀ bl, fieldsZ C.L 0 fs = some bl → encPs bl.flatten = encPs p.2.zero
  eqs : ∀ t, t ∈ C.Q → plainQ C.P t = true
  tab : ∀ x, x ∈ C.gt → ∀ y, y ∈ tabG x → y ∈ C.G
  mt : ∀ e, e ∈ C.mt → ∀ v w, (method (C.P.types.size + Made.depth) e.1 v e.2.1).run C.P w = .ok (e.2.2, v) w

theorem look_mem : ∀ {L : List (Nat × TI)} {t : Nat} {i : TI}, look L t = some i → (t, i) ∈ L
  | [], _, _, h => by cases h
  | (k, j) :: r, t, i, h => by
    simp only [look] at h
    cases hb : Nat.beq k t with
    | true => simp only [hb, cond_true, Option.some.injEq] at h; rw [beq_eq hb, h]; exact List.mem_cons_self ..
    | false => simp only [hb, cond_false] at h; exact List.mem_cons_of_mem _ (look_mem h)

theorem COk.at {C : Cfg} (h : COk C) {t : Nat} {i : TI} (e : look C.L t = some i) : TOk C.P t i := h.ok _ (look_mem e)

section
variable {P : Program} {t : TypeId} {i : TI}

theorem TOk.size (h : TOk P t i) (w : World) : (sizeOf t).run P w = .ok i.cells w := by
  have hi := h.info
  cases hq : P.info? t with
  | none => simp [hq] at hi
  | some x => simp [hq] at hi; simp [sizeOf, typeInfo, hq, hi.1]

theorem TOk.under (h : TOk P t i) : ∃ d, P.underlying t = some d ∧ skel d = i.sk := by
  have hs := h.sk
  cases hq : P.underlying t with
  | none => simp [hq] at hs
  | some d => simp [hq] at hs; exact ⟨d, rfl, hs⟩

theorem TOk.isAgg (h : TOk P t i) (w : World) : (isAgg t).run P w = .ok i.agg w := by
  obtain ⟨d, hu, hs⟩ := h.under
  have e := h.agg
  unfold Go.isAgg
  rw [Sem.run_bind, run_underlying hu w, e, ← hs]
  cases d <;> rfl

theorem TOk.zeroV (h : TOk P t i) : ∃ v cs, (∀ w, (zeroValue t).run P w = .ok v w) ∧ v.cells = cs.toArray ∧ encPs i.zero = some cs := by
  have hz := h.zero
  obtain ⟨cs, hc⟩ := Option.isSome_iff_exists.1 h.zok
  rw [hc] at hz
  cases hq : P.info? t with
  | none => simp [hq] at hz
  | some x =>
    cases hv : x.zero with
    | none => simp [hq, hv] at hz
    | some v =>
      simp [hq, hv] at hz
      refine ⟨v, cs, fun w => by simp [zeroValue, typeInfo, hq, hv], ?_, hc⟩
      rw [← hz]
end

/-! ### Blocks -/
theorem lookup_add (b o j : Nat) : (⟨b, o, none⟩ : Addr).add j = ⟨b, o + j, none⟩ := by unfold Addr.add; split <;> simp_all

/-- A run of cells in the middle of a block. -/
theorem mid_cell {w : World} {b o : Nat} {ty : TypeId} {fr : Nat × Nat} {c1 c2 c3 : List Value} (hb : w.heap[b]? = some (.cells (c1 ++ (c2 ++ c3)).toArray ty fr)) (ho : c1.length = o) (j : Nat) (v : Value) (hj : c2[j]? = some v) :
    w.cell? ((⟨b, o, none⟩ : Addr).add j) = some v := by
  rw [lookup_add, cell_of_row w b (o + j) _ ty fr hb]
  have hl : j < c2.length := (List.getElem?_eq_some_iff.1 hj).1
  simp only [List.getElem?_toArray]
  rw [List.getElem?_append_right (by omega), List.getElem?_append_left (by omega), show o + j - c1.length = j by omega]
  exact hj

theorem run_loadVar_mid {P : Program} {t : TypeId} {i : TI} (hT : TOk P t i) {w : World} {p : Addr} {cs : List Value} (hc : ∀ j v, cs[j]? = some v → w.cell? (p.add j) = some v) (hl : cs.length = i.cells)
    {X : Cx} {x : AV} (hx : repCs X i.agg cs x) : ∃ v, (loadVar t p).run P w = .ok v w ∧ repAV X v x := by
  cases ha : i.agg with
  | true =>
    rw [ha] at hx
    refine ⟨.agg cs.toArray, ?_, hx⟩
    have h1 := hT.isAgg w
    have h2 := hT.size w
    have h3 := run_loadCells_list (P := P) w p cs hc
    rw [hl] at h3
    rw [ha] at h1
    simp [loadVar, h1, h2, h3]
  | false =>
    rw [ha] at hx
    obtain ⟨v, e, hv⟩ := hx
    refine ⟨v, ?_, hv⟩
    have h1 := hT.isAgg w
    rw [ha] at h1
    have h0 : w.cell? (p.add 0) = some v := hc 0 v (by rw [e]; rfl)
    rw [show p.add 0 = p by simp [Addr.add]] at h0
    simp [loadVar, h1, h0]

/-- Storing a run of cells into a block that isn't frozen. -/
theorem run_storeCells_mid (P : Program) (g o : Nat) (t : TypeId) (fr : Nat × Nat) : ∀ (vs : List Value) (i : Nat) (cur : Array Value) (w : World), w.heap[g]? = some (.cells cur t fr) → thaw fr cur.size → o + i + vs.length ≤ cur.size → (∀ v ∈ vs, v.oneCell' = true) →
    (storeCells ⟨g, o, none⟩ vs i).run P w = .ok () (w.setRow g (cur.toList.take (o + i) ++ vs ++ cur.toList.drop (o + i + vs.length)).toArray)
  | [], i, cur, w, hg, _, _, _ => by
    simp only [storeCells, List.append_nil, List.length_nil, Nat.add_zero, List.take_append_drop, Array.toArray_toList]
    rw [setRow_self w g cur t fr hg]
    rfl
  | v :: rest, i, cur, w, hg, hth, hl, h1 => by
    have hi : o + i < cur.size := by simp at hl; omega
    have hcell : w.cell? ⟨g, o + i, none⟩ = some cur[o + i] := by simp [World.cell?, hg, hi]
    have hfro : w.frozen? ⟨g, o + i, none⟩ = false := by
      have := hth.2.1 (o + i) hi
      simp [World.frozen?, hg]
      omega
    have hst : (store ((⟨g, o, none⟩ : Addr).add i) v).run P w = .ok () (w.setRow g (cur.setIfInBounds (o + i) v)) := by
      rw [lookup_add, run_store P w _ v _ (h1 v (by simp)), hcell]
      simp [hfro, setCell_eq_setRow w g (o + i) cur t fr v hg]
    have ih := run_storeCells_mid P g o t fr rest (i + 1) (cur.setIfInBounds (o + i) v) (w.setRow g (cur.setIfInBounds (o + i) v)) (setRow_heap w g cur _ t _ hg) (by simpa using hth) (by simp at hl ⊢; omega) (fun x hx => h1 x (by simp [hx]))
    simp only [storeCells, Sem.run_bind, hst, Result.andThen_ok, ih, setRow_setRow]
    congr 3
    have e := list_seg_step cur.toList (o + i) v rest (by simp at hl ⊢; omega)
    simpa [Array.toList_setIfInBounds, Nat.add_assoc] using e

theorem run_storeCells_list (P : Program) {g o : Nat} {t : TypeId} {fr : Nat × Nat} {c1 c2 c3 vs : List Value} {w : World} (hg : w.heap[g]? = some (.cells (c1 ++ (c2 ++ c3)).toArray t fr)) (hth : thaw fr (c1 ++ (c2 ++ c3)).length)
    (ho : c1.length = o) (hl : vs.length = c2.length) (h1 : ∀ v ∈ vs, v.oneCell' = true) : (storeCells ⟨g, o, none⟩ vs).run P w = .ok () (w.setRow g (c1 ++ (vs ++ c3)).toArray) := by
  have := run_storeCells_mid P g o t fr vs 0 _ w hg (by simpa using hth) (by simp; omega) h1
  rw [this]
  congr 3
  simp only [Nat.add_zero]
  rw [← ho, List.take_left, hl, List.append_assoc, ← List.drop_drop, List.drop_left, List.drop_left]

/-! ### Keeping -/
def Box.ids : Box → List Nat
  | .ex _ ps _ => idsOf ps
  | _ => []

theorem repBox_le {X Y : Cx} (h : X.le Y) {i : Nat} {bx : Box} (hb : Y.β i = X.β i) (hh : ∀ b n, X.β i = some (b, n) → Y.w.heap[b]? = X.w.heap[b]?) (hi : ∀ j, j ∈ bx.ids → X.okAt Y j) (hr : repBox X i bx) : repBox Y i bx := by
  cases bx with
  | dead => trivial
  | ex ro ps ty =>
    obtain ⟨b, cs, fr, h1, h2, h3, h4⟩ := hr
    exact ⟨b, cs, fr, by rw [hb, h1], by rw [hh b _ h1, h2], h3, repPs_le h hi h4⟩
  | gro ro t l ty =>
    rcases hr with ⟨h1, h2⟩ | ⟨b, cs, fr, c1, c2, h1, h2, h3, h4, h5, h6⟩
    · exact .inl ⟨by rw [hb, h1], h2⟩
    · exact .inr ⟨b, cs, fr, c1, c2, by rw [hb, h1], by rw [hh b _ h1, h2], h3, h4, rowOf_mono (fun x ds => repT_le h t x ds) l c1 h5, h6⟩
  | fix ro t l ty =>
    rcases hr with ⟨h1, h2⟩ | ⟨b, cs, fr, c1, c2, h1, h2, h3, h4, h5, h6⟩
    · exact .inl ⟨by rw [hb, h1], h2⟩
    · exact .inr ⟨b, cs, fr, c1, c2, by rw [hb, h1], by rw [hh b _ h1, h2], h3, h4, rowOf_mono (fun x ds => repT_le h t x ds) l c1 h5, h6⟩

theorem repBox_lt {X : Cx} {i : Nat} {bx : Box} (ha : bx.alive = true) (h : repBox X i bx) {b n : Nat} (e : X.β i = some (b, n)) : b < X.w.heap.size := by
  cases bx with
  | dead => cases ha
  | ex ro ps ty =>
    obtain ⟨b', cs, fr, h1, h2, _⟩ := h
    rw [h1] at e; cases e
    exact (Array.getElem?_eq_some_iff.1 h2).1
  | gro ro t l ty =>
    rcases h with ⟨h1, _⟩ | ⟨b', cs, fr, c1, c2, h1, h2, _⟩
    · rw [h1] at e; cases e
    · rw [h1] at e; cases e
      exact (Array.getElem?_eq_some_iff.1 h2).1
  | fix ro t l ty =>
    rcases h with ⟨h1, _⟩ | ⟨b', cs, fr, c1, c2, h1, h2, _⟩
    · rw [h1] at e; cases e
    · rw [h1] at e; cases e
      exact (Array.getElem?_eq_some_iff.1 h2).1

theorem bAl_some {bs : List Box} {i : Nat} (h : bAl bs i = true) : ∃ bx, bs[i]? = some bx ∧ bx.alive = true := by
  unfold bAl at h
  cases hb : bs[i]? with
  | none => simp [hb] at h
  | some bx => simp [hb] at h; exact ⟨bx, rfl, h⟩

theorem bRw_some {bs : List Box} {i : Nat} (h : bRw bs i = true) : ∃ bx, bs[i]? = some bx ∧ bx.rw = true := by
  unfold bRw at h
  cases hb : bs[i]? with
  | none => simp [hb] at h
  | some bx => simp [hb] at h; exact ⟨bx, rfl, h⟩

theorem rw_alive {bx : Box} (h : bx.rw = true) : bx.alive = true := by cases bx <;> simp_all [Box.rw, Box.alive]
theorem bRw_al {bs : List Box} {i : Nat} (h : bRw bs i = true) : bAl bs i = true := by
  obtain ⟨bx, hb, hr⟩ := bRw_some h
  simp [bAl, hb, rw_alive hr]

section
variable {E : TypeId} {G : Globs} {Z Z' : Nat → Prop} {β β' : Nat → Option (Nat × Nat)} {w w' : World} {bs bs' : List Box}

theorem RelB.lt (h : RelB E G Z β w bs) {i b n : Nat} (ha : bAl bs i = true) (e : β i = some (b, n)) : b < w.heap.size := by
  obtain ⟨bx, hb, hal⟩ := bAl_some ha
  exact repBox_lt (X := mkX E Z β w bs) hal (h.box i bx hb) e

/-- A step from boxes to boxes: those that stay stay. -/
theorem RelB.step (h : RelB E G Z β w bs)
    (hle : (mkX E Z β w bs).le (mkX E Z' β' w' bs'))
    (hbox : ∀ (i : Nat) (bx : Box), bs'[i]? = some bx → repBox (mkX E Z' β' w' bs') i bx ∨
      (bs[i]? = some bx ∧ β' i = β i ∧ (∀ b n, β i = some (b, n) → bx.alive = true → w'.heap[b]? = w.heap[b]?) ∧ ∀ j, j ∈ bx.ids → (mkX E Z β w bs).okAt (mkX E Z' β' w' bs') j))
    (hinj : ∀ i j b n m, bAl bs' i = true → bAl bs' j = true → β' i = some (b, n) → β' j = some (b, m) → i = j)
    (hzlt : ∀ b, Z' b → b < w'.heap.size)
    (hzrw : ∀ b, Z' b → ∀ i n, bRw bs' i = true → β' i ≠ some (b, n))
    (hzro : ∀ i b n, bAl bs' i = true → bRw bs' i = false → β' i = some (b, n) → Z' b) : RelB E G Z' β' w' bs' where
  box := fun i bx hi => by
    rcases hbox i bx hi with h1 | ⟨h1, h2, h3, h4⟩
    · exact h1
    · cases hal : bx.alive with
      | false => cases bx <;> simp_all [Box.alive, repBox]
      | true => exact repBox_le hle h2 (fun b n e => h3 b n e hal) h4 (h.box i bx h1)
  inj := hinj
  zlt := hzlt
  zrw := hzrw
  zro := hzro
  glob := fun g hg => by
    obtain ⟨h1, h2⟩ := h.glob g hg
    exact ⟨by rw [cell_of_heap (w := w) (w' := w') (hle.heap _ h2)]; exact h1, hle.Z _ h2⟩

theorem RelE.step {X Y : Cx} {tmps : Array Value} {env : List Tm} (h : RelE X tmps env) (hle : X.le Y) (hi : ∀ tm, tm ∈ env → ∀ j, j ∈ tm.ids → X.okAt Y j) : RelE Y tmps env :=
  ⟨h.1, fun i v tm h1 h2 => repTm_le hle (fun j hj => hi tm (List.mem_of_getElem? h2) j hj) (h.2 i v tm h1 h2)⟩

theorem RelE.put {X : Cx} {tmps : Array Value} {env : List Tm} (h : RelE X tmps env) {d : Nat} {v : Value} {tm : Tm} (hv : repTm X v tm) : RelE X (tmps.setIfInBounds d v) (env.set d tm) := by
  refine ⟨by simp [h.1], fun i u t h1 h2 => ?_⟩
  rw [Array.getElem?_setIfInBounds] at h1
  rw [List.getElem?_set] at h2
  by_cases hd : d = i
  · subst hd
    simp only [if_true] at h1 h2
    split at h1
    · split at h2
      · cases h1; cases h2; exact hv
      · cases h2
    · cases h1
  · rw [if_neg hd] at h1 h2
    exact h.2 i u t h1 h2

/-- The world turns where nothing looks: garbage, draws. -/
theorem RelB.quiet (h : RelB E G Z β w bs) (hs : w.heap.size ≤ w'.heap.size) (hh : ∀ b, b < w.heap.size → w'.heap[b]? = w.heap[b]?) :
    RelB E G Z β w' bs ∧ (mkX E Z β w bs).le (mkX E Z β w' bs) := by
  have hle : (mkX E Z β w bs).le (mkX E Z β w' bs) := ⟨rfl, fun _ h => h, fun b hb => hh b (h.zlt b hb)⟩
  refine ⟨h.step hle (fun i bx hi => .inr ⟨hi, rfl, fun b n e hal => hh b (h.lt (by simp [bAl, hi, hal]) e), fun j _ hj => ⟨hj, fun ha => ⟨ha, rfl⟩⟩⟩) h.inj (fun b hb => Nat.lt_of_lt_of_le (h.zlt b hb) hs) h.zrw h.zro, hle⟩

/-- One box has other contents; its block stays its block. -/
theorem RelB.set (h : RelB E G Z β w bs) {i b n : Nat} {bx bx' : Box} (hi : bs[i]? = some bx) (hrw : bx.rw = true) (hal' : bx'.alive = true) (hrw' : bx'.rw = true) (hb : β i = some (b, n))
    (hs : w'.heap.size = w.heap.size) (hh : ∀ k, k ≠ b → w'.heap[k]? = w.heap[k]?) (hnew : repBox (mkX E Z β w' (bs.set i bx')) i bx') :
    RelB E G Z β w' (bs.set i bx') ∧ (mkX E Z β w bs).le (mkX E Z β w' (bs.set i bx')) ∧ (∀ j, (mkX E Z β w bs).okAt (mkX E Z β w' (bs.set i bx')) j) := by
  have hil : i < bs.length := (List.getElem?_eq_some_iff.1 hi).1
  have hRw : bRw bs i = true := by simp [bRw, hi, hrw]
  have hle : (mkX E Z β w bs).le (mkX E Z β w' (bs.set i bx')) := ⟨rfl, fun _ h => h, fun k hk => hh k (fun e => h.zrw k hk i n hRw (by rw [e]; exact hb))⟩
  have hAl : ∀ j, bAl (bs.set i bx') j = bAl bs j := fun j => by
    unfold bAl
    rw [List.getElem?_set]
    by_cases e : i = j
    · subst e; rw [if_pos rfl, if_pos hil, hi]; simp [hal', rw_alive hrw]
    · simp [e]
  have hRw2 : ∀ j, bRw (bs.set i bx') j = bRw bs j := fun j => by
    unfold bRw
    rw [List.getElem?_set]
    by_cases e : i = j
    · subst e; rw [if_pos rfl, if_pos hil, hi]; simp [hrw, hrw']
    · simp [e]
  have hok : ∀ j, (mkX E Z β w bs).okAt (mkX E Z β w' (bs.set i bx')) j := fun j hj => ⟨by simpa [mkX] using hj, fun ha => ⟨by simpa [mkX, hAl] using ha, rfl⟩⟩
  refine ⟨h.step hle (fun j bj hj => ?_) (fun a c d e f h1 h2 => by rw [hAl] at h1 h2; exact h.inj a c d e f h1 h2) (fun k hk => by rw [hs]; exact h.zlt k hk) (fun k hk j m hj => by rw [hRw2] at hj; exact h.zrw k hk j m hj) (fun j b' n' h1 h2 => by rw [hAl] at h1; rw [hRw2] at h2; exact h.zro j b' n' h1 h2), hle, hok⟩
  by_cases e : i = j
  · subst e
    rw [List.getElem?_set] at hj
    simp [hil] at hj
    subst hj
    exact .inl hnew
  · rw [List.getElem?_set, if_neg e] at hj
    refine .inr ⟨hj, rfl, fun k m hk hal => hh k (fun ek => ?_), fun j' _ => hok j'⟩
    subst ek
    exact e (h.inj i j k n m (by simp [bAl, hi, rw_alive hrw]) (by simp [bAl, hj, hal]) hb hk)

theorem Ext.set {m : Nat} {i b n : Nat} {bx bx' : Box} (hi : bs[i]? = some bx) (hrw : bx.rw = true) (hk : bx'.isEx = true → bx.isEx = true) (hb : β i = some (b, n))
    (ho : w'.os = w.os) (ht : w'.tape = w.tape) (hu : w'.output = w.output) (hs : w'.heap.size = w.heap.size) (hh : ∀ k, k ≠ b → w'.heap[k]? = w.heap[k]?) (hrw2 : ∀ j, bRw (bs.set i bx') j = true → bRw bs j = true) :
    Ext m Z β bs w Z β (bs.set i bx') w' where
  os := ho
  tape := ht
  output := hu
  size := by omega
  frame := fun k hk hn => hh k (fun e => hn i n (by simp [bRw, hi, hrw]) (by rw [e]; exact hb))
  zmono := fun _ h => h
  prov := fun j k q hj e => .inr ⟨j, q, hrw2 j hj, e⟩
  zprov := fun _ h => .inl h
  kind := fun j _ hj => by
    unfold bEx at hj ⊢
    rw [List.getElem?_set] at hj
    by_cases e : i = j
    · subst e
      have hil : i < bs.length := (List.getElem?_eq_some_iff.1 hi).1
      simp [hil] at hj
      simp [hi, hk hj]
    · simpa [e] using hj
  keep := fun _ _ _ => rfl

theorem Ext.quiet {m : Nat} (ho : w'.os = w.os) (ht : w'.tape = w.tape) (hu : w'.output = w.output) (hs : w.heap.size ≤ w'.heap.size) (hh : ∀ b, b < w.heap.size → w'.heap[b]? = w.heap[b]?) : Ext m Z β bs w Z β bs w' where
  os := ho
  tape := ht
  output := hu
  size := hs
  frame := fun k hk _ => hh k hk
  zmono := fun _ h => h
  prov := fun j k q hj e => .inr ⟨j, q, hj, e⟩
  zprov := fun _ h => .inl h
  kind := fun _ _ h => h
  keep := fun _ _ _ => rfl

/-- A new box. -/
def upd (β : Nat → Option (Nat × Nat)) (i : Nat) (x : Option (Nat × Nat)) : Nat → Option (Nat × Nat) := fun j => bif Nat.beq j i then x else β j
theorem upd_same (β : Nat → Option (Nat × Nat)) (i : Nat) (x : Option (Nat × Nat)) : upd β i x i = x := by simp [upd, Nat.beq_refl]
theorem upd_other (β : Nat → Option (Nat × Nat)) {i j : Nat} (x : Option (Nat × Nat)) (h : j ≠ i) : upd β i x j = β j := by
  unfold upd
  cases hb : Nat.beq j i with
  | true => exact absurd (beq_eq hb) h
  | false => rfl

theorem heap_push_lt (w : World) (o : Obj) {k : Nat} (h : k < w.heap.size) : (w.alloc o).heap[k]? = w.heap[k]? := by
  show (w.heap.push o)[k]? = _
  rw [Array.getElem?_push, if_neg (by omega)]

theorem bAl_push {bx : Box} {i : Nat} (h : i < bs.length) : bAl (bs ++ [bx]) i = bAl bs i := by unfold bAl; rw [List.getElem?_append_left h]
theorem bRw_push {bx : Box} {i : Nat} (h : i < bs.length) : bRw (bs ++ [bx]) i = bRw bs i := by unfold bRw; rw [List.getElem?_append_left h]
theorem bAl_lt {i : Nat} (h : bAl bs i = true) : i < bs.length := by
  obtain ⟨bx, hb, _⟩ := bAl_some h
  exact (List.getElem?_eq_some_iff.1 hb).1
theorem bRw_lt {i : Nat} (h : bRw bs i = true) : i < bs.length := bAl_lt (bRw_al h)

/-- What was there, when a box comes to be whose block is new (or which has none). -/
theorem RelB.push (h : RelB E G Z β w bs) {bx : Box} (hrw : bx.rw = true) (x : Option (Nat × Nat)) (hx : ∀ b n, x = some (b, n) → b = w.heap.size) (hs : w.heap.size ≤ w'.heap.size) (hh : ∀ k, k < w.heap.size → w'.heap[k]? = w.heap[k]?)
    (hnew : repBox (mkX E Z (upd β bs.length x) w' (bs ++ [bx])) bs.length bx) :
    RelB E G Z (upd β bs.length x) w' (bs ++ [bx]) ∧ (mkX E Z β w bs).le (mkX E Z (upd β bs.length x) w' (bs ++ [bx])) ∧ (∀ j, (mkX E Z β w bs).okAt (mkX E Z (upd β bs.length x) w' (bs ++ [bx])) j) := by
  have hle : (mkX E Z β w bs).le (mkX E Z (upd β bs.length x) w' (bs ++ [bx])) := ⟨rfl, fun _ h => h, fun k hk => hh k (h.zlt k hk)⟩
  have hok : ∀ j, (mkX E Z β w bs).okAt (mkX E Z (upd β bs.length x) w' (bs ++ [bx])) j := fun j hj => by
    have hj : j < bs.length := hj
    exact ⟨by show j < (bs ++ [bx]).length; simp; omega, fun ha => ⟨by simpa [mkX, bAl_push hj] using ha, upd_other β x (by omega)⟩⟩
  have hcase : ∀ i, bAl (bs ++ [bx]) i = true → i = bs.length ∨ (i < bs.length ∧ bAl bs i = true) := fun i hi => by
    have := bAl_lt hi
    simp at this
    rcases Nat.lt_or_ge i bs.length with hl | hl
    · exact .inr ⟨hl, by rwa [bAl_push hl] at hi⟩
    · exact .inl (by omega)
  refine ⟨h.step hle (fun i bi hi => ?_) (fun i j b n m hi hj e1 e2 => ?_) (fun k hk => Nat.lt_of_lt_of_le (h.zlt k hk) hs) (fun k hk i n hi e => ?_) (fun i b n h1 h2 e => ?_), hle, hok⟩
  · rcases Nat.lt_or_ge i bs.length with hl | hl
    · rw [List.getElem?_append_left hl] at hi
      exact .inr ⟨hi, upd_other β x (by omega), fun b n e hal => hh b (h.lt (by simp [bAl, hi, hal]) e), fun j _ => hok j⟩
    · have hl2 := (List.getElem?_eq_some_iff.1 hi).1
      simp at hl2
      obtain rfl : i = bs.length := by omega
      simp at hi
      subst hi
      exact .inl hnew
  · rcases hcase i hi with rfl | ⟨hl, ha⟩
    · rcases hcase j hj with rfl | ⟨hl2, ha2⟩
      · rfl
      · rw [upd_same] at e1
        rw [upd_other β x (by omega)] at e2
        have := h.lt ha2 e2
        have := hx _ _ e1
        omega
    · rcases hcase j hj with rfl | ⟨hl2, ha2⟩
      · rw [upd_same] at e2
        rw [upd_other β x (by omega)] at e1
        have := h.lt ha e1
        have := hx _ _ e2
        omega
      · rw [upd_other β x (by omega)] at e1 e2
        exact h.inj i j b n m ha ha2 e1 e2
  · rcases hcase i (bRw_al hi) with rfl | ⟨hl, ha⟩
    · rw [upd_same] at e
      have := hx _ _ e
      have := h.zlt k hk
      omega
    · rw [upd_other β x (by omega)] at e
      rw [bRw_push hl] at hi
      exact h.zrw k hk i n hi e
  · rcases hcase i h1 with rfl | ⟨hl, ha⟩
    · have : bRw (bs ++ [bx]) bs.length = bx.rw := by simp [bRw]
      rw [this, hrw] at h2
      cases h2
    · rw [upd_other β x (by omega)] at e
      rw [bRw_push hl] at h2
      exact h.zro i b n ha h2 e

theorem Ext.push {m : Nat} {bx : Box} (x : Option (Nat × Nat)) (hx : ∀ b n, x = some (b, n) → b = w.heap.size) (hm : m ≤ bs.length)
    (ho : w'.os = w.os) (ht : w'.tape = w.tape) (hu : w'.output = w.output) (hs : w.heap.size ≤ w'.heap.size) (hh : ∀ k, k < w.heap.size → w'.heap[k]? = w.heap[k]?) :
    Ext m Z β bs w Z (upd β bs.length x) (bs ++ [bx]) w' where
  os := ho
  tape := ht
  output := hu
  size := hs
  frame := fun k hk _ => hh k hk
  zmono := fun _ h => h
  prov := fun j k q hj e => by
    have hl := bRw_lt hj
    simp at hl
    rcases Nat.lt_or_ge j bs.length with h1 | h1
    · rw [upd_other β x (by omega)] at e
      rw [bRw_push h1] at hj
      exact .inr ⟨j, q, hj, e⟩
    · obtain rfl : j = bs.length := by omega
      rw [upd_same] at e
      exact .inl (by rw [hx _ _ e]; exact Nat.le_refl _)
  zprov := fun _ h => .inl h
  kind := fun j hj he => by
    unfold bEx at he ⊢
    rwa [List.getElem?_append_left (by omega)] at he
  keep := fun j hj _ => upd_other β x (by omega)
end

end Go.Proofs.YtllannmegnklmaaE
