/- Built values; the quiet operations together. -/
import Derived.Test.YtllannmegnklmaaE5
set_option linter.unusedVariables false
set_option linter.unusedSimpArgs false
set_option linter.unnecessarySimpa false
namespace Go.Proofs.YtllannmegnklmaaE
open Go

/-! ### Blocks that are set one by one -/
theorem foldl_set : ∀ (vs : List Value) (k off : Nat) (cur : List Value), off + k + vs.length ≤ cur.length →
    (vs.zipIdx k).foldl (fun (cs : Array Value) (p : Value × Nat) => cs.setIfInBounds (off + p.2) p.1) cur.toArray = (cur.take (off + k) ++ vs ++ cur.drop (off + k + vs.length)).toArray
  | [], k, off, cur, _ => by simp
  | v :: vs, k, off, cur, h => by
    rw [List.length_cons] at h
    rw [List.zipIdx_cons, List.foldl_cons, List.setIfInBounds_toArray, foldl_set vs (k + 1) off (cur.set (off + k) v) (by simp; omega)]
    congr 1
    have := list_seg_step cur (off + k) v vs (by omega)
    rw [← Nat.add_assoc, List.length_cons]
    exact this

theorem foldl_set' (vs : List Value) (off : Nat) (c1 c2 c3 : List Value) (h1 : c1.length = off) (h2 : vs.length = c2.length) :
    (vs.toArray.zipIdx).foldl (fun (cs : Array Value) (p : Value × Nat) => cs.setIfInBounds (off + p.2) p.1) (c1 ++ (c2 ++ c3)).toArray = (c1 ++ (vs ++ c3)).toArray := by
  have := foldl_set vs 0 off (c1 ++ (c2 ++ c3)) (by simp; omega)
  rw [← Array.foldl_toList, Array.toList_zipIdx, this]
  congr 1
  rw [Nat.add_zero, ← h1, List.take_left, h2, List.append_assoc, ← List.drop_drop, List.drop_left, List.drop_left]

/-- A list of runs of cells, some of them put anew. -/
def putBl {α : Type} : List α → List (Nat × α) → List α
  | bl, [] => bl
  | bl, (i, c) :: r => putBl (bl.set i c) r

theorem flatten_at {α : Type} {bl : List (List α)} {i : Nat} {b : List α} (h : bl[i]? = some b) : bl.flatten = (bl.take i).flatten ++ (b ++ (bl.drop (i + 1)).flatten) := by
  obtain ⟨hi, e⟩ := List.getElem?_eq_some_iff.1 h
  have : bl = bl.take i ++ (b :: bl.drop (i + 1)) := by rw [← e, List.getElem_cons_drop, List.take_append_drop]
  calc bl.flatten = (bl.take i ++ (b :: bl.drop (i + 1))).flatten := by rw [← this]
    _ = _ := by rw [List.flatten_append, List.flatten_cons]

theorem flatten_set {α : Type} {bl : List (List α)} {i : Nat} {c : List α} (h : i < bl.length) : (bl.set i c).flatten = (bl.take i).flatten ++ (c ++ (bl.drop (i + 1)).flatten) := by
  rw [List.set_eq_take_append_cons_drop, if_pos h, List.flatten_append, List.flatten_cons]

theorem fill_blocks (place : Nat → Option (Nat × Nat)) : ∀ (parts : List (Nat × Value)) (bl : List (List Value)),
    (∀ i b, bl[i]? = some b → place i = some ((bl.take i).flatten.length, b.length)) →
    (∀ p, p ∈ parts → ∃ b, bl[p.1]? = some b ∧ p.2.cells.size = b.length) →
    Instr.fill place bl.flatten.toArray parts = some (putBl bl (parts.map fun p => (p.1, p.2.cells.toList))).flatten.toArray
  | [], bl, _, _ => rfl
  | (i, v) :: rest, bl, hp, hq => by
    obtain ⟨b, hb, hs⟩ := hq (i, v) (by simp)
    have hi : i < bl.length := (List.getElem?_eq_some_iff.1 hb).1
    have hlen : ∀ k, ((bl.set i v.cells.toList).take k).flatten.length = (bl.take k).flatten.length := by
      intro k
      have e : ∀ (l : List (List Value)) (k : Nat), (l.take k).flatten.length = ((l.map List.length).take k).sum := by
        intro l k; rw [List.length_flatten, List.map_take]
      rw [e, e]
      congr 2
      rw [List.map_set]
      apply List.ext_getElem?
      intro j
      rw [List.getElem?_set]
      by_cases hj : i = j
      · subst hj
        have hs' : v.cells.toList.length = b.length := by simpa using hs
        rw [if_pos rfl, if_pos (by simpa using hi), List.getElem?_map, hb, hs']; rfl
      · rw [if_neg hj]
    simp only [Instr.fill, hp i b hb]
    have hc : ¬ (v.cells.size ≠ b.length ∨ (bl.take i).flatten.length + v.cells.size > bl.flatten.toArray.size) := by
      have := flatten_at hb
      simp only [List.size_toArray]
      rw [this]; simp only [List.length_append]
      simp only at hs
      omega
    simp only [Bool.or_eq_true, decide_eq_true_eq, hc, if_false]
    have e1 := flatten_at hb
    have e2 := foldl_set' v.cells.toList (bl.take i).flatten.length (bl.take i).flatten b (bl.drop (i + 1)).flatten rfl (by simpa using hs)
    rw [Array.toArray_toList] at e2
    rw [e1, e2, ← flatten_set hi, fill_blocks place rest (bl.set i v.cells.toList)]
    · rfl
    · intro j b' hj
      rw [hlen]
      rw [List.getElem?_set] at hj
      by_cases hij : i = j
      · subst hij
        simp [hi] at hj
        subst hj
        rw [hp i b hb]
        simp at hs
        simp [hs]
      · rw [if_neg hij] at hj
        exact hp j b' hj
    · intro p hp'
      obtain ⟨b', hb', hs'⟩ := hq p (by simp [hp'])
      by_cases hij : i = p.1
      · refine ⟨v.cells.toList, by rw [List.getElem?_set, if_pos hij, if_pos hi], ?_⟩
        rw [← hij, hb] at hb'
        cases hb'
        simp at hs hs' ⊢
        omega
      · exact ⟨b', by rw [List.getElem?_set, if_neg hij]; exact hb', hs'⟩

/-! ### Values that are built -/
def AV.ps : AV → List Piece
  | .one c => [.c c]
  | .agg ps => ps
  | .clo _ _ ps => ps
def AV.data : AV → Bool
  | .clo _ _ _ => false
  | _ => true
def Tm.av? : Tm → Option AV
  | .v x => some x
  | _ => none

/-- A value's cells. -/
theorem repAV_cells {X : Cx} {v : Value} : ∀ {x : AV}, x.data = true → repAV X v x → repPs X x.ps v.cells.toList
  | .clo _ _ _, hd, _ => by cases hd
  | .one c, _, ⟨h, ho⟩ => by
    have : v.cells = #[v] := by cases v <;> first | rfl | cases ho
    rw [this]
    exact ⟨[v], [], rfl, ⟨v, rfl, h, ho⟩, rfl⟩
  | .agg ps, _, ⟨cs, e, h⟩ => by rw [e]; exact h

inductive All2 {α γ : Type} (R : α → γ → Prop) : List α → List γ → Prop
  | nil : All2 R [] []
  | cons {a : α} {b : γ} {as : List α} {bs : List γ} : R a b → All2 R as bs → All2 R (a :: as) (b :: bs)

def repBl (X : Cx) : List (List Piece) → List (List Value) → Prop
  | [], bl => bl = []
  | p :: ps, bl => ∃ b r, bl = b :: r ∧ repPs X p b ∧ repBl X ps r

theorem repBl_length {X : Cx} : ∀ {pb : List (List Piece)} {bl : List (List Value)}, repBl X pb bl → bl.length = pb.length
  | [], _, h => by rw [show _ = [] from h]; rfl
  | _ :: ps, _, ⟨b, r, e, _, h⟩ => by rw [e, List.length_cons, repBl_length h, List.length_cons]
theorem repBl_get {X : Cx} : ∀ {pb : List (List Piece)} {bl : List (List Value)} (_ : repBl X pb bl) {i : Nat} {p : List Piece}, pb[i]? = some p → ∃ b, bl[i]? = some b ∧ repPs X p b
  | [], _, _, i, _, hi => by simp at hi
  | _ :: ps, _, ⟨b, r, e, h1, h⟩, 0, _, hi => by cases hi; exact ⟨b, by rw [e]; rfl, h1⟩
  | _ :: ps, _, ⟨b, r, e, h1, h⟩, i + 1, p, hi => by
    obtain ⟨b', hb, hp⟩ := repBl_get h (i := i) (p := p) hi
    exact ⟨b', by rw [e]; exact hb, hp⟩
theorem repBl_set {X : Cx} : ∀ {pb : List (List Piece)} {bl : List (List Value)} (_ : repBl X pb bl) (i : Nat) {p : List Piece} {b : List Value}, repPs X p b → repBl X (pb.set i p) (bl.set i b)
  | [], bl, h, i, _, _, _ => by rw [show bl = [] from h]; simp [repBl]
  | _ :: ps, _, ⟨b0, r, e, h1, h⟩, 0, p, b, hp => ⟨b, r, by rw [e]; rfl, hp, h⟩
  | _ :: ps, _, ⟨b0, r, e, h1, h⟩, i + 1, p, b, hp => ⟨b0, r.set i b, by rw [e]; rfl, h1, repBl_set h i hp⟩
theorem repBl_flatten {X : Cx} : ∀ {pb : List (List Piece)} {bl : List (List Value)}, repBl X pb bl → repPs X pb.flatten bl.flatten
  | [], _, h => by rw [show _ = [] from h]; rfl
  | _ :: ps, _, ⟨b, r, e, h1, h⟩ => by rw [e]; exact repPs_append.2 ⟨b, r.flatten, rfl, h1, repBl_flatten h⟩

/-- The parts that are given, each with the pieces that it is. -/
def partsA (E : TypeId) (env : List Tm) : List (Nat × Operand) → Option (List (Nat × List Piece))
  | [] => some []
  | (i, x) :: r => match evalO E env x, partsA E env r with
    | .v y, some l => bif y.data then some ((i, y.ps) :: l) else none
    | _, _ => none

/-- Do the parts fit? -/
def fitBl : List (List Piece) → List (Nat × List Piece) → Bool
  | _, [] => true
  | bl, (i, p) :: r => (match bl[i]? with | some b => Nat.beq (psize p) (psize b) | none => false) && fitBl bl r

def qBuildS (E : TypeId) (L : List (Nat × TI)) (env : List Tm) (t : TypeId) (parts : List (Nat × Operand)) : Option (Prop × Tm) := match look L t with
  | some ⟨_, _, _, .struct fs, _, _⟩ => match fieldsZ L 0 fs, partsA E env parts with
    | some bl, some ps => bif fitBl bl ps then some (True, .v (.agg (putBl bl ps).flatten)) else none
    | _, _ => none
  | _ => none

theorem putBl_rep {X : Cx} : ∀ (ps : List (Nat × List Piece)) (vs : List (Nat × List Value)) {pb : List (List Piece)} {bl : List (List Value)}, repBl X pb bl →
    (All2 (fun (p : Nat × List Piece) (v : Nat × List Value) => p.1 = v.1 ∧ repPs X p.2 v.2) ps vs) → repBl X (putBl pb ps) (putBl bl vs)
  | _, _, _, _, h, .nil => h
  | _, _, _, _, h, .cons (a := p) (b := v) (as := as) (bs := bs) ⟨e, h1⟩ h2 => by
    obtain ⟨i, q⟩ := p
    obtain ⟨j, u⟩ := v
    cases e
    exact putBl_rep as bs (repBl_set h i h1) h2

theorem partsA_rep {X : Cx} {a : Act} {env : List Tm} (h : RelE X a.tmps env) : ∀ (parts : List (Nat × Operand)) (ps : List (Nat × List Piece)), partsA X.E env parts = some ps →
    All2 (fun (p : Nat × List Piece) (v : Nat × Value) => p.1 = v.1 ∧ repPs X p.2 v.2.cells.toList) ps (parts.map fun p => (p.1, a.eval p.2))
  | [], ps, e => by cases e; exact .nil
  | (i, x) :: r, ps, e => by
    simp only [partsA] at e
    split at e
    · rename_i y l hy hl
      cases hd : y.data with
      | false => rw [hd] at e; cases e
      | true =>
        rw [hd] at e
        cases e
        have := evalO_rep h x
        rw [hy] at this
        exact .cons ⟨rfl, repAV_cells hd this⟩ (partsA_rep h r l hl)
    · cases e

theorem fitBl_spec : ∀ {bl : List (List Piece)} {ps : List (Nat × List Piece)}, fitBl bl ps = true → ∀ p, p ∈ ps → ∃ b, bl[p.1]? = some b ∧ psize p.2 = psize b
  | _, [], _, p, hp => by simp at hp
  | bl, (i, q) :: r, h, p, hp => by
    simp only [fitBl, Bool.and_eq_true] at h
    rcases List.mem_cons.1 hp with rfl | hp
    · cases hb : bl[i]? with
      | none => simp [hb] at h
      | some b => rw [hb] at h; exact ⟨b, rfl, Nat.eq_of_beq_eq_true h.1⟩
    · exact fitBl_spec h.2 p hp

theorem encPs_append : ∀ {ps qs : List Piece} {c d : List Value}, encPs ps = some c → encPs qs = some d → encPs (ps ++ qs) = some (c ++ d)
  | [], _, _, _, h1, h2 => by cases h1; exact h2
  | p :: ps, qs, c, d, h1, h2 => by
    simp only [encPs] at h1
    split at h1
    · rename_i a b ha hb
      cases h1
      simp only [List.cons_append, encPs, ha, encPs_append hb h2, List.append_assoc]
    · cases h1

/-- The zero value's cells of a struct, field by field. -/
theorem fieldsZ_spec {P : Program} {L : List (Nat × TI)} (hL : ∀ t i, look L t = some i → TOk P t i) : ∀ (fs : List (Nat × TypeId)) (k : Nat) (bl : List (List Piece)), fieldsZ L k fs = some bl →
    ∃ zl : List (List Value), (∀ X : Cx, repBl X bl zl) ∧ encPs bl.flatten = some zl.flatten ∧ zl.length = fs.length ∧
      (∀ i off ft, fs[i]? = some (off, ft) → ∃ b fi, zl[i]? = some b ∧ look L ft = some fi ∧ b.length = fi.cells ∧ off = k + (zl.take i).flatten.length)
  | [], k, bl, h => by cases h; exact ⟨[], fun _ => rfl, rfl, rfl, fun i _ _ hi => by simp at hi⟩
  | (off, ft) :: r, k, bl, h => by
    simp only [fieldsZ] at h
    split at h
    · rename_i fi hfi
      cases hb : Nat.beq off k with
      | false => simp [hb] at h
      | true =>
        simp only [hb, cond_true] at h
        split at h
        · rename_i l hl
          cases h
          obtain ⟨zl, hz, henc, hlen, hall⟩ := fieldsZ_spec hL r (k + fi.cells) l hl
          obtain ⟨v, cs, hv, hvc, he⟩ := (hL _ _ hfi).zeroV
          have hcs : cs.length = fi.cells := by
            have h1 := (hL _ _ hfi).zl
            rw [he] at h1
            simpa using h1
          refine ⟨cs :: zl, fun X => ⟨cs, zl, rfl, encPs_rep he, hz X⟩, by rw [List.flatten_cons, List.flatten_cons]; exact encPs_append he henc, by simp [hlen], fun i o t hi => ?_⟩
          cases i with
          | zero => cases hi; exact ⟨cs, fi, rfl, hfi, hcs, by simp [beq_eq hb]⟩
          | succ i =>
            obtain ⟨b, fi', h1, h2, h3, h4⟩ := hall i o t hi
            exact ⟨b, fi', h1, h2, h3, by rw [h4, List.take_succ_cons, List.flatten_cons, List.length_append, hcs]; omega⟩
        · cases h
    · cases h


theorem All2.map_cells {X : Cx} : ∀ {ps : List (Nat × List Piece)} {vs : List (Nat × Value)}, All2 (fun (p : Nat × List Piece) (v : Nat × Value) => p.1 = v.1 ∧ repPs X p.2 v.2.cells.toList) ps vs →
    All2 (fun (p : Nat × List Piece) (v : Nat × List Value) => p.1 = v.1 ∧ repPs X p.2 v.2) ps (vs.map fun p => (p.1, p.2.cells.toList))
  | _, _, .nil => .nil
  | _, _, .cons h1 h2 => .cons h1 h2.map_cells
theorem All2.mem {α γ : Type} {R : α → γ → Prop} : ∀ {as : List α} {bs : List γ}, All2 R as bs → ∀ b, b ∈ bs → ∃ a, a ∈ as ∧ R a b
  | _, _, .nil, b, h => by simp at h
  | _, _, .cons (a := a) h1 h2, b, h => by
    rcases List.mem_cons.1 h with rfl | h
    · exact ⟨a, by simp, h1⟩
    · obtain ⟨a', h3, h4⟩ := h2.mem b h
      exact ⟨a', by simp [h3], h4⟩

theorem run_sizes {P : Program} {w : World} : ∀ (fs : List Field) (g : List (Nat × Nat)), (∀ (i : Nat) (f : Field), fs[i]? = some f → ∃ n : Nat, g[i]? = some (f.offset, n) ∧ (sizeOf f.type).run P w = .ok n w) → g.length = fs.length →
    (fs.mapM fun f => (do pure (f.offset, ← sizeOf f.type) : Sem (Nat × Nat))).run P w = .ok g w
  | [], g, _, hl => by
    have : g = [] := by cases g <;> simp_all
    subst this; simp
  | f :: fs, g, h, hl => by
    cases g with
    | nil => simp at hl
    | cons p g =>
      obtain ⟨n, h1, h2⟩ := h 0 f rfl
      simp at h1
      subst h1
      have := run_sizes fs g (fun i f' hi => h (i + 1) f' hi) (by simpa using hl)
      simp only [List.mapM_cons, Sem.run_bind, h2, Result.andThen_ok, Sem.run_pure, this]

theorem qBuildS_run {C : Cfg} (hC : COk C) {w : World} {X : Cx} (hE : X.E = C.E) {a : Act} {env : List Tm} {t : TypeId} {parts : Array (Nat × Operand)} {φ : Prop} {tm : Tm} (h : qBuildS C.E C.L env t parts.toList = some (φ, tm)) (hr : RelE X a.tmps env) :
    ∃ u, (Instr.build t (parts.map fun (i, x) => (i, a.eval x))).run C.P w = .ok u w ∧ repTm X u tm := by
  unfold qBuildS at h
  split at h
  · rename_i n1 n2 n3 fs n4 n5 hl
    have hT := hC.at hl
    obtain ⟨d, hu, hs⟩ := hT.under
    obtain ⟨fl, rfl⟩ : ∃ fl, d = .struct fl := by cases d <;> simp [skel] at hs; exact ⟨_, rfl⟩
    simp only [skel, Sk.struct.injEq] at hs
    split at h
    · rename_i bl ps hbl hps
      cases hf : fitBl bl ps with
      | false => simp [hf] at h
      | true =>
        simp only [hf, cond_true, Option.some.injEq, Prod.mk.injEq] at h
        obtain ⟨e1, e2⟩ := h
        subst e1; subst e2
        obtain ⟨zl, hz, henc, hzl, hall⟩ := fieldsZ_spec (P := C.P) (fun t i e => hC.at e) fs 0 bl hbl
        rw [← hE] at hps
        have hA := partsA_rep hr parts.toList ps hps
        have hA2 := hA.map_cells
        -- the places
        have hpl : ∀ i f, fl.toList[i]? = some f → ∃ b fi, zl[i]? = some b ∧ look C.L f.type = some fi ∧ b.length = fi.cells ∧ f.offset = (zl.take i).flatten.length := by
          intro i f hi
          have := hall i f.offset f.type (by rw [← hs, List.getElem?_map, hi]; rfl)
          simpa using this
        have hlen : zl.length = fl.toList.length := by rw [hzl, ← hs, List.length_map]
        obtain ⟨g, hg⟩ : ∃ g : List (Nat × Nat), g.length = fl.toList.length ∧ ∀ i b, zl[i]? = some b → g[i]? = some ((zl.take i).flatten.length, b.length) :=
          ⟨(List.range zl.length).map fun i => ((zl.take i).flatten.length, (zl.getD i []).length), by simp [hlen], fun i b hb => by
            obtain ⟨hi, e⟩ := List.getElem?_eq_some_iff.1 hb
            rw [List.getElem?_map, List.getElem?_range hi]
            simp [List.getD_eq_getElem?_getD, hb]⟩
        have hruns := run_sizes (P := C.P) (w := w) fl.toList g (fun i f hi => by
          obtain ⟨b, fi, h1, h2, h3, h4⟩ := hpl i f hi
          exact ⟨b.length, by rw [hg.2 i b h1, h4], by rw [h3]; exact (hC.at h2).size w⟩) hg.1
        -- the zero value
        obtain ⟨zv, zcs, hzv, hzc, hze⟩ := hT.zeroV
        have hzz := hC.zs _ (look_mem hl) fs rfl bl hbl
        rw [henc] at hzz
        have hzf : zcs = zl.flatten := by
          have := hzz.trans hze
          cases this; rfl
        have hbp := hz X
        have hfill := fill_blocks (fun i => g.toArray[i]?) (parts.toList.map fun p => (p.1, a.eval p.2)) zl (fun i b hb => by rw [List.getElem?_toArray]; exact hg.2 i b hb) (fun p hp => by
          obtain ⟨q, hq1, hq2, hq3⟩ := hA.mem p hp
          obtain ⟨pb, hpb, hps2⟩ := fitBl_spec hf q hq1
          obtain ⟨b, hb, hb2⟩ := repBl_get hbp hpb
          refine ⟨b, by rw [← hq2]; exact hb, ?_⟩
          have := repPs_length hq3
          rw [Array.length_toList] at this
          rw [this, hps2, repPs_length hb2])
        refine ⟨.agg (putBl zl ((parts.toList.map fun p => (p.1, a.eval p.2)).map fun p => (p.1, p.2.cells.toList))).flatten.toArray, ?_, _, rfl, repBl_flatten (putBl_rep ps _ hbp hA2)⟩
        unfold Instr.build
        have hm : (parts.map fun (x : Nat × Operand) => (x.1, a.eval x.2)).toList = parts.toList.map fun p => (p.1, a.eval p.2) := by simp
        have hma : (fl.mapM fun f => (do pure (f.offset, ← sizeOf f.type) : Sem (Nat × Nat))).run C.P w = .ok g.toArray w := by
          rw [Array.mapM_eq_mapM_toList]
          show ((fl.toList.mapM fun f => (do pure (f.offset, ← sizeOf f.type) : Sem (Nat × Nat))) >>= fun l => pure l.toArray).run C.P w = _
          rw [Sem.run_bind, hruns]
          rfl
        rw [hzf] at hzc
        simp only [Sem.run_bind, hzv w, Result.andThen_ok, run_underlying hu, hma, hm, hzc, hfill, Sem.run_pure]
    · cases h
  · cases h

/-! Arrays. -/
def partsT (t : Ty) : List (Nat × List Piece) → Option (List (Nat × t.T))
  | [] => some []
  | (i, p) :: r => match mkT t p, partsT t r with
    | some (x, []), some l => some ((i, x) :: l)
    | _, _ => none

def fitI (n : Nat) {α : Type} : List (Nat × α) → Bool
  | [] => true
  | (i, _) :: r => Nat.ble (i + 1) n && fitI n r

def qBuildA (E : TypeId) (L : List (Nat × TI)) (env : List Tm) (t : TypeId) (parts : List (Nat × Operand)) : Option (Prop × Tm) := match look L t with
  | some ⟨_, _, _, .array n e, [.row m u l0], _⟩ => match look L e, partsA E env parts with
    | some ei, some ps => (match partsT u ps with
      | some xs => bif Nat.beq m n && Nat.beq u.size ei.cells && fitI n xs then some (True, .v (.agg [.row m u (putBl l0 xs)])) else none
      | none => none)
    | _, _ => none
  | _ => none

theorem All2.length {α γ : Type} {R : α → γ → Prop} : ∀ {as : List α} {bs : List γ}, All2 R as bs → as.length = bs.length
  | _, _, .nil => rfl
  | _, _, .cons _ h => by rw [List.length_cons, List.length_cons, h.length]
theorem All2.set {α γ : Type} {R : α → γ → Prop} : ∀ {as : List α} {bs : List γ} (_ : All2 R as bs) (i : Nat) {a : α} {b : γ}, R a b → All2 R (as.set i a) (bs.set i b)
  | _, _, .nil, i, _, _, _ => .nil
  | _, _, .cons h1 h2, 0, _, _, h => .cons h h2
  | _, _, .cons h1 h2, i + 1, _, _, h => .cons h1 (h2.set i h)
theorem All2.get {α γ : Type} {R : α → γ → Prop} : ∀ {as : List α} {bs : List γ} (_ : All2 R as bs) {i : Nat} {a : α}, as[i]? = some a → ∃ b, bs[i]? = some b ∧ R a b
  | _, _, .nil, i, _, h => by simp at h
  | _, _, .cons (b := b) h1 h2, 0, a, h => by cases h; exact ⟨b, rfl, h1⟩
  | _, _, .cons h1 h2, i + 1, a, h => h2.get (i := i) h
theorem All2.put {α γ : Type} {R : α → γ → Prop} : ∀ {xs : List (Nat × α)} {ys : List (Nat × γ)} {as : List α} {bs : List γ}, All2 R as bs → All2 (fun (p : Nat × α) (q : Nat × γ) => p.1 = q.1 ∧ R p.2 q.2) xs ys → All2 R (putBl as xs) (putBl bs ys)
  | _, _, _, _, h, .nil => h
  | _, _, _, _, h, .cons (a := p) (b := q) (as := xs) (bs := ys) ⟨e, h1⟩ h2 => by
    obtain ⟨i, x⟩ := p
    obtain ⟨j, y⟩ := q
    cases e
    exact All2.put (xs := xs) (ys := ys) (h.set i h1) h2
theorem All2.row {α : Type} {R : α → List Value → Prop} : ∀ {as : List α} {bs : List (List Value)}, All2 R as bs → rowOf R as bs.flatten
  | _, _, .nil => rfl
  | _, _, .cons (b := b) (bs := bs) h1 h2 => ⟨b, bs.flatten, rfl, h1, h2.row⟩
theorem putBl_length {α : Type} : ∀ (xs : List (Nat × α)) (l : List α), (putBl l xs).length = l.length
  | [], _ => rfl
  | (i, x) :: r, l => by rw [putBl, putBl_length r, List.length_set]

theorem flatM_blocks {α : Type} {f : α → Option (List Value)} : ∀ (l : List α) (cs : List Value), flatM f l = some cs → ∃ bl : List (List Value), cs = bl.flatten ∧ All2 (fun x b => f x = some b) l bl
  | [], cs, e => by cases e; exact ⟨[], rfl, .nil⟩
  | x :: xs, cs, e => by
    simp only [flatM] at e
    split at e
    · rename_i a b ha hb
      cases e
      obtain ⟨bl, e1, h⟩ := flatM_blocks xs b hb
      exact ⟨a :: bl, by rw [e1]; rfl, .cons ha h⟩
    · cases e

theorem All2.imp {α γ : Type} {R S : α → γ → Prop} (h : ∀ a b, R a b → S a b) : ∀ {as : List α} {bs : List γ}, All2 R as bs → All2 S as bs
  | _, _, .nil => .nil
  | _, _, .cons h1 h2 => .cons (h _ _ h1) (All2.imp h h2)

theorem partsT_rep {X : Cx} {t : Ty} : ∀ {ps : List (Nat × List Piece)} {xs : List (Nat × t.T)} {vs : List (Nat × List Value)}, partsT t ps = some xs → All2 (fun (p : Nat × List Piece) (v : Nat × List Value) => p.1 = v.1 ∧ repPs X p.2 v.2) ps vs →
    All2 (fun (p : Nat × t.T) (v : Nat × List Value) => p.1 = v.1 ∧ repT X t p.2 v.2) xs vs
  | [], xs, _, h, .nil => by cases h; exact .nil
  | (i, p) :: r, xs, _, h, .cons (b := q) ⟨e, h1⟩ h2 => by
    simp only [partsT] at h
    split at h
    · rename_i x l hm hr
      cases h
      obtain ⟨c1, c2, e1, h3, h4⟩ := mkT_rep t h1 hm
      rw [show c2 = [] from h4, List.append_nil] at e1
      exact .cons ⟨e, by rw [e1]; exact h3⟩ (partsT_rep hr h2)
    · cases h

theorem fitI_spec {n : Nat} {α : Type} : ∀ {xs : List (Nat × α)}, fitI n xs = true → ∀ p, p ∈ xs → p.1 < n
  | [], _, p, hp => by simp at hp
  | (i, x) :: r, h, p, hp => by
    simp only [fitI, Bool.and_eq_true] at h
    rcases List.mem_cons.1 hp with rfl | hp
    · exact Nat.le_of_ble_eq_true h.1
    · exact fitI_spec h.2 p hp

theorem flatten_take_const {bl : List (List Value)} {z : Nat} (h : ∀ b, b ∈ bl → b.length = z) {i : Nat} (hi : i ≤ bl.length) : (bl.take i).flatten.length = i * z := by
  have key : ∀ (l : List (List Value)), (∀ b, b ∈ l → b.length = z) → l.flatten.length = l.length * z := by
    intro l
    induction l with
    | nil => intro _; simp
    | cons b l ih => intro hl; rw [List.flatten_cons, List.length_append, hl b (by simp), ih (fun c hc => hl c (by simp [hc])), List.length_cons, Nat.succ_mul]; omega
  rw [key _ (fun b hb => h b (List.mem_of_mem_take hb)), List.length_take, Nat.min_eq_left hi]

/-- Filling equal blocks. -/
theorem fill_rows {X : Cx} {t : Ty} {l0 : List t.T} {bl : List (List Value)} (h0 : All2 (repT X t) l0 bl) {xs : List (Nat × t.T)} {vs : List (Nat × Value)} (hx : All2 (fun (p : Nat × t.T) (v : Nat × List Value) => p.1 = v.1 ∧ repT X t p.2 v.2) xs (vs.map fun p => (p.1, p.2.cells.toList)))
    (hf : fitI l0.length xs = true) : ∃ cs, Instr.fill (fun i => some (i * t.size, t.size)) bl.flatten.toArray vs = some cs.toArray ∧ rowOf (repT X t) (putBl l0 xs) cs := by
  have hlen : ∀ b, b ∈ bl → b.length = t.size := fun b hb => by
    obtain ⟨a, _, ha⟩ := h0.mem b hb
    exact repT_length X t a b ha
  refine ⟨_, fill_blocks _ vs bl (fun i b hb => ?_) (fun p hp => ?_), (h0.put hx).row⟩
  · obtain ⟨hi, e⟩ := List.getElem?_eq_some_iff.1 hb
    rw [flatten_take_const hlen (Nat.le_of_lt hi), hlen b (List.mem_of_getElem? hb)]
  · obtain ⟨q, hq, e, hr⟩ := hx.mem (p.1, p.2.cells.toList) (List.mem_map.2 ⟨p, hp, rfl⟩)
    have hlt := fitI_spec hf q hq
    rw [e, h0.length] at hlt
    refine ⟨bl[p.1], List.getElem?_eq_getElem hlt, ?_⟩
    rw [hlen _ (List.getElem_mem hlt)]
    have := repT_length X t _ _ hr
    simpa using this

theorem qBuildA_run {C : Cfg} (hC : COk C) {w : World} {X : Cx} (hE : X.E = C.E) {a : Act} {env : List Tm} {t : TypeId} {parts : Array (Nat × Operand)} {φ : Prop} {tm : Tm} (h : qBuildA C.E C.L env t parts.toList = some (φ, tm)) (hr : RelE X a.tmps env) :
    ∃ u, (Instr.build t (parts.map fun (i, x) => (i, a.eval x))).run C.P w = .ok u w ∧ repTm X u tm := by
  unfold qBuildA at h
  split at h
  · rename_i n1 n2 n3 n e m u l0 n5 hl
    have hT := hC.at hl
    obtain ⟨d, hu, hs⟩ := hT.under
    obtain ⟨rfl⟩ : d = .array n e := by cases d <;> simp_all [skel]
    split at h
    · rename_i ei ps he hps
      split at h
      · rename_i xs hxs
        cases hf : (Nat.beq m n && Nat.beq u.size ei.cells && fitI n xs) with
        | false => simp [hf] at h
        | true =>
          simp only [hf, cond_true, Option.some.injEq, Prod.mk.injEq] at h
          obtain ⟨e1, e2⟩ := h
          subst e1; subst e2
          simp only [Bool.and_eq_true] at hf
          obtain ⟨⟨hm, hus⟩, hfi⟩ := hf
          have hm := beq_eq hm
          have hus := beq_eq hus
          rw [← hE] at hps
          have hA2 := (partsA_rep hr parts.toList ps hps).map_cells
          have hx := partsT_rep hxs hA2
          obtain ⟨zv, zcs, hzv, hzc, hze⟩ := hT.zeroV
          have hz : Nat.beq l0.length m = true ∧ flatM (encT u) l0 = some zcs := by
            simp only [encPs, encP] at hze
            cases hb : Nat.beq l0.length m with
            | false => simp [hb] at hze
            | true =>
              simp only [hb, cond_true] at hze
              cases hq : flatM (encT u) l0 with
              | none => simp [hq] at hze
              | some q => simp [hq] at hze; exact ⟨rfl, by rw [hze]⟩
          have hl0 := beq_eq hz.1
          obtain ⟨bl, e3, hbl⟩ := flatM_blocks l0 zcs hz.2
          obtain ⟨cs, hfill, hrow⟩ := fill_rows (X := X) (hbl.imp fun x b hb => encT_rep u x b hb) hx (by rw [hl0, hm]; exact hfi)
          refine ⟨.agg cs.toArray, ?_, cs, rfl, cs, [], by simp, ⟨by rw [putBl_length, hl0], hrow⟩, rfl⟩
          have hmm : (parts.map fun (x : Nat × Operand) => (x.1, a.eval x.2)).toList = parts.toList.map fun p => (p.1, a.eval p.2) := by simp
          unfold Instr.build
          rw [e3] at hzc
          rw [hus] at hfill
          simp only [Sem.run_bind, hzv w, Result.andThen_ok, run_underlying hu, (hC.at he).size w, hmm, hzc, hfill, Sem.run_pure]
      · cases h
    · cases h
  · cases h

end Go.Proofs.YtllannmegnklmaaE
