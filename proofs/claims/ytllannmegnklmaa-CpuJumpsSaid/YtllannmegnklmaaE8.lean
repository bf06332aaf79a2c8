/- Operations that make or turn boxes. -/
import Derived.Test.YtllannmegnklmaaE7
import Derived.Laws.MakeOwn
set_option linter.unusedVariables false
set_option linter.unusedSimpArgs false
set_option linter.unnecessarySimpa false
namespace Go.Proofs.YtllannmegnklmaaE
open Go

/-- What a step leaves: a value for its slot, the slots, the boxes. -/
structure Out where
  φ : Prop
  tm : Tm
  env : List Tm
  bs : List Box

/-- A step of the machine that a 'Out' tells. -/
def Done (C : Cfg) (m : Nat) (Z : Nat → Prop) (β : Nat → Option (Nat × Nat)) (w : World) (bs : List Box) (a : Act) (r : Out) (res : Result Next) : Prop :=
  ∃ n v w' β', res = .ok n w' ∧ (n = .value v ∨ (n = .skip ∧ v = undef)) ∧ repTm (mkX C.E Z β' w' r.bs) v r.tm ∧ RelE (mkX C.E Z β' w' r.bs) a.tmps r.env ∧ RelB C.E C.G Z β' w' r.bs ∧ Ext m Z β bs w Z β' r.bs w'

section
variable {C : Cfg} {m : Nat} {Z : Nat → Prop} {β : Nat → Option (Nat × Nat)} {w : World} {bs : List Box} {a : Act} {env : List Tm}

theorem Done.quiet (h : RelB C.E C.G Z β w bs) (hr : RelE (mkX C.E Z β w bs) a.tmps env) {φ : Prop} {tm : Tm} {res : Result Next} (hq : ∃ u, res = .ok (.value u) w ∧ repTm (mkX C.E Z β w bs) u tm) : Done C m Z β w bs a ⟨φ, tm, env, bs⟩ res := by
  obtain ⟨u, h1, h2⟩ := hq
  exact ⟨.value u, u, w, β, h1, .inl rfl, h2, hr, h, Ext.refl ..⟩

/-- A new box with its block. -/
theorem Done.ex (hm : m ≤ bs.length) (h : RelB C.E C.G Z β w bs) (hr : RelE (mkX C.E Z β w bs) a.tmps env) {ty : TypeId} {ps : List Piece} {cs : List Value} (hp : repPs (mkX C.E Z β w bs) ps cs) {w0 : World} (h0 : w0.heap = w.heap ∧ w0.os = w.os ∧ w0.tape = w.tape ∧ w0.output = w.output)
    {φ : Prop} {tm : Tm} {v : Value} {res : Result Next} (hres : res = .ok (.value v) (w0.alloc (.cells cs.toArray ty)))
    (hv : ∀ X : Cx, X.nb = bs.length + 1 → X.al bs.length = true → X.β bs.length = some (w.heap.size, cs.length) → repTm X v tm) : Done C m Z β w bs a ⟨φ, tm, env, bs ++ [.ex false ps ty]⟩ res := by
  obtain ⟨e1, e2, e3, e4⟩ := h0
  have hhs : (w0.alloc (.cells cs.toArray ty)).heap = w.heap.push (.cells cs.toArray ty) := by show w0.heap.push _ = _; rw [e1]
  have hh : ∀ k, k < w.heap.size → (w0.alloc (.cells cs.toArray ty)).heap[k]? = w.heap[k]? := fun k hk => by rw [hhs, Array.getElem?_push, if_neg (by omega)]
  have hs : w.heap.size ≤ (w0.alloc (.cells cs.toArray ty)).heap.size := by rw [hhs]; simp
  have hx : ∀ b n, some (w.heap.size, cs.length) = some (b, n) → b = w.heap.size := fun b n e => by cases e; rfl
  have hle0 : (mkX C.E Z β w bs).le (mkX C.E Z (upd β bs.length (some (w.heap.size, cs.length))) (w0.alloc (.cells cs.toArray ty)) (bs ++ [.ex false ps ty])) := ⟨rfl, fun _ h => h, fun k hk => hh k (h.zlt k hk)⟩
  have hok0 : ∀ j, (mkX C.E Z β w bs).okAt (mkX C.E Z (upd β bs.length (some (w.heap.size, cs.length))) (w0.alloc (.cells cs.toArray ty)) (bs ++ [.ex false ps ty])) j := fun j hj => by
    have hj : j < bs.length := hj
    exact ⟨by show j < (bs ++ [_]).length; simp; omega, fun ha => ⟨by simpa [mkX, bAl_push hj] using ha, upd_other β _ (by omega)⟩⟩
  obtain ⟨g1, g2, g3⟩ := h.push (w' := w0.alloc (.cells cs.toArray ty)) (bx := .ex false ps ty) rfl (some (w.heap.size, cs.length)) hx hs hh
    ⟨w.heap.size, cs, (0, 0), upd_same .., by show (w0.alloc (.cells cs.toArray ty)).heap[w.heap.size]? = _; rw [hhs]; simp, ⟨Nat.le_refl _, fun o _ ho => by omega, fun _ => rfl⟩, repPs_le hle0 (fun i _ => hok0 i) hp⟩
  refine ⟨_, v, _, upd β bs.length (some (w.heap.size, cs.length)), hres, .inl rfl, hv _ (by simp [mkX]) ?_ (upd_same ..), hr.step g2 fun tm _ j _ => g3 j, g1, Ext.push _ hx hm e2 e3 e4 hs hh⟩
  show bAl _ _ = true
  simp [bAl, Box.alive]

/-- A new row that may grow, with its block. -/
theorem Done.gro (hm : m ≤ bs.length) (h : RelB C.E C.G Z β w bs) (hr : RelE (mkX C.E Z β w bs) a.tmps env) {ty : TypeId} {t : Ty} {l : List t.T} {c1 c2 : List Value} (hp : rowOf (repT (mkX C.E Z β w bs) t) l c1) (h1c : ∀ v ∈ c2, v.oneCell' = true)
    {w0 : World} (h0 : w0.heap = w.heap ∧ w0.os = w.os ∧ w0.tape = w.tape ∧ w0.output = w.output) {fr : Nat × Nat} (hfr : thaw fr (c1 ++ c2).length)
    {φ : Prop} {tm : Tm} {v : Value} {res : Result Next} (hres : res = .ok (.value v) (w0.alloc (.cells (c1 ++ c2).toArray ty fr)))
    (hv : ∀ X : Cx, X.nb = bs.length + 1 → X.al bs.length = true → X.β bs.length = some (w.heap.size, (c1 ++ c2).length) → repTm X v tm) : Done C m Z β w bs a ⟨φ, tm, env, bs ++ [.gro false t l ty]⟩ res := by
  obtain ⟨e1, e2, e3, e4⟩ := h0
  generalize hob : Obj.cells (c1 ++ c2).toArray ty fr = ob at hres
  have hhs : (w0.alloc ob).heap = w.heap.push ob := by show w0.heap.push _ = _; rw [e1]
  have hh : ∀ k, k < w.heap.size → (w0.alloc ob).heap[k]? = w.heap[k]? := fun k hk => by rw [hhs, Array.getElem?_push, if_neg (by omega)]
  have hs : w.heap.size ≤ (w0.alloc ob).heap.size := by rw [hhs]; simp
  have hx : ∀ b n, some (w.heap.size, (c1 ++ c2).length) = some (b, n) → b = w.heap.size := fun b n e => by cases e; rfl
  have hle0 : (mkX C.E Z β w bs).le (mkX C.E Z (upd β bs.length (some (w.heap.size, (c1 ++ c2).length))) (w0.alloc ob) (bs ++ [.gro false t l ty])) := ⟨rfl, fun _ h => h, fun k hk => hh k (h.zlt k hk)⟩
  have hp' := rowOf_mono (fun x ds => repT_le hle0 t x ds) l c1 hp
  obtain ⟨g1, g2, g3⟩ := h.push (w' := w0.alloc ob) (bx := .gro false t l ty) rfl (some (w.heap.size, (c1 ++ c2).length)) hx hs hh
    (.inr ⟨w.heap.size, c1 ++ c2, fr, c1, c2, upd_same .., by show (w0.alloc ob).heap[w.heap.size]? = _; rw [hhs, ← hob]; simp, hfr, rfl, hp', fun u hu => by
      rcases List.mem_append.1 hu with hu | hu
      · exact rowOf_one l c1 hp u hu
      · exact h1c u hu⟩)
  refine ⟨_, v, _, upd β bs.length (some (w.heap.size, (c1 ++ c2).length)), hres, .inl rfl, hv _ (by simp [mkX]) ?_ (upd_same ..), hr.step g2 fun tm _ j _ => g3 j, g1, Ext.push _ hx hm e2 e3 e4 hs hh⟩
  show bAl _ _ = true
  simp [bAl, Box.alive]

/-- A new row that has no block yet. -/
theorem Done.nil (hm : m ≤ bs.length) (h : RelB C.E C.G Z β w bs) (hr : RelE (mkX C.E Z β w bs) a.tmps env) {ty : TypeId} {t : Ty} {l : List t.T} (hl : l = [])
    {φ : Prop} {tm : Tm} {v : Value} {res : Result Next} (hres : res = .ok (.value v) w)
    (hv : ∀ X : Cx, X.nb = bs.length + 1 → repTm X v tm) : Done C m Z β w bs a ⟨φ, tm, env, bs ++ [.gro false t l ty]⟩ res := by
  have hx : ∀ b n, (none : Option (Nat × Nat)) = some (b, n) → b = w.heap.size := fun b n e => by cases e
  obtain ⟨g1, g2, g3⟩ := h.push (w' := w) (bx := .gro false t l ty) rfl none hx (Nat.le_refl _) (fun _ _ => rfl) (.inl ⟨upd_same .., hl⟩)
  exact ⟨_, v, _, _, hres, .inl rfl, hv _ (by simp [mkX]), hr.step g2 fun tm _ j _ => g3 j, g1, Ext.push _ hx hm rfl rfl rfl (Nat.le_refl _) (fun _ _ => rfl)⟩

theorem ptr_new {X : Cx} {n b z : Nat} (h1 : X.nb = n + 1) (h3 : X.β n = some (b, z)) : repTm X (.pointer (some ⟨b, 0, none⟩)) (.v (.one (.ptr n ⟨0, 0, 0, 0⟩))) :=
  ⟨⟨by omega, fun _ => ⟨b, z, h3, rfl⟩⟩, rfl⟩

theorem os_new {X : Cx} {n b z len c esz : Nat} {cap : Option Nat} (h1 : X.nb = n + 1) (h3 : X.β n = some (b, z)) (hl : len ≤ c) (hcap : ∀ k, cap = some k → c = k) (hz : c * esz ≤ z) : repTm X (.slice (some ⟨b, 0, none⟩) len c) (.v (.one (.os n 0 0 esz len cap))) :=
  ⟨⟨by omega, fun _ => ⟨_, c, rfl, hl, hcap, fun _ => ⟨b, z, h3, by simp, by omega⟩⟩⟩, rfl⟩

/-! ### Making -/
def lAlloc (L : List (Nat × TI)) (env : List Tm) (bs : List Box) (t : TypeId) : Option Out := match look L t with
  | some ti => some ⟨True, .v (.one (.ptr bs.length ⟨0, 0, 0, 0⟩)), env, bs ++ [.ex false ti.zero t]⟩
  | none => none

theorem lAlloc_run (hC : COk C) (hm : m ≤ bs.length) (h : RelB C.E C.G Z β w bs) (hr : RelE (mkX C.E Z β w bs) a.tmps env) {t : TypeId} {r : Out} (hq : lAlloc C.L env bs t = some r) :
    Done C m Z β w bs a r ((do pure (Next.value (← Instr.alloc t true (.tuple #[]))) : Sem Next).run C.P w) := by
  unfold lAlloc at hq
  split at hq
  · rename_i ti hti
    cases hq
    obtain ⟨v, cs, hv, hc, he⟩ := (hC.at hti).zeroV
    refine Done.ex hm h hr (encPs_rep he) (w0 := w) ⟨rfl, rfl, rfl, rfl⟩ (v := .pointer (some ⟨w.heap.size, 0, none⟩)) (ok_value ?_) (fun X h1 h2 h3 => ptr_new h1 h3)
    simp only [Instr.alloc, Sem.run_bind, hv, Result.andThen_ok, newVar, newRow, hc, newObj, Sem.run, Sem.run_pure]
    rfl
  · cases hq

def lBox (E : TypeId) (env : List Tm) (bs : List Box) (t : TypeId) (x : Operand) : Option Out := match evalO E env x with
  | .v y => bif y.data then some ⟨True, .v (.one (.ptr bs.length ⟨0, 0, 0, 0⟩)), env, bs ++ [.ex false y.ps t]⟩ else none
  | _ => none

theorem lBox_run (hm : m ≤ bs.length) (h : RelB C.E C.G Z β w bs) (hr : RelE (mkX C.E Z β w bs) a.tmps env) {t : TypeId} {x : Operand} {r : Out} (hq : lBox C.E env bs t x = some r) :
    Done C m Z β w bs a r ((do pure (Next.value (← Instr.box t (a.eval x))) : Sem Next).run C.P w) := by
  unfold lBox at hq
  split at hq
  · rename_i y hy
    obtain ⟨hd, hq⟩ := cond_some hq
    cases hq
    have h1 : repTm (mkX C.E Z β w bs) (a.eval x) (evalO C.E env x) := evalO_rep hr x
    rw [hy] at h1
    refine Done.ex hm h hr (repAV_cells hd h1) (w0 := w) ⟨rfl, rfl, rfl, rfl⟩ (v := .pointer (some ⟨w.heap.size, 0, none⟩)) (ok_value ?_) (fun X h1 h2 h3 => ptr_new h1 h3)
    simp only [Instr.box, newVar, newRow, newObj, Sem.run_bind, Sem.run, Sem.run_pure, Result.andThen_ok, Array.toArray_toList]
    rfl
  · cases hq

theorem rep_flat (z : List Value) : ∀ (n i : Nat), i < n * z.length → (List.replicate n z).flatten[i]? = z[i % z.length]?
  | 0, i, h => by simp at h
  | n + 1, i, h => by
    rw [List.replicate_succ, List.flatten_cons]
    by_cases hi : i < z.length
    · rw [List.getElem?_append_left hi, Nat.mod_eq_of_lt hi]
    · rw [List.getElem?_append_right (by omega), rep_flat z n (i - z.length) (by rw [Nat.add_mul, Nat.one_mul] at h; omega), ← Nat.mod_eq_sub_mod (by omega)]

theorem madeCells_flat (z : List Value) (n : Nat) : madeCells z.toArray (n * z.length) = (List.replicate n z).flatten.toArray := by
  apply Array.ext'
  apply List.ext_getElem?
  intro i
  have hl : (List.replicate n z).flatten.length = n * z.length := by
    rw [List.length_flatten]; simp
  by_cases hi : i < n * z.length
  · have hz : 0 < z.length := by
      rcases Nat.eq_zero_or_pos z.length with e | e
      · rw [e] at hi; simp at hi
      · exact e
    have hmod : i % z.length < z.length := Nat.mod_lt _ hz
    simp only [madeCells]
    rw [rep_flat z n i hi, List.getElem?_eq_getElem hmod]
    simp [List.getElem?_eq_getElem, hi, hmod]
  · simp only [madeCells]
    rw [List.getElem?_eq_none (by simp; omega), List.getElem?_eq_none (by simp [hl]; omega)]

theorem replicate_rep {X : Cx} {t : Ty} {x : t.T} {z : List Value} (h : repT X t x z) : ∀ n, rowOf (repT X t) (List.replicate n x) (List.replicate n z).flatten
  | 0 => rfl
  | n + 1 => by
    rw [List.replicate_succ, List.replicate_succ, List.flatten_cons]
    exact ⟨z, _, rfl, h, replicate_rep h n⟩

theorem replicate_all {X : Cx} {t : Ty} {x : t.T} {z : List Value} (h : repT X t x z) : ∀ n, All2 (repT X t) (List.replicate n x) (List.replicate n z)
  | 0 => .nil
  | n + 1 => .cons h (replicate_all h n)

/-- A type's zero value as an element. -/
def zeroT (ti : TI) (t : Ty) : Option t.T := match mkT t ti.zero with
  | some (x, []) => some x
  | _ => none

theorem zeroT_rep {P : Program} {t : TypeId} {ti : TI} (hT : TOk P t ti) {u : Ty} {x : u.T} (h : zeroT ti u = some x) : ∃ v z, (∀ w, (zeroValue t).run P w = .ok v w) ∧ v.cells = z.toArray ∧ (∀ X : Cx, repT X u x z) ∧ z.length = ti.cells ∧ u.size = ti.cells := by
  obtain ⟨v, cs, hv, hc, he⟩ := hT.zeroV
  have hl := hT.zl
  rw [he] at hl
  have hl : cs.length = ti.cells := by simpa using hl
  have key : ∀ X : Cx, repT X u x cs := by
    intro X
    unfold zeroT at h
    split at h
    · rename_i y hm
      cases h
      obtain ⟨c1, c2, e1, h3, h4⟩ := mkT_rep u (encPs_rep (X := X) he) hm
      rw [show c2 = [] from h4, List.append_nil] at e1
      rw [e1]; exact h3
    · cases h
  refine ⟨v, cs, hv, hc, key, hl, ?_⟩
  rw [← hl]
  exact (repT_length ⟨0, fun _ => none, fun _ => false, 0, fun _ => False, default⟩ u x cs (key _)).symm

def lMake (E : TypeId) (L : List (Nat × TI)) (env : List Tm) (bs : List Box) (d : OD) (t : TypeId) (l c : Operand) : Option Out := match look L t, evalO E env l, evalO E env c with
  | some ⟨_, _, _, .slice e, _, _⟩, .v (.one (.sc (.int _ ln))), .v (.one (.sc (.int _ cn))) => match look L e with
    | some ei => match ei.ty with
      | some u => match zeroT ei u, d with
        | some x0, .no => some ⟨0 ≤ ln ∧ ln = cn ∧ (ei.bytes : Int) * cn ≤ 281474976710656 ∧ cn ≤ 9223372036854775807, .v (.one (.os bs.length 0 0 u.size ln.toNat (some ln.toNat))), env, bs ++ [.ex false [.row ln.toNat u (List.replicate ln.toNat x0)] e]⟩
        | some x0, .b true => some ⟨ln = 0 ∧ 0 ≤ cn ∧ (ei.bytes : Int) * cn ≤ 281474976710656 ∧ cn ≤ 9223372036854775807, .v (.one (.os bs.length 0 0 u.size 0 none)), env, bs ++ [.gro false u [] e]⟩
        | _, _ => none
      | none => none
    | none => none
  | _, _, _ => none

theorem lMake_run (hC : COk C) (hm : m ≤ bs.length) (h : RelB C.E C.G Z β w bs) (hr : RelE (mkX C.E Z β w bs) a.tmps env) {d : OD} {t : TypeId} {l c : Operand} {r : Out} (hq : lMake C.E C.L env bs d t l c = some r) (hφ : r.φ) :
    Done C m Z β w bs a r ((do pure (Next.value (← Instr.makeSlice t (a.eval l) (a.eval c))) : Sem Next).run C.P w) := by
  unfold lMake at hq
  split at hq
  · rename_i n1 n2 n3 e n4 n5 k1 ln k2 cn hl hln hcn
    have h1 : repTm (mkX C.E Z β w bs) (a.eval l) (evalO C.E env l) := evalO_rep hr l
    have h2 : repTm (mkX C.E Z β w bs) (a.eval c) (evalO C.E env c) := evalO_rep hr c
    rw [hln] at h1
    rw [hcn] at h2
    have e1 := sc_rep h1 rfl
    have e2 := sc_rep h2 rfl
    obtain ⟨dd, hdu, hds⟩ := (hC.at hl).under
    have : dd = .slice e := by cases dd <;> simp_all [skel]
    subst this
    split at hq
    · rename_i ei hei
      have hE := hC.at hei
      split at hq
      · rename_i u hu
        -- the element's info
        have hinfo := hE.info
        cases hqi : C.P.info? e with
        | none => simp [hqi] at hinfo
        | some i =>
          simp [hqi] at hinfo
          split at hq
          · rename_i x0 hx0
            cases hq
            obtain ⟨p0, rfl, p2, p3⟩ := hφ
            obtain ⟨zv, z, hzv, hzc, hzr, hzl, hus⟩ := zeroT_rep hE hx0
            have hzz : i.zero = some zv := by
              have := hzv w
              cases hz : i.zero with
              | none => simp [zeroValue, typeInfo, hqi, hz] at this
              | some q => simp [zeroValue, typeInfo, hqi, hz] at this; rw [this]
            have hrun := run_make (P := C.P) w t e i zv hdu hqi hzz k1 k2 ln ln p0 (Int.le_refl _) (by rw [hinfo.2]; exact p2) p3
            rw [hzc, hinfo.1, ← hzl, madeCells_flat] at hrun
            have hrow := replicate_rep (hzr (mkX C.E Z β w bs)) ln.toNat
            have hlen : (List.replicate ln.toNat z).flatten.length = ln.toNat * u.size := by rw [List.length_flatten]; simp [hzl, hus]
            refine Done.ex hm h hr (ps := [.row ln.toNat u (List.replicate ln.toNat x0)]) ⟨_, [], (List.append_nil _).symm, ⟨List.length_replicate, hrow⟩, rfl⟩ (w0 := w) ⟨rfl, rfl, rfl, rfl⟩ (v := .slice (some ⟨w.heap.size, 0, none⟩) ln.toNat ln.toNat) (ok_value ?_) (fun X h1 h2 h3 => os_new h1 h3 (Nat.le_refl _) (fun k hk => by cases hk; rfl) (by rw [hlen]; exact Nat.le_refl _))
            rw [e1, e2]; exact hrun
          · rename_i x0 hx0
            cases hq
            obtain ⟨rfl, p0, p2, p3⟩ := hφ
            obtain ⟨zv, z, hzv, hzc, hzr, hzl, hus⟩ := zeroT_rep hE hx0
            have hzz : i.zero = some zv := by
              have := hzv w
              cases hz : i.zero with
              | none => simp [zeroValue, typeInfo, hqi, hz] at this
              | some q => simp [zeroValue, typeInfo, hqi, hz] at this; rw [this]
            have hrun := run_make (P := C.P) w t e i zv hdu hqi hzz k1 k2 0 cn (Int.le_refl _) p0 (by rw [hinfo.2]; exact p2) p3
            rw [hzc, hinfo.1, ← hzl, madeCells_flat] at hrun
            have hrow := replicate_rep (hzr (mkX C.E Z β w bs)) cn.toNat
            have hlen : (List.replicate cn.toNat z).flatten.length = cn.toNat * u.size := by rw [List.length_flatten]; simp [hzl, hus]
            refine Done.gro hm h hr (t := u) (l := []) (c1 := []) (c2 := (List.replicate cn.toNat z).flatten) rfl (rowOf_one _ _ hrow) (w0 := w) ⟨rfl, rfl, rfl, rfl⟩ (fr := (0, 0)) ⟨Nat.le_refl _, fun o _ ho => by omega, fun _ => rfl⟩ (v := .slice (some ⟨w.heap.size, 0, none⟩) 0 cn.toNat) (ok_value ?_) (fun X h1 h2 h3 => os_new h1 h3 (Nat.zero_le _) (fun k hk => by cases hk) (by simp only [List.nil_append]; rw [hlen]; exact Nat.le_refl _))
            rw [e1, e2]; exact hrun
          · cases hq
      · cases hq
    · cases hq
  · cases hq

def lBuildSl (E : TypeId) (L : List (Nat × TI)) (env : List Tm) (bs : List Box) (t : TypeId) (len : Nat) (parts : List (Nat × Operand)) : Option Out := match look L t with
  | some ⟨_, _, _, .slice e, _, _⟩ => match look L e with
    | some ei => match ei.ty with
      | some u => match zeroT ei u, partsA E env parts with
        | some x0, some ps => (match partsT u ps with
          | some xs => bif fitI len xs && (Nat.ble (len * ei.cells) 16777216 && !Nat.beq (len * ei.cells) 0) then some ⟨True, .v (.one (.os bs.length 0 0 u.size len (some len))), env, bs ++ [.ex false [.row len u (putBl (List.replicate len x0) xs)] e]⟩ else none
          | none => none)
        | _, _ => none
      | none => none
    | none => none
  | _ => none

/-- An empty literal. -/
def lBuild0 (L : List (Nat × TI)) (env : List Tm) (bs : List Box) (t : TypeId) : Option Out := match look L t with
  | some ⟨_, _, _, .slice e, _, _⟩ => match look L e with
    | some ei => match ei.ty with
      | some u => some ⟨True, .v (.one (.os bs.length 0 0 u.size 0 (some 0))), env, bs ++ [.gro false u [] e]⟩
      | none => none
    | none => none
  | _ => none

theorem lBuild0_run (hC : COk C) (hm : m ≤ bs.length) (h : RelB C.E C.G Z β w bs) (hr : RelE (mkX C.E Z β w bs) a.tmps env) {t : TypeId} {parts : Array (Nat × Operand)} {r : Out} (hp : parts.toList = []) (hq : lBuild0 C.L env bs t = some r) :
    Done C m Z β w bs a r ((do pure (Next.value (← Instr.buildSlice t 0 (parts.map fun (i, x) => (i, a.eval x)))) : Sem Next).run C.P w) := by
  unfold lBuild0 at hq
  split at hq
  · rename_i n1 n2 n3 e n4 n5 hl
    obtain ⟨dd, hdu, hds⟩ := (hC.at hl).under
    have : dd = .slice e := by cases dd <;> simp_all [skel]
    subst this
    split at hq
    · rename_i ei hei
      have hE := hC.at hei
      split at hq
      · rename_i u hu
        cases hq
        have hp' : parts = #[] := by apply Array.ext'; simpa using hp
        subst hp'
        refine Done.gro hm h hr (t := u) (l := []) (c1 := []) (c2 := []) rfl (fun v hv => by cases hv) (w0 := w) ⟨rfl, rfl, rfl, rfl⟩ (fr := (0, 0)) ⟨Nat.le_refl _, fun o _ ho => by omega, fun _ => rfl⟩ (v := .slice (some ⟨w.heap.size, 0, none⟩) 0 0) (ok_value ?_) (fun X h1 h2 h3 => os_new h1 h3 (Nat.le_refl _) (fun k hk => by cases hk; rfl) (by simp))
        unfold Instr.buildSlice
        simp only [Sem.run_bind, run_underlying hdu, Result.andThen_ok, hE.size w]
        simp [Instr.fill, newRow, newObj, Sem.run, Sem.run_pure, Result.andThen_ok]
        have : (Array.range 0) = #[] := by decide
        rw [this, Array.map_empty]
      · cases hq
    · cases hq
  · cases hq

theorem lBuildSl_run (hC : COk C) (hm : m ≤ bs.length) (h : RelB C.E C.G Z β w bs) (hr : RelE (mkX C.E Z β w bs) a.tmps env) {t : TypeId} {len : Nat} {parts : Array (Nat × Operand)} {r : Out} (hq : lBuildSl C.E C.L env bs t len parts.toList = some r) :
    Done C m Z β w bs a r ((do pure (Next.value (← Instr.buildSlice t len (parts.map fun (i, x) => (i, a.eval x)))) : Sem Next).run C.P w) := by
  unfold lBuildSl at hq
  split at hq
  · rename_i n1 n2 n3 e n4 n5 hl
    obtain ⟨dd, hdu, hds⟩ := (hC.at hl).under
    have : dd = .slice e := by cases dd <;> simp_all [skel]
    subst this
    split at hq
    · rename_i ei hei
      have hE := hC.at hei
      split at hq
      · rename_i u hu
        split at hq
        · rename_i x0 ps hx0 hps
          split at hq
          · rename_i xs hxs
            obtain ⟨hf, hq⟩ := cond_some hq
            cases hq
            rw [Bool.and_eq_true, Bool.and_eq_true] at hf
            have hble := Nat.le_of_ble_eq_true hf.2.1
            have h0 : ¬ (len * ei.cells = 0) := fun e => by have := hf.2.2; rw [e] at this; cases this
            obtain ⟨zv, z, hzv, hzc, hzr, hzl, hus⟩ := zeroT_rep hE hx0
            have hA2 := (partsA_rep hr parts.toList ps hps).map_cells
            have hx := partsT_rep hxs hA2
            obtain ⟨cs, hfill, hrow⟩ := fill_rows (replicate_all (hzr (mkX C.E Z β w bs)) len) hx (by rw [List.length_replicate]; exact hf.1)
            have hlen : cs.length = len * u.size := by
              have := rowOf_length (fun x ds => repT_length _ u x ds) _ cs hrow
              rw [this, putBl_length, List.length_replicate]
            refine Done.ex hm h hr (ps := [.row len u (putBl (List.replicate len x0) xs)]) ⟨cs, [], (List.append_nil _).symm, ⟨by rw [putBl_length, List.length_replicate], hrow⟩, rfl⟩ (w0 := w) ⟨rfl, rfl, rfl, rfl⟩ (v := .slice (some ⟨w.heap.size, 0, none⟩) len len) (ok_value ?_) (fun X h1 h2 h3 => os_new h1 h3 (Nat.le_refl _) (fun k hk => by cases hk; rfl) (by rw [hlen]; exact Nat.le_refl _))
            have hmm : (parts.map fun (x : Nat × Operand) => (x.1, a.eval x.2)).toList = parts.toList.map fun p => (p.1, a.eval p.2) := by simp
            have hn : ¬ (len * ei.cells > 2 ^ 24) := by omega
            have hmade := madeCells_flat z len
            rw [hzl] at hmade
            unfold madeCells at hmade
            unfold Instr.buildSlice
            simp only [Sem.run_bind, run_underlying hdu, Result.andThen_ok, hE.size w, hn, if_false, Sem.run_pure]
            simp only [h0, if_false, Sem.run_bind, hzv w, Result.andThen_ok, Sem.run_pure, hzc, hmade, hmm]
            rw [hus] at hfill
            rw [hfill]
            simp only [newRow, newObj, Sem.run_bind, Sem.run, Sem.run_pure, Result.andThen_ok]
            rfl
          · cases hq
        · cases hq
      · cases hq
    · cases hq
  · cases hq
/-- A literal of a slice that nobody writes any more. -/
def lBuildF (E : TypeId) (L : List (Nat × TI)) (env : List Tm) (t : TypeId) (len : Nat) (parts : List (Nat × Operand)) : Option (Prop × Tm) := match look L t with
  | some ⟨_, _, _, .slice e, _, _⟩ => match look L e with
    | some ei => match ei.ty with
      | some u => match zeroT ei u, partsA E env parts with
        | some x0, some ps => (match partsT u ps with
          | some xs => bif fitI len xs && (Nat.ble (len * ei.cells) 16777216 && !Nat.beq (len * ei.cells) 0) then some (True, .v (.one (.fs u (putBl (List.replicate len x0) xs) true))) else none
          | none => none)
        | _, _ => none
      | none => none
    | none => none
  | _ => none

theorem lBuildF_run (hC : COk C) (h : RelB C.E C.G Z β w bs) (hr : RelE (mkX C.E Z β w bs) a.tmps env) {t : TypeId} {len : Nat} {parts : Array (Nat × Operand)} {φ : Prop} {tm : Tm} (hq : lBuildF C.E C.L env t len parts.toList = some (φ, tm)) :
    ∃ v w' Z', (do pure (Next.value (← Instr.buildSlice t len (parts.map fun (i, x) => (i, a.eval x)))) : Sem Next).run C.P w = .ok (.value v) w' ∧ repTm (mkX C.E Z' β w' bs) v tm ∧ RelE (mkX C.E Z' β w' bs) a.tmps env ∧ RelB C.E C.G Z' β w' bs ∧ Ext m Z β bs w Z' β bs w' := by
  unfold lBuildF at hq
  split at hq
  · rename_i n1 n2 n3 e n4 n5 hl
    obtain ⟨dd, hdu, hds⟩ := (hC.at hl).under
    have : dd = .slice e := by cases dd <;> simp_all [skel]
    subst this
    split at hq
    · rename_i ei hei
      have hE := hC.at hei
      split at hq
      · rename_i u hu
        split at hq
        · rename_i x0 ps hx0 hps
          split at hq
          · rename_i xs hxs
            obtain ⟨hf, hq⟩ := cond_some hq
            cases hq
            rw [Bool.and_eq_true, Bool.and_eq_true] at hf
            have hble := Nat.le_of_ble_eq_true hf.2.1
            have h0 : ¬ (len * ei.cells = 0) := fun e => by have := hf.2.2; rw [e] at this; cases this
            obtain ⟨zv, z, hzv, hzc, hzr, hzl, hus⟩ := zeroT_rep hE hx0
            have hA2 := (partsA_rep hr parts.toList ps hps).map_cells
            have hx := partsT_rep hxs hA2
            obtain ⟨cs, hfill, hrow⟩ := fill_rows (replicate_all (hzr (mkX C.E Z β w bs)) len) hx (by rw [List.length_replicate]; exact hf.1)
            have hmm : (parts.map fun (x : Nat × Operand) => (x.1, a.eval x.2)).toList = parts.toList.map fun p => (p.1, a.eval p.2) := by simp
            have hn : ¬ (len * ei.cells > 2 ^ 24) := by omega
            have hmade := madeCells_flat z len
            rw [hzl] at hmade
            unfold madeCells at hmade
            generalize hob : Obj.cells cs.toArray e (0, 0) = ob
            have hhs : (w.alloc ob).heap = w.heap.push ob := rfl
            have hh : ∀ k, k < w.heap.size → (w.alloc ob).heap[k]? = w.heap[k]? := fun k hk => by rw [hhs, Array.getElem?_push, if_neg (by omega)]
            have hs : w.heap.size ≤ (w.alloc ob).heap.size := by rw [hhs]; simp
            obtain ⟨g1, g2⟩ := h.quiet hs hh
            have hle : (mkX C.E Z β w bs).le (mkX C.E (fun b => Z b ∨ b = w.heap.size) β (w.alloc ob) bs) := ⟨rfl, fun b hb => .inl hb, fun b hb => hh b (h.zlt b hb)⟩
            have hle2 : (mkX C.E Z β (w.alloc ob) bs).le (mkX C.E (fun b => Z b ∨ b = w.heap.size) β (w.alloc ob) bs) := ⟨rfl, fun b hb => .inl hb, fun b hb => rfl⟩
            refine ⟨.slice (some ⟨w.heap.size, 0, none⟩) len len, w.alloc ob, fun b => Z b ∨ b = w.heap.size, ok_value ?_, ?_, hr.step hle fun _ _ _ _ hl => ⟨hl, fun ha => ⟨ha, rfl⟩⟩, ?_, ?_⟩
            · unfold Instr.buildSlice
              simp only [Sem.run_bind, run_underlying hdu, Result.andThen_ok, hE.size w, hn, if_false, Sem.run_pure]
              simp only [h0, if_false, Sem.run_bind, hzv w, Result.andThen_ok, Sem.run_pure, hzc, hmade, hmm]
              rw [hus] at hfill
              rw [hfill]
              simp only [newRow, newObj, Sem.run_bind, Sem.run, Sem.run_pure, Result.andThen_ok]
              rw [← hob]
              rfl
            · refine ⟨⟨⟨some ⟨w.heap.size, 0, none⟩, len, len, rfl, by rw [putBl_length, List.length_replicate], Nat.le_refl _, fun _ => ⟨⟨w.heap.size, 0, none⟩, cs, rfl, rowOf_mono (fun x ds => repT_le hle u x ds) _ cs hrow, rfl, .inr rfl, fun j v hj => ?_⟩⟩, fun _ x n c e => by cases e; rfl⟩, rfl⟩
              show (w.alloc ob).cell? _ = some v
              rw [lookup_add]
              unfold World.cell?
              simp only [hhs]
              have hb : (w.heap.push ob)[w.heap.size]? = some (.cells cs.toArray e (0, 0)) := by rw [← hob]; simp
              simp only [hb]
              simpa using hj
            · refine g1.step hle2 (fun i bx hi => ?_) g1.inj (fun b hb => ?_) (fun b hb i n hi e => ?_) (fun i b n h1 h2 e => .inl (g1.zro i b n h1 h2 e))
              · exact .inr ⟨hi, rfl, fun _ _ _ _ => rfl, fun j _ hl => ⟨hl, fun ha => ⟨ha, rfl⟩⟩⟩
              · rcases hb with hb | rfl
                · exact g1.zlt b hb
                · rw [hhs]; simp
              · rcases hb with hb | rfl
                · exact g1.zrw b hb i n hi e
                · have := h.lt (bRw_al hi) e; omega
            · exact ⟨rfl, rfl, rfl, hs, fun b hb _ => hh b hb, fun b hb => .inl hb, fun i b n hi e => .inr ⟨i, n, hi, e⟩, fun b hb => by
                rcases hb with hb | rfl
                · exact .inl hb
                · exact .inr (.inl (Nat.le_refl _)), fun _ _ h => h, fun _ _ _ => rfl⟩
          · cases hq
        · cases hq
      · cases hq
    · cases hq
  · cases hq
end

end Go.Proofs.YtllannmegnklmaaE
