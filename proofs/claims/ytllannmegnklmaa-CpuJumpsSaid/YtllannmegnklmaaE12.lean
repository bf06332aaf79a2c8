/- Runs of operations, and of code, over the small world. -/
import Derived.Test.YtllannmegnklmaaER
set_option linter.unusedVariables false
set_option linter.unusedSimpArgs false
set_option linter.unnecessarySimpa false
namespace Go.Proofs.YtllannmegnklmaaE
open Go

def odB : OD → Bool
  | .b q => q
  | .mv q => q
  | .x d => odB d
  | _ => false
def odX : OD → Bool
  | .x _ => true
  | _ => false
def odN : OD → Bool
  | .x (.x _) => true
  | _ => false
def odM : OD → Bool
  | .mv _ => true
  | _ => false

/-! What leads to a box that may move leads nowhere from now on. -/
def Cell.lose (id n : Nat) : Cell → Cell
  | .os i b l e k c => bif Nat.beq i id then .os n 0 0 1 0 none else .os i b l e k c
  | .ptr i o => bif Nat.beq i id then .os n 0 0 1 0 none else .ptr i o
  | .ip t i => bif Nat.beq i id then .os n 0 0 1 0 none else .ip t i
  | x => x
def Piece.lose (id n : Nat) : Piece → Piece
  | .c x => .c (x.lose id n)
  | p => p
def Box.lose (id n : Nat) : Box → Box
  | .ex ro ps ty => .ex ro (ps.map (Piece.lose id n)) ty
  | b => b
def loseB (id : Nat) (bs : List Box) : List Box := bs.map (Box.lose id bs.length) ++ [.dead]

theorem lose_cell {X : Cx} {id n : Nat} (hn : n < X.nb) (hd : X.al n = false) {v : Value} {c : Cell} (h : repC X v c) : repC X v (c.lose id n) := by
  have hdead : repC X v (.os n 0 0 1 0 none) := ⟨hn, fun ha => by rw [hd] at ha; cases ha⟩
  cases c with
  | os i b l e k c =>
    show repC X v (bif Nat.beq i id then .os n 0 0 1 0 none else .os i b l e k c)
    cases Nat.beq i id with
    | true => exact hdead
    | false => exact h
  | ptr i o =>
    show repC X v (bif Nat.beq i id then .os n 0 0 1 0 none else .ptr i o)
    cases Nat.beq i id with
    | true => exact hdead
    | false => exact h
  | ip t i =>
    show repC X v (bif Nat.beq i id then .os n 0 0 1 0 none else .ip t i)
    cases Nat.beq i id with
    | true => exact hdead
    | false => exact h
  | _ => exact h
theorem lose_ps {X : Cx} {id n : Nat} (hn : n < X.nb) (hd : X.al n = false) : ∀ {ps : List Piece} {cs : List Value}, repPs X ps cs → repPs X (ps.map (Piece.lose id n)) cs
  | [], _, h => h
  | p :: ps, _, ⟨c1, c2, e, h1, h2⟩ => ⟨c1, c2, e, by
    cases p with
    | c x => obtain ⟨v, e1, h3, ho⟩ := h1; exact ⟨v, e1, lose_cell hn hd h3, ho⟩
    | row n t l => exact h1, lose_ps hn hd h2⟩
theorem lose_box {X : Cx} {id n i : Nat} (hn : n < X.nb) (hd : X.al n = false) {b : Box} (h : repBox X i b) : repBox X i (b.lose id n) := by
  cases b with
  | ex ro ps ty => obtain ⟨b, cs, fr, h1, h2, h3, h4⟩ := h; exact ⟨b, cs, fr, h1, h2, h3, lose_ps hn hd h4⟩
  | _ => exact h

theorem loseB_rel {E : TypeId} {G : Globs} {m : Nat} {Z : Nat → Prop} {β : Nat → Option (Nat × Nat)} {w : World} {bs : List Box} (id : Nat) (h : RelB E G Z β w bs) :
    RelB E G Z β w (loseB id bs) ∧ (mkX E Z β w bs).le (mkX E Z β w (loseB id bs)) ∧ (∀ j, (mkX E Z β w bs).okAt (mkX E Z β w (loseB id bs)) j) ∧ Ext m Z β bs w Z β (loseB id bs) w := by
  have hlen : (loseB id bs).length = bs.length + 1 := by simp [loseB]
  have get : ∀ j, j < bs.length → (loseB id bs)[j]? = (bs[j]?).map (Box.lose id bs.length) := fun j hj => by
    unfold loseB
    rw [List.getElem?_append_left (by simpa using hj), List.getElem?_map]
  have last : (loseB id bs)[bs.length]? = some .dead := by
    unfold loseB
    rw [List.getElem?_append_right (by simp)]
    simp
  have same : ∀ b : Box, (b.lose id bs.length).alive = b.alive ∧ (b.lose id bs.length).rw = b.rw ∧ (b.lose id bs.length).isEx = b.isEx := fun b => by cases b <;> exact ⟨rfl, rfl, rfl⟩
  have hal : ∀ j, bAl (loseB id bs) j = bAl bs j := fun j => by
    unfold bAl
    rcases Nat.lt_trichotomy j bs.length with hj | hj | hj
    · rw [get j hj]
      cases bs[j]? with
      | none => rfl
      | some b => exact (same b).1
    · subst hj; rw [last, List.getElem?_eq_none (Nat.le_refl _)]; rfl
    · rw [List.getElem?_eq_none (by rw [hlen]; omega), List.getElem?_eq_none (by omega)]
  have hrw : ∀ j, bRw (loseB id bs) j = bRw bs j := fun j => by
    unfold bRw
    rcases Nat.lt_trichotomy j bs.length with hj | hj | hj
    · rw [get j hj]
      cases bs[j]? with
      | none => rfl
      | some b => exact (same b).2.1
    · subst hj; rw [last, List.getElem?_eq_none (Nat.le_refl _)]; rfl
    · rw [List.getElem?_eq_none (by rw [hlen]; omega), List.getElem?_eq_none (by omega)]
  have hex : ∀ j, bEx (loseB id bs) j = bEx bs j := fun j => by
    unfold bEx
    rcases Nat.lt_trichotomy j bs.length with hj | hj | hj
    · rw [get j hj]
      cases bs[j]? with
      | none => rfl
      | some b => exact (same b).2.2
    · subst hj; rw [last, List.getElem?_eq_none (Nat.le_refl _)]; rfl
    · rw [List.getElem?_eq_none (by rw [hlen]; omega), List.getElem?_eq_none (by omega)]
  have hle : (mkX E Z β w bs).le (mkX E Z β w (loseB id bs)) := ⟨rfl, fun _ h => h, fun _ _ => rfl⟩
  have hok : ∀ j, (mkX E Z β w bs).okAt (mkX E Z β w (loseB id bs)) j := fun j hj => ⟨by show j < (loseB id bs).length; rw [hlen]; have hj : j < bs.length := hj; omega, fun ha => ⟨by have ha : bAl (loseB id bs) j = true := ha; rw [hal] at ha; exact ha, rfl⟩⟩
  have hdead : (mkX E Z β w (loseB id bs)).al bs.length = false := by show bAl _ _ = false; rw [hal]; unfold bAl; rw [List.getElem?_eq_none (Nat.le_refl _)]; rfl
  refine ⟨⟨fun i bx hi => ?_, fun i j b n k hi hj => h.inj i j b n k (by rw [← hal]; exact hi) (by rw [← hal]; exact hj), h.zlt, fun b hb i n hi => h.zrw b hb i n (by rw [← hrw]; exact hi), fun i b n h1 h2 => h.zro i b n (by rw [← hal]; exact h1) (by rw [← hrw]; exact h2), h.glob⟩, hle, hok, rfl, rfl, rfl, Nat.le_refl _, fun _ _ _ => rfl, fun _ h => h, fun i b n hi e => .inr ⟨i, n, by rw [← hrw]; exact hi, e⟩, fun _ h => .inl h, fun i _ hi => by rw [← hex]; exact hi, fun _ _ _ => rfl⟩
  rcases Nat.lt_trichotomy i bs.length with hj | hj | hj
  · rw [get i hj] at hi
    cases hb : bs[i]? with
    | none => rw [hb] at hi; cases hi
    | some b =>
      rw [hb] at hi
      cases hi
      refine lose_box (show bs.length < (loseB id bs).length by omega) hdead ?_
      cases hb2 : b.alive with
      | false => cases b <;> first | trivial | cases hb2
      | true => exact repBox_le hle rfl (fun _ _ _ => rfl) (fun j _ => hok j) (h.box i b hb)
  · subst hj; rw [last] at hi; cases hi; trivial
  · rw [List.getElem?_eq_none (by omega)] at hi; cases hi

def tabAt : List (Nat × IntKind × List Int) → Nat → Option (IntKind × List Int)
  | [], _ => none
  | (g, k, l) :: r, i => bif Nat.beq g i then some (k, l) else tabAt r i

theorem tabAt_mem : ∀ {L : List (Nat × IntKind × List Int)} {g : Nat} {k : IntKind} {l : List Int}, tabAt L g = some (k, l) → (g, k, l) ∈ L
  | [], _, _, _, h => by cases h
  | (g0, k0, l0) :: r, g, k, l, h => by
    simp only [tabAt] at h
    cases hb : Nat.beq g0 g with
    | true => simp only [hb, cond_true, Option.some.injEq, Prod.mk.injEq] at h; rw [beq_eq hb, h.1, h.2]; exact List.mem_cons_self ..
    | false => simp only [hb, cond_false] at h; exact List.mem_cons_of_mem _ (tabAt_mem h)

/-- An element of a table in a variable. -/
def lGlob (C : Cfg) (env : List Tm) (bs : List Box) (t : TypeId) (x i : Operand) : Option Out := match evalO C.E env x, evalO C.E env i, look C.L t with
  | .v (.one (.sc (.pointer (some ⟨g, 0, none⟩)))), .v (.one (.sc (.int _ n))), some ⟨_, _, _, .array m e, _, _⟩ => (match look C.L e, tabAt C.gt g with
    | some ei, some (k, l) => bif Nat.beq ei.cells 1 && Nat.beq l.length m then some ⟨0 ≤ n ∧ n < (m : Int), .v (.one (.fp (.int k) (l.getD n.toNat 0) 0)), env, bs⟩ else none
    | _, _ => none)
  | _, _, _ => none

theorem lGlob_run {C : Cfg} (hC : COk C) {Z : Nat → Prop} {β : Nat → Option (Nat × Nat)} {w : World} {env : List Tm} {bs : List Box} (h : RelB C.E C.G Z β w bs) {t : TypeId} {x i : Operand} {u v : Value} {r : Out} (hq : lGlob C env bs t x i = some r) (hφ : r.φ)
    (hu : repTm (mkX C.E Z β w bs) u (evalO C.E env x)) (hv : repTm (mkX C.E Z β w bs) v (evalO C.E env i)) : ∃ z, (Instr.indexAt t u v).run C.P w = .ok z w ∧ repTm (mkX C.E Z β w bs) z r.tm ∧ r.env = env ∧ r.bs = bs := by
  unfold lGlob at hq
  split at hq
  · rename_i g k0 n a1 a2 a3 m e a4 a5 e1 e2 hl
    rw [e1] at hu
    rw [e2] at hv
    have hu := sc_rep hu rfl
    have hv := sc_rep hv rfl
    subst hu hv
    have hT := hC.at hl
    obtain ⟨d, hd, hs⟩ := hT.under
    obtain ⟨rfl⟩ : d = .array m e := by cases d <;> simp_all [skel]
    split at hq
    · rename_i ei k l he ht
      have hsz := (hC.at he).size w
      obtain ⟨hb, hq⟩ := cond_some hq
      cases hq
      simp only [Bool.and_eq_true] at hb
      have hb1 := beq_eq hb.1
      have hb2 := beq_eq hb.2
      have hn : 0 ≤ n ∧ n < (m : Int) := hφ
      have hlt : n.toNat < l.length := by omega
      have hg := h.glob (⟨g, n.toNat, none⟩, .int k (l.getD n.toNat 0)) (hC.tab _ (tabAt_mem ht) _ (List.mem_map.2 ⟨n.toNat, List.mem_range.2 hlt, rfl⟩))
      refine ⟨.pointer (some ⟨g, n.toNat, none⟩), ?_, ⟨⟨⟨g, n.toNat, none⟩, [.int k (l.getD n.toNat 0)], rfl, rfl, hg.2, rfl, fun j w0 hj => ?_⟩, rfl⟩, rfl, rfl⟩
      · simp [Instr.indexAt, asIntOf, run_underlying hd, Instr.sureAddr, hn.1, hn.2, hsz, lookup_add, hb1]
      · rw [Nat.zero_add] at hj
        cases j with
        | zero =>
          simp at hj
          subst hj
          have this : w.cell? ⟨g, n.toNat, none⟩ = some (.int k (l.getD n.toNat 0)) := hg.1
          show w.cell? _ = _
          simpa [Addr.add] using this
        | succ j => simp at hj
    · cases hq
  · cases hq

def lOp (C : Cfg) (env : List Tm) (bs : List Box) (op : Op) (d : OD) : Option Out := match op with
  | .alloc t => lAlloc C.L env bs t
  | .box t x => lBox C.E env bs t x
  | .buildSlice t n parts => bif odB d then (match lBuildF C.E C.L env t n parts.toList with | some (φ, tm) => some ⟨φ, tm, env, bs⟩ | none => none) else bif Nat.beq n 0 && parts.toList.isEmpty then lBuild0 C.L env bs t else lBuildSl C.E C.L env bs t n parts.toList
  | .makeSlice t l c => lMake C.E C.L env bs d t l c
  | .store t p x => lStore C.E C.L env bs t p x
  | .convert s t x => lBytes C.L env bs s t (evalO C.E env x)
  | .call c => match c.callee, c.args.toList, c.argTypes.toList with
    | .builtin .append, [s, x], [sT, xT] => bif intT C.L xT then lAppendN C.E C.L env bs sT s x else bif odM d then (match (evalO C.E env s).id1 with
      | some id => lAppend C.E C.L env (loseB id bs) (odB d) sT xT s x
      | none => none) else lAppend C.E C.L env bs (odB d) sT xT s x
    | .builtin .copy, [s, x], [sT, xT] => lCopy C.E C.L env bs (odB d) sT s x
    | .builtin .clear, [s], [sT] => lClear C.E C.L env bs sT s
    | .builtin _, _, _ => none
    | _, _, _ => (match d with
      | .callR full hs σ r bs' => (match callF C env c with | some (f, ts) => lCallR C env bs f ts full hs σ r bs' | none => none)
      | .callP full hs r => (match lCallP C env c full hs r with | some (φ, tm) => some ⟨φ, tm, env, bs⟩ | none => none)
      | .callQ full hs r => (match lCallQ C env bs c full hs r with | some (φ, tm) => some ⟨φ, tm, env, bs⟩ | none => none)
      | _ => lCall C env bs c d)
  | .binOp op t x y _ => lEq C env bs op t x y
  | .indexAddr t x i => lGlob C env bs t x i
  | _ => none

def stepO (C : Cfg) (env : List Tm) (bs : List Box) (op : Op) (d : OD) : Option Out := match qOp C.E C.L env bs op d with
  | some (φ, tm) => some ⟨φ, tm, env, bs⟩
  | none => lOp C env bs op d

section
variable {C : Cfg} {m : Nat} {Z : Nat → Prop} {β : Nat → Option (Nat × Nat)} {w : World} {bs : List Box} {a : Act} {env : List Tm}

theorem call2 {c : Call} {b : Builtin} {s x : Operand} {sT xT : TypeId} (h1 : c.callee = .builtin b) (h2 : c.args.toList = [s, x]) (h3 : c.argTypes.toList = [sT, xT]) (ty : TypeId) {S : Sem Next} (hS : ∀ cs, builtin b #[sT, xT] ty cs #[a.eval s, a.eval x] = S) (P : Program) (w : World) :
    (do let d ← resolve a.eval c ty; invoke d.target d.args : Sem Next).run P w = S.run P w := by
  have e2 : c.args.map a.eval = #[a.eval s, a.eval x] := by
    have : c.args = #[s, x] := by apply Array.ext'; simpa using h2
    rw [this]; simp
  have e3 : c.argTypes = #[sT, xT] := by apply Array.ext'; simpa using h3
  simp only [resolve, h1, e2, e3, Sem.run_bind, Sem.run_pure, Result.andThen_ok, invoke, hS]

theorem call1c {c : Call} {b : Builtin} {s : Operand} {sT : TypeId} (h1 : c.callee = .builtin b) (h2 : c.args.toList = [s]) (h3 : c.argTypes.toList = [sT]) (ty : TypeId) {S : Sem Next} (hS : ∀ cs, builtin b #[sT] ty cs #[a.eval s] = S) (P : Program) (w : World) :
    (do let d ← resolve a.eval c ty; invoke d.target d.args : Sem Next).run P w = S.run P w := by
  have e2 : c.args.map a.eval = #[a.eval s] := by
    have : c.args = #[s] := by apply Array.ext'; simpa using h2
    rw [this]; simp
  have e3 : c.argTypes = #[sT] := by apply Array.ext'; simpa using h3
  simp only [resolve, h1, e2, e3, Sem.run_bind, Sem.run_pure, Result.andThen_ok, invoke, hS]

theorem stepO_wp (hC : COk C) (hm : m ≤ bs.length) (h : RelB C.E C.G Z β w bs) (hr : RelE (mkX C.E Z β w bs) a.tmps env) {o : Oper} {d : OD} {r : Out} (hq : stepO C env bs o.op d = some r) (hφ : r.φ)
    {K : Act → World → Prop} {Q : Exit → Act → World → Prop} (hK : Going C m Z β w bs a r fun v w' => K (a.put o.dst v) w') : o.wp C.P a w K Q := by
  unfold stepO at hq
  split at hq
  · rename_i φ tm hqq
    cases hq
    exact (Done.quiet h hr (qOp_run hC h hr hqq hφ)).wp hK
  · unfold lOp at hq
    split at hq
    · rename_i t ho
      refine Done.wp ?_ hK
      unfold execOp; rw [ho]; exact lAlloc_run hC hm h hr hq
    · rename_i t x ho
      refine Done.wp ?_ hK
      unfold execOp; rw [ho]; exact lBox_run hm h hr hq
    · rename_i t n parts ho
      cases hd : odB d with
      | true =>
        simp only [hd, cond_true] at hq
        split at hq
        · rename_i φ tm hF
          cases hq
          obtain ⟨v, w', Z', h1, h2, h3, h4, h5⟩ := lBuildF_run (m := m) hC h hr hF
          have he : (execOp a.eval o).run C.P w = .ok (.value v) w' := by unfold execOp; rw [ho]; exact h1
          unfold Oper.wp
          rw [he]
          exact hK v Z' β w' h2 h3 h4 h5
        · cases hq
      | false =>
      simp only [hd, cond_false] at hq
      refine Done.wp ?_ hK
      unfold execOp; rw [ho]
      cases hb : (Nat.beq n 0 && parts.toList.isEmpty) with
      | true =>
        simp only [hb, cond_true] at hq
        rw [Bool.and_eq_true] at hb
        obtain rfl := beq_eq hb.1
        exact lBuild0_run hC hm h hr (by simpa using hb.2) hq
      | false =>
        simp only [hb, cond_false] at hq
        exact lBuildSl_run hC hm h hr hq
    · rename_i t l c ho
      refine Done.wp ?_ hK
      unfold execOp; rw [ho]; exact lMake_run hC hm h hr hq hφ
    · rename_i t p x ho
      refine Done.wp ?_ hK
      unfold execOp; rw [ho]; exact lStore_run hC h hr hq hφ
    · rename_i s t x ho
      refine Done.wp ?_ hK
      unfold execOp; rw [ho]; exact lBytes_run hC hm h hr (evalO_rep hr x) hq hφ
    · rename_i c ho
      split at hq
      · rename_i s x sT xT h1 h2 h3
        refine Done.wp ?_ hK
        unfold execOp; rw [ho]
        show Done C m Z β w bs a r ((do let d ← resolve a.eval c o.type; invoke d.target d.args : Sem Next).run C.P w)
        rw [call2 h1 h2 h3 o.type (fun _ => rfl)]
        cases hT : intT C.L xT with
        | true => rw [hT] at hq; exact lAppendN_run (ty := o.type) hC hm h hr hT hq hφ
        | false =>
          rw [hT] at hq
          simp only [cond_false] at hq
          cases hM : odM d with
          | false => rw [hM] at hq; exact lAppend_run (ty := o.type) hC hm h hr hq hφ
          | true =>
            rw [hM] at hq
            simp only [cond_true] at hq
            split at hq
            · rename_i id _
              obtain ⟨g1, g2, g3, g4⟩ := loseB_rel (m := m) id h
              have hm2 : m ≤ (loseB id bs).length := by simp [loseB]; omega
              obtain ⟨n, v, w', β', k1, k2, k3, k4, k5, k6⟩ := lAppend_run (m := m) (ty := o.type) hC hm2 g1 (hr.step g2 fun _ _ j _ => g3 j) hq hφ
              exact ⟨n, v, w', β', k1, k2, k3, k4, k5, g4.trans k6⟩
            · cases hq
      · rename_i s x sT xT h1 h2 h3
        refine Done.wp ?_ hK
        unfold execOp; rw [ho]
        show Done C m Z β w bs a r ((do let d ← resolve a.eval c o.type; invoke d.target d.args : Sem Next).run C.P w)
        rw [call2 h1 h2 h3 o.type (fun _ => rfl)]
        exact lCopy_run (ty := o.type) hC h hr hq hφ
      · rename_i s sT h1 h2 h3
        refine Done.wp ?_ hK
        unfold execOp; rw [ho]
        show Done C m Z β w bs a r ((do let d ← resolve a.eval c o.type; invoke d.target d.args : Sem Next).run C.P w)
        rw [call1c h1 h2 h3 o.type (fun _ => rfl)]
        exact lClear_run (ty := o.type) hC h hr hq hφ
      · cases hq
      · split at hq
        · split at hq
          · rename_i hcal
            exact lCallR_wp hC hm h hr ho hcal hq hφ hK
          · cases hq
        · split at hq
          · rename_i hP
            cases hq
            exact lCall_wp hC h hr ho (lCallP_lCall bs hP) hφ hK
          · cases hq
        · split at hq
          · rename_i hP
            cases hq
            exact lCall_wp hC h hr ho (lCallQ_lCall hP) hφ hK
          · cases hq
        · exact lCall_wp hC h hr ho hq hφ hK
    · rename_i op t x y t2 ho
      refine Done.wp ?_ hK
      obtain ⟨z, h1, h2, h3, h4⟩ := lEq_run hC (w := w) hq (evalO_rep hr x) (evalO_rep hr y)
      unfold execOp; rw [ho]
      refine ⟨.value z, z, w, β, ok_value h1, .inl rfl, ?_, ?_, ?_, ?_⟩
      · rw [h4]; exact h2
      · rw [h3, h4]; exact hr
      · rw [h4]; exact h
      · rw [h4]; exact Ext.refl ..
    · rename_i t x i ho
      refine Done.wp ?_ hK
      obtain ⟨z, h1, h2, h3, h4⟩ := lGlob_run hC h hq hφ (evalO_rep hr x) (evalO_rep hr i)
      unfold execOp; rw [ho]
      refine ⟨.value z, z, w, β, ok_value h1, .inl rfl, ?_, ?_, ?_, ?_⟩
      · rw [h4]; exact h2
      · rw [h3, h4]; exact hr
      · rw [h4]; exact h
      · rw [h4]; exact Ext.refl ..
    · cases hq
end

/-! ### One operation of a region -/
structure PD where
  g : Option Bool
  d : OD
  m : Bool

def putE (env : List Tm) (dst : Option Tmp) (tm : Tm) : List Tm := match dst with
  | some d => env.set d tm
  | none => env

theorem RelE.putE {X : Cx} {a : Act} {env : List Tm} (h : RelE X a.tmps env) {dst : Option Tmp} {v : Value} {tm : Tm} (hv : repTm X v tm) : RelE X (a.put dst v).tmps (putE env dst tm) := by
  cases dst with
  | none => exact h
  | some d => exact h.put hv

/-- A state, and what stands for it. -/
def RelM (C : Cfg) (Z : Nat → Prop) (β : Nat → Option (Nat × Nat)) (w : World) (a : Act) (s : St) : Prop := Rel C.E C.G Z β w a s ∧ s.m ≤ s.boxes.length

/-- How code goes on from a state. -/
def Goes (C : Cfg) (m : Nat) (Z : Nat → Prop) (β : Nat → Option (Nat × Nat)) (bs : List Box) (w : World) (s' : St) (K : Act → World → Prop) : Prop :=
  ∀ Z' β' a' w', RelM C Z' β' w' a' s' → Ext m Z β bs w Z' β' s'.boxes w' → K a' w'

theorem put_defers (a : Act) (dst : Option Tmp) (v : Value) : (a.put dst v).defers = a.defers := by cases dst <;> rfl

/-- No box goes. -/
def Out.keeps (r : Out) (n : Nat) : Bool := Nat.ble n r.bs.length

theorem stepO_goes {C : Cfg} (hC : COk C) {Z : Nat → Prop} {β : Nat → Option (Nat × Nat)} {w : World} {a : Act} {s : St} (h : RelM C Z β w a s) {o : Oper} {d : OD} {r : Out} (hq : stepO C s.env s.boxes o.op d = some r) (hφ : r.φ) (hk : r.keeps s.m = true)
    {K : Act → World → Prop} {Q : Exit → Act → World → Prop} (hK : Goes C s.m Z β s.boxes w ⟨putE r.env o.dst r.tm, r.bs, s.m⟩ K) : o.wp C.P a w K Q :=
  stepO_wp hC h.2 h.1.bx h.1.env hq hφ fun v Z' β' w' h1 h2 h3 h4 => hK Z' β' _ w' ⟨⟨by rw [put_defers]; exact h.1.defers, h2.putE h1, h3⟩, Nat.le_of_ble_eq_true hk⟩ h4

theorem yielded_eq {C : Cfg} {Z : Nat → Prop} {β : Nat → Option (Nat × Nat)} {w : World} {a : Act} {s : St} (h : RelM C Z β w a s) {ops : Array Oper} {j : Nat} {t : Tmp} (ht : (ops.toList[j]?).bind (·.dst) = some t) {b : Bool} (he : s.env.getD t .any = .v (.one (.sc (.bool b)))) : yielded ops a.tmps j = some b := by
  have h1 := evalO_rep h.1.env (.tmp t)
  have he' : evalO (mkX C.E Z β w s.boxes).E s.env (.tmp t) = .v (.one (.sc (.bool b))) := he
  rw [he'] at h1
  have h2 := sc_rep h1 rfl
  have ht2 : (ops[j]?).bind (·.dst) = some t := by simpa using ht
  have hlt : t < a.tmps.size := by
    rcases Nat.lt_or_ge t a.tmps.size with hl | hl
    · exact hl
    · rw [h.1.env.1] at hl
      rw [List.getD_eq_getElem?_getD, List.getElem?_eq_none hl] at he
      cases he
  unfold yielded
  rw [ht2]
  simp only [Act.eval, Array.getD_eq_getD_getElem?, Array.getElem?_eq_getElem hlt, Option.getD_some] at h2
  simp only [Option.bind_some, Array.getElem?_eq_getElem hlt, h2]

theorem yielded_none {C : Cfg} {Z : Nat → Prop} {β : Nat → Option (Nat × Nat)} {w : World} {a : Act} {s : St} (h : RelM C Z β w a s) {ops : Array Oper} {j : Nat} {t : Tmp} (ht : (ops.toList[j]?).bind (·.dst) = some t) (he : s.env.getD t .any = .tup []) : yielded ops a.tmps j = none := by
  have h1 := evalO_rep h.1.env (.tmp t)
  have he' : evalO (mkX C.E Z β w s.boxes).E s.env (.tmp t) = .tup [] := he
  rw [he'] at h1
  obtain ⟨vs, h2, h3⟩ := h1
  obtain rfl : vs = [] := h3
  have ht2 : (ops[j]?).bind (·.dst) = some t := by simpa using ht
  have hlt : t < a.tmps.size := by
    rcases Nat.lt_or_ge t a.tmps.size with hl | hl
    · exact hl
    · rw [h.1.env.1] at hl
      rw [List.getD_eq_getElem?_getD, List.getElem?_eq_none hl] at he
      cases he
  unfold yielded
  rw [ht2]
  simp only [Act.eval, Array.getD_eq_getD_getElem?, Array.getElem?_eq_getElem hlt, Option.getD_some] at h2
  simp only [Option.bind_some, Array.getElem?_eq_getElem hlt, h2]

/-! ### The script of a run: what must be told on the way -/
inductive Adj where
  | keep (l : List Nat)
  | drop (n : Nat)
  | dead (i : Nat)
  | co (t : Nat) (full : Bool) (hs : List Ty)
  | nilGro (t : Nat) (u : Ty) (e : TypeId)
  | newG (u : Ty) (e : TypeId)
  | nilB (i j k z : Nat)
  | sel (l : List Nat)
  | cut (i k : Nat)
  | nocap
  | coB (i : Nat) (full : Bool) (hs : List Ty)
  | fixB (q : Bool) (i : Nat)
  | len (i j n : Nat)

inductive Scr : Type 1 where
  | nil
  | d (d : OD) (k : Scr)
  | br (k1 k2 : Scr)
  | nq (k1 k2 : Scr)
  | one (q : Bool) (k : Scr)
  | call (full : Bool) (hs : List Ty) (T : Type) (sh : T → Tm) (k : T → Scr)
  | callR (full : Bool) (hs : List Ty) (σ : List Nat) (T : Type) (sh : T → Tm) (sb : T → List Box) (k : T → Scr)
  | alt (k1 k2 : Scr)
  | altb (k1 k2 : Scr)
  | sub (T : Type) (e : T → Exit) (post : T → St) (k : T → Scr)
  | blk (T : Type) (e : T → Exit) (post : T → St) (k : T → Scr)
  | emb (b : Bool) (k1 k2 : Scr)
  | ex (T : Type) (k : T → Scr)
  | dr (ps : List (Nat × PD)) (k : Scr)
  | drP (ps : List (Nat × PD)) (cs : List (List Nat × List Nat)) (s1 : St) (k : Scr)
  | adj (l : List Adj) (k : Scr)
  | aj (l : List Adj) (k : Scr)
  | callX (full : Bool) (hs : List Ty) (σ : List Nat) (T : Type) (sv : T → Value) (sb : T → List Box) (k : T → Scr)
  | orx (k1 k2 : Scr)
  | pan (k : Scr)
  | drX (ps : List (Nat × PD)) (n : Nat) (cs : List (List Nat)) (k : Scr)

/-- One of several ways, whichever. -/
def altE (F : Scr → Prop) (k1 : Scr) : Scr → Prop
  | .alt k2 k3 => F k1 ∨ altE F k2 k3
  | k2 => F k1 ∨ F k2

theorem altE_any {F : Scr → Prop} : ∀ {k2 k1 : Scr}, altE F k1 k2 → ∃ k, F k := by
  intro k2
  induction k2 with
  | alt a b iha ihb =>
    intro k1 h
    rcases h with h | h
    · exact ⟨_, h⟩
    · exact ihb h
  | _ =>
    intro k1 h
    rcases h with h | h
    · exact ⟨_, h⟩
    · exact ⟨_, h⟩

def altB (F : Scr → Prop) (k1 : Scr) : Scr → Prop
  | .altb k2 k3 => F k1 ∨ altB F k2 k3
  | k2 => F k1 ∨ F k2

theorem altB_any {F : Scr → Prop} : ∀ {k2 k1 : Scr}, altB F k1 k2 → ∃ k, F k := by
  intro k2
  induction k2 with
  | altb a b iha ihb =>
    intro k1 h
    rcases h with h | h
    · exact ⟨_, h⟩
    · exact ihb h
  | _ =>
    intro k1 h
    rcases h with h | h
    · exact ⟨_, h⟩
    · exact ⟨_, h⟩

def needD (L : List (Nat × TI)) : Op → Bool
  | .makeSlice _ _ _ => true
  | .buildSlice _ _ _ => true
  | .convert s t _ => (match look L s, look L t with
    | some ⟨_, _, _, .slice _, _, _⟩, some ⟨_, _, _, .str, _, _⟩ => true
    | _, _ => false)
  | .call c => (match c.callee with
    | .builtin .append => true
    | .builtin .copy => true
    | _ => false)
  | _ => false

/-- Operations that ask nothing. -/
def triv : Op → Bool
  | .move _ | .assign _ | .alloc _ | .box _ _ | .build _ _ | .buildSlice _ _ _ | .extract _ _ | .unOp _ _ _ | .makeInterface _ _ | .field _ _ _ | .fieldAddr _ _ _ | .nilCheck _ => true
  | _ => false

theorem triv_true {C : Cfg} {env : List Tm} {bs : List Box} {op : Op} {d : OD} {r : Out} (h : stepO C env bs op d = some r) (ht : triv op = true) : r.φ := by
  unfold stepO at h
  split at h
  · rename_i φ tm hq
    cases h
    show φ
    cases op <;> first | (cases ht; done) | skip
    case move x => cases hq; trivial
    case assign x => cases hq; trivial
    case alloc t => cases hq
    case box t x => cases hq
    case buildSlice t n p => cases hq
    case build t parts =>
      simp only [qOp] at hq
      split at hq
      · unfold qBuildA at hq
        repeat' (first | (cases hq; done) | split at hq)
        obtain ⟨_, hq⟩ := cond_some hq
        cases hq; trivial
      · unfold qBuildS at hq
        repeat' (first | (cases hq; done) | split at hq)
        obtain ⟨_, hq⟩ := cond_some hq
        cases hq; trivial
    case extract x i =>
      simp only [qOp] at hq
      repeat' (first | (cases hq; done) | split at hq)
      cases hq; trivial
    case unOp op t x =>
      simp only [qOp, qUn] at hq
      split at hq <;> cases hq <;> trivial
    case makeInterface t x =>
      simp only [qOp] at hq
      split at hq
      · rename_i n hl hx
        cases hb : Nat.beq t C.E with
        | true => rw [hb] at hq; cases hq; trivial
        | false => rw [hb] at hq; cases hq; trivial
      · split at hq <;> cases hq
        trivial
      · split at hq <;> cases hq
        trivial
      · cases hq
    case field t x f =>
      simp only [qOp, qField] at hq
      repeat' (first | (cases hq; done) | split at hq)
      cases hq; trivial
    case fieldAddr t x f =>
      simp only [qOp] at hq
      obtain ⟨_, hq⟩ := cond_some hq
      unfold qFieldAddr at hq
      split at hq
      · split at hq
        · split at hq
          · obtain ⟨_, hq⟩ := cond_none hq
            split at hq <;> cases hq <;> trivial
          · cases hq
        · cases hq
      · cases hq
    case nilCheck x =>
      simp only [qOp] at hq
      split at hq
      · obtain ⟨_, hq⟩ := cond_some hq
        cases hq; trivial
      · cases hq; trivial
      · cases hq; trivial
      · cases hq
  · cases op <;> first | (cases ht; done) | skip
    case move x => cases h
    case assign x => cases h
    case build t p => cases h
    case extract x i => cases h
    case unOp o t x => cases h
    case makeInterface t x => cases h
    case field t x f => cases h
    case fieldAddr t x f => cases h
    case nilCheck x => cases h
    case alloc t =>
      simp only [lOp, lAlloc] at h
      split at h <;> cases h
      trivial
    case box t x =>
      simp only [lOp, lBox] at h
      split at h
      · obtain ⟨_, h⟩ := cond_some h
        cases h
        trivial
      · cases h
    case buildSlice t n parts _ =>
      simp only [lOp] at h
      cases hd : odB d with
      | true =>
        simp only [hd, cond_true] at h
        split at h
        · rename_i φ tm hF
          cases h
          unfold lBuildF at hF
          repeat' (first | (cases hF; done) | split at hF)
          obtain ⟨_, hF⟩ := cond_some hF
          cases hF
          trivial
        · cases h
      | false =>
      simp only [hd, cond_false] at h
      cases hb : (Nat.beq n 0 && parts.toList.isEmpty) with
      | true =>
        simp only [hb, cond_true, lBuild0] at h
        repeat' (first | (cases h; done) | split at h)
        cases h; trivial
      | false =>
        simp only [hb, cond_false, lBuildSl] at h
        repeat' (first | (cases h; done) | split at h)
        obtain ⟨_, h⟩ := cond_some h
        cases h; trivial

/-- Is a slice nil that is only looked at? (the answer where it is; then it's empty) -/
def nilT (C : Cfg) (env : List Tm) (bs : List Box) (op : BinOp) (t : TypeId) (x y : Operand) : Option (Bool × Prop) := match look C.L t, evalO C.E env x, evalO C.E env y with
  | some ⟨_, _, _, .slice _, _, _⟩, .v (.one (.fs u l _)), .v (.one (.sc (.slice none _ _))) => (match op with
    | .eql => some (true, List.length l = 0)
    | .neq => some (false, List.length l = 0)
    | _ => none)
  | some ⟨_, _, _, .slice _, _, _⟩, .v (.one (.os id _ _ _ len _)), .v (.one (.sc (.slice none _ _))) => bif bAl bs id then (match op with
    | .eql => some (true, len = 0)
    | .neq => some (false, len = 0)
    | _ => none) else none
  | _, _, _ => none

theorem nilT_run {C : Cfg} (hC : COk C) {X : Cx} {env : List Tm} {bs : List Box} (hX : X.al = bAl bs) {op : BinOp} {t : TypeId} {x y : Operand} {u v : Value} {q : Bool} {φ : Prop} {w : World} (hq : nilT C env bs op t x y = some (q, φ)) (hu : repTm X u (evalO C.E env x)) (hv : repTm X v (evalO C.E env y)) :
    ∃ b, ((do eqGuard op t x y u v; binOp op t u v) : Sem Value).run C.P w = .ok (.bool b) w ∧ (b = q → φ) := by
  unfold nilT at hq
  split at hq
  · rename_i n1 n2 n3 e n4 n5 u0 l tg s0 s1 hl e1 e2
    rw [e1] at hu
    rw [e2] at hv
    obtain rfl := sc_rep hv rfl
    obtain ⟨dd, hdu, hds⟩ := (hC.at hl).under
    have : dd = .slice e := by cases dd <;> simp_all [skel]
    subst this
    obtain ⟨⟨⟨a, n, c, e3, hlen, hnc, hr⟩, _⟩, _⟩ := hu
    cases e3
    have hrun := run_eqneq (P := C.P) (w := w) (t := t) (x := x) (y := y) (u := .slice a n c) (v := .slice none s0 s1) (r := a.isNone) (fun op => eqGuard_plain (by simp) (by simp)) rfl rfl (run_equal hdu _ _ _ fun k => by
      simp only [Op.equalIn]; rw [Sem.run_bind, run_underlying hdu]; cases a <;> rfl)
    have hemp : a.isNone = true → List.length l = 0 := fun ha => by
      rcases Nat.eq_zero_or_pos n with h0 | h0
      · omega
      · obtain ⟨p, ds, e4, _⟩ := hr h0
        rw [e4] at ha; cases ha
    split at hq
    · cases hq
      exact ⟨a.isNone, hrun.1, hemp⟩
    · cases hq
      refine ⟨!a.isNone, hrun.2, fun hb => hemp (by simpa using hb)⟩
    · cases hq
  · rename_i n1 n2 n3 e n4 n5 id b0 l0 z0 len c0 s0 s1 hl e1 e2
    obtain ⟨hal, hq⟩ := cond_some hq
    rw [e1] at hu
    rw [e2] at hv
    obtain rfl := sc_rep hv rfl
    obtain ⟨dd, hdu, hds⟩ := (hC.at hl).under
    have : dd = .slice e := by cases dd <;> simp_all [skel]
    subst this
    obtain ⟨⟨_, hu⟩, _⟩ := hu
    obtain ⟨a, c, e3, hnc, _, hc⟩ := hu (by rw [hX]; exact hal)
    cases e3
    have hrun := run_eqneq (P := C.P) (w := w) (t := t) (x := x) (y := y) (u := .slice a len c) (v := .slice none s0 s1) (r := a.isNone) (fun op => eqGuard_plain (by simp) (by simp)) rfl rfl (run_equal hdu _ _ _ fun k => by
      simp only [Op.equalIn]; rw [Sem.run_bind, run_underlying hdu]; cases a <;> rfl)
    have hemp : a.isNone = true → len = 0 := fun ha => by
      by_cases h0 : c = 0
      · omega
      · obtain ⟨b, z, _, e4, _⟩ := hc h0
        rw [e4] at ha; cases ha
    split at hq
    · cases hq
      exact ⟨a.isNone, hrun.1, hemp⟩
    · cases hq
      refine ⟨!a.isNone, hrun.2, fun hb => hemp (by simpa using hb)⟩
    · cases hq
  · cases hq

def stepK (C : Cfg) (o : Oper) (d : OD) (s : St) (K : St → Prop) : Prop := match stepO C s.env s.boxes o.op d with
  | some r => bif r.keeps s.m then (bif triv o.op then K ⟨putE r.env o.dst r.tm, r.bs, s.m⟩ else r.φ ∧ K ⟨putE r.env o.dst r.tm, r.bs, s.m⟩) else False
  | none => False

def stepE (C : Cfg) (o : Oper) (k : Scr) (s : St) (K : Scr → St → Prop) : Prop := match o.op with
  | .pick c _ _ => (match evalO C.E s.env c with
    | .v (.one (.sc (.bool b))) => (match k with
      | .br k1 k2 => (b = true → stepK C o (.b true) s (K k1)) ∧ (b = false → stepK C o (.b false) s (K k2))
      | .one q k' => stepK C o (.b q) s (K k')
      | _ => False)
    | _ => False)
  | .call ⟨.invoke _ _, _, _⟩ => (match k with
    | .callR full hs σ T sh sb k' => ∃ t : T, stepK C o (.callR full hs σ (sh t) (sb t)) s (K (k' t))
    | .alt k1 k2 => altE (fun k => match k with
      | .callR full hs σ T sh sb k' => ∃ t : T, stepK C o (.callR full hs σ (sh t) (sb t)) s (K (k' t))
      | _ => False) k1 k2
    | _ => False)
  | .call ⟨.value _, _, _⟩ => (match k with
    | .call full hs T sh k' => ∃ t : T, stepK C o (.call full hs (sh t)) s (K (k' t))
    | .callR full hs σ T sh sb k' => ∃ t : T, stepK C o (.callR full hs σ (sh t) (sb t)) s (K (k' t))
    | .alt k1 k2 => altE (fun k => match k with
      | .callR full hs σ T sh sb k' => ∃ t : T, stepK C o (.callR full hs σ (sh t) (sb t)) s (K (k' t))
      | _ => False) k1 k2
    | _ => False)
  | .binOp op t x y _ => (match k with
    | .nq k1 k2 => (match nilT C s.env s.boxes op t x y with
      | some (q, φ) => (φ → K k1 ⟨putE s.env o.dst (.v (.one (.sc (.bool q)))), s.boxes, s.m⟩) ∧ K k2 ⟨putE s.env o.dst (.v (.one (.sc (.bool (!q))))), s.boxes, s.m⟩
      | none => False)
    | _ => stepK C o .no s (K k))
  | op => bif needD C.L op then (match k with
    | .d d k' => stepK C o d s (K k')
    | _ => False) else stepK C o .no s (K k)

def guardE (C : Cfg) (ol : List Oper) (o : Oper) (k : Scr) (s : St) (K : Scr → St → Prop) : Prop := match o.guard with
  | none => stepE C o k s K
  | some (j, want) => (match (ol[j]?).bind (·.dst) with
    | some t => (match s.env.getD t .any with
      | .v (.one (.sc (.bool b))) => (match k with
        | .br k1 k2 => (b = want → stepE C o (bif want then k1 else k2) s K) ∧ (b = !want → K (bif want then k2 else k1) ⟨putE s.env o.dst (.tup []), s.boxes, s.m⟩)
        | .one q k' => b = q ∧ (bif q == want then stepE C o k' s K else K k' ⟨putE s.env o.dst (.tup []), s.boxes, s.m⟩)
        | _ => False)
      | .tup [] => K k ⟨putE s.env o.dst (.tup []), s.boxes, s.m⟩
      | _ => False)
    | none => False)

def opsE (C : Cfg) (ol : List Oper) : List Oper → Scr → St → (Scr → St → Prop) → Prop
  | [], k, s, K => K k s
  | o :: os, k, s, K => guardE C ol o k s fun k' s' => opsE C ol os k' s' K

section
variable {C : Cfg} {Z : Nat → Prop} {β : Nat → Option (Nat × Nat)} {w : World} {a : Act} {s : St}

theorem stepK_wp (hC : COk C) (h : RelM C Z β w a s) {o : Oper} {d : OD} {K : St → Prop} (hq : stepK C o d s K) {N : Act → World → Prop} {Q : Exit → Act → World → Prop}
    (hN : ∀ s', s'.m = s.m → K s' → Goes C s.m Z β s.boxes w s' N) : o.wp C.P a w N Q := by
  unfold stepK at hq
  split at hq
  · rename_i r hr
    cases hk : r.keeps s.m with
    | false => rw [hk] at hq; exact hq.elim
    | true =>
      rw [hk] at hq
      cases ht : triv o.op with
      | true =>
        rw [ht] at hq
        exact stepO_goes hC h hr (triv_true hr ht) hk (hN _ rfl hq)
      | false =>
        rw [ht] at hq
        exact stepO_goes hC h hr hq.1 hk (hN _ rfl hq.2)
  · exact hq.elim

theorem stepE_wp (hC : COk C) (h : RelM C Z β w a s) {o : Oper} {k : Scr} {K : Scr → St → Prop} (hq : stepE C o k s K) {N : Act → World → Prop} {Q : Exit → Act → World → Prop}
    (hN : ∀ k' s', s'.m = s.m → K k' s' → Goes C s.m Z β s.boxes w s' N) : o.wp C.P a w N Q := by
  unfold stepE at hq
  split at hq
  · split at hq
    · rename_i b hb
      split at hq
      · rename_i k1 k2
        cases b with
        | true => exact stepK_wp hC h (hq.1 rfl) fun s' hs => hN k1 s' hs
        | false => exact stepK_wp hC h (hq.2 rfl) fun s' hs => hN k2 s' hs
      · rename_i q k'
        exact stepK_wp hC h hq fun s' hs => hN k' s' hs
      · exact hq.elim
    · exact hq.elim
  · split at hq
    · obtain ⟨t, hq⟩ := hq
      exact stepK_wp hC h hq fun s' hs => hN _ s' hs
    · obtain ⟨k3, hq⟩ := altE_any hq
      split at hq
      · obtain ⟨t, hq⟩ := hq
        exact stepK_wp hC h hq fun s' hs => hN _ s' hs
      · exact hq.elim
    · exact hq.elim
  · split at hq
    · obtain ⟨t, hq⟩ := hq
      exact stepK_wp hC h hq fun s' hs => hN _ s' hs
    · obtain ⟨t, hq⟩ := hq
      exact stepK_wp hC h hq fun s' hs => hN _ s' hs
    · obtain ⟨k3, hq⟩ := altE_any hq
      split at hq
      · obtain ⟨t, hq⟩ := hq
        exact stepK_wp hC h hq fun s' hs => hN _ s' hs
      · exact hq.elim
    · exact hq.elim
  · rename_i op t x y t2 ho
    split at hq
    · rename_i k1 k2
      split at hq
      · rename_i q φ hn
        obtain ⟨b, hrun, hb⟩ := nilT_run (w := w) hC (bs := s.boxes) rfl hn (evalO_rep h.1.env x) (evalO_rep h.1.env y)
        have hd : Done C s.m Z β w s.boxes a ⟨True, .v (.one (.sc (.bool b))), s.env, s.boxes⟩ ((execOp a.eval o).run C.P w) := by
          unfold execOp; rw [ho]
          exact Done.quiet h.1.bx h.1.env ⟨.bool b, ok_value hrun, ⟨⟨rfl, rfl⟩, rfl⟩⟩
        refine hd.wp fun v Z' β' w' h1 h2 h3 h4 => ?_
        have go : ∀ k', K k' ⟨putE s.env o.dst (.v (.one (.sc (.bool b)))), s.boxes, s.m⟩ → N (a.put o.dst v) w' := fun k' hk =>
          hN k' ⟨putE s.env o.dst (.v (.one (.sc (.bool b)))), s.boxes, s.m⟩ rfl hk Z' β' _ w' ⟨⟨by rw [put_defers]; exact h.1.defers, h2.putE h1, h3⟩, h.2⟩ h4
        by_cases e : b = q
        · subst e; exact go k1 (hq.1 (hb rfl))
        · have e2 : b = !q := by cases b <;> cases q <;> simp_all
          subst e2; exact go k2 hq.2
      · exact hq.elim
    · exact stepK_wp hC h hq fun s' hs => hN _ s' hs
  · rename_i op _ _ _
    cases hn : needD C.L o.op with
    | true =>
      simp only [hn, cond_true] at hq
      split at hq
      · exact stepK_wp hC h hq fun s' hs => hN _ s' hs
      · exact hq.elim
    | false =>
      simp only [hn, cond_false] at hq
      exact stepK_wp hC h hq fun s' hs => hN _ s' hs

theorem skip_rel (h : RelM C Z β w a s) (dst : Option Tmp) : RelM C Z β w (a.put dst undef) ⟨putE s.env dst (.tup []), s.boxes, s.m⟩ :=
  ⟨⟨by rw [put_defers]; exact h.1.defers, RelE.putE h.1.env ⟨[], rfl, rfl⟩, h.1.bx⟩, h.2⟩

theorem guardE_wp (hC : COk C) (h : RelM C Z β w a s) {ops : Array Oper} {i : Nat} {o : Oper} (hi : ops[i]? = some o) {k : Scr} {K : Scr → St → Prop} (hq : guardE C ops.toList o k s K) {N : Act → World → Prop} {Q : Exit → Act → World → Prop}
    (hN : ∀ k' s', s'.m = s.m → K k' s' → Goes C s.m Z β s.boxes w s' N) : wpOp C.P ops Q i N a w := by
  unfold wpOp
  simp only [hi]
  unfold guardE at hq
  split at hq
  · rename_i hg
    have hw : Region.wanted o (yielded ops a.tmps) = true := by unfold Region.wanted; rw [hg]
    rw [if_pos hw]
    exact .inl (stepE_wp hC h hq hN)
  · rename_i j want hg
    split at hq
    · rename_i t ht
      split at hq
      · rename_i b hb
        have hy := yielded_eq h ht hb
        have hw : Region.wanted o (yielded ops a.tmps) = (b == want) := by
          unfold Region.wanted; rw [hg]; simp only [hy]; cases b <;> cases want <;> rfl
        rw [hw]
        have skip : ∀ k', K k' ⟨putE s.env o.dst (.tup []), s.boxes, s.m⟩ → N (a.put o.dst undef) w := fun k' hk => hN k' ⟨putE s.env o.dst (.tup []), s.boxes, s.m⟩ rfl hk Z β _ w (skip_rel h o.dst) (Ext.refl ..)
        split at hq
        · rename_i k1 k2
          by_cases e : b = want
          · subst e
            rw [if_pos (by simp)]
            exact .inl (stepE_wp hC h (hq.1 rfl) hN)
          · have e2 : b = !want := by cases b <;> cases want <;> simp_all
            rw [if_neg (by simpa using e)]
            exact skip _ (hq.2 e2)
        · rename_i q k'
          obtain ⟨e, hq⟩ := hq
          subst e
          cases hbw : b == want with
          | true =>
            rw [if_pos rfl]
            rw [hbw] at hq
            exact .inl (stepE_wp hC h hq hN)
          | false =>
            rw [if_neg (by simp)]
            rw [hbw] at hq
            exact skip _ hq
        · exact hq.elim
      · rename_i hb
        have hy := yielded_none h ht hb
        have hw : Region.wanted o (yielded ops a.tmps) = false := by
          unfold Region.wanted; rw [hg]; simp only [hy]; cases want <;> rfl
        rw [hw, if_neg (by simp)]
        exact hN k ⟨putE s.env o.dst (.tup []), s.boxes, s.m⟩ rfl hq Z β _ w (skip_rel h o.dst) (Ext.refl ..)
      · exact hq.elim
    · exact hq.elim
end

theorem Goes.trans {C : Cfg} {m : Nat} {Z Z1 : Nat → Prop} {β β1 : Nat → Option (Nat × Nat)} {bs bs1 : List Box} {w w1 : World} (h : Ext m Z β bs w Z1 β1 bs1 w1) {s' : St} {K : Act → World → Prop} (hg : Goes C m Z β bs w s' K) : Goes C m Z1 β1 bs1 w1 s' K :=
  fun Z' β' a' w' h1 h2 => hg Z' β' a' w' h1 (h.trans h2)

theorem opsE_wp {C : Cfg} (hC : COk C) {ops : Array Oper} {Q : Exit → Act → World → Prop} : ∀ (os : List Oper) (i : Nat) (_ : ops.toList.drop i = os) {Z : Nat → Prop} {β : Nat → Option (Nat × Nat)} {w : World} {a : Act} {s : St} (_ : RelM C Z β w a s) {k : Scr} {K : Scr → St → Prop} (_ : opsE C ops.toList os k s K)
    (_ : ∀ k' s', s'.m = s.m → K k' s' → Goes C s.m Z β s.boxes w s' (Q .normal)), wpOps C.P ops Q (List.range' i os.length) a w
  | [], i, _, Z, β, w, a, s, h, k, K, hq, hN => hN k s rfl hq Z β a w h (Ext.refl ..)
  | o :: os, i, hd, Z, β, w, a, s, h, k, K, hq, hN => by
    have hi : ops[i]? = some o := by
      have : ops.toList[i]? = some o := by
        have := congrArg (fun l => l[0]?) hd
        simpa using this
      simpa using this
    have hd2 : ops.toList.drop (i + 1) = os := by rw [← List.drop_drop, hd]; rfl
    rw [List.length_cons, List.range'_succ, wpOps_cons]
    refine guardE_wp hC h hi hq fun k' s' hs hk => ?_
    intro Z1 β1 a1 w1 h1 h2
    refine opsE_wp hC os (i + 1) hd2 h1 hk fun k'' s'' hs' hk' => ?_
    rw [hs]
    exact (hN k'' s'' (hs'.trans hs) hk').trans h2

end Go.Proofs.YtllannmegnklmaaE
