/- One operation, whichever it is; calls. -/
import Derived.Test.YtllannmegnklmaaEQ
set_option linter.unusedVariables false
set_option linter.unusedSimpArgs false
set_option linter.unnecessarySimpa false
namespace Go.Proofs.YtllannmegnklmaaE
open Go

/-! ### What a call of a function is -/
def Post (C : Cfg) (Z : Nat → Prop) (β : Nat → Option (Nat × Nat)) (w : World) (bs : List Box) (r : Tm) (bs' : List Box) (v : Value) (w' : World) : Prop :=
  ∃ Z' β', RelB C.E C.G Z' β' w' bs' ∧ repTm (mkX C.E Z' β' w' bs') v r ∧ Ext bs.length Z β bs w Z' β' bs' w'

/-- Called with these, with these boxes handed on, the function returns that, and the boxes are those. -/
def Fun (C : Cfg) (f : FuncId) (as : List AV) (bs : List Box) (r : Tm) (bs' : List Box) : Prop :=
  ∀ Z β w vs, RelB C.E C.G Z β w bs → repAVs (mkX C.E Z β w bs) as vs →
    (∃ v w', (callFunc f vs.toArray).run C.P w = .ok (.value v) w' ∧ Post C Z β w bs r bs' v w') ∨
    ((callFunc f vs.toArray).run C.P w = .ok (.enter f vs.toArray) w ∧ Calls C.P f vs.toArray w fun e w' => ∃ v, e = .returned v ∧ Post C Z β w bs r bs' v w')

/-- Called with these, it panics with that value. -/
def FunX (C : Cfg) (f : FuncId) (as : List AV) (bs : List Box) (p : Value) (bs' : List Box) : Prop :=
  ∀ Z β w vs, RelB C.E C.G Z β w bs → repAVs (mkX C.E Z β w bs) as vs →
    (callFunc f vs.toArray).run C.P w = .ok (.enter f vs.toArray) w ∧ Calls C.P f vs.toArray w fun e w' => ∃ v, e = .panicked [⟨v, false, false⟩] ∧ Post C Z β w bs (.v (.one (.sc p))) bs' v w'

/-! ### Handing values on -/
def andL : List Prop → Prop
  | [] => True
  | p :: ps => p ∧ andL ps

theorem andL_append {ps qs : List Prop} : andL (ps ++ qs) ↔ andL ps ∧ andL qs := by
  induction ps with
  | nil => simp [andL]
  | cons p ps ih => simp only [List.cons_append, andL, ih, and_assoc]

/-- What is handed on: what must hold, which boxes are looked at, what comes, the types of empty slices that are left. -/
structure Co (α : Type) where
  φ : List Prop
  ids : List Nat
  v : α
  hs : List Ty

def coC (bs : List Box) (full : Bool) (hs : List Ty) (x : Cell) : Option (Co Cell) := match x with
  | .os id base lo esz len cap => (match rowAt? bs id base with
    | some (_, ⟨u, _⟩) => (match viewS u bs full (.v (.one (.os id base lo esz len cap))) with
      | some (φ, l) => some ⟨[φ], [id], .fs u l false, hs⟩
      | none => none)
    | none => none)
  | .sc (.slice none 0 0) => (match hs with
    | t :: hs' => some ⟨[], [], .fs t [] false, hs'⟩
    | [] => some ⟨[], [], .sc (.slice none 0 0), []⟩)
  | .ptr _ _ => none
  | .ip _ _ => none
  | .fs t l _ => some ⟨[], [], .fs t l false, hs⟩
  | x => some ⟨[], [], x, hs⟩

def coPs (bs : List Box) (full : Bool) (hs : List Ty) : List Piece → Option (Co (List Piece))
  | [] => some ⟨[], [], [], hs⟩
  | .c x :: xs => (match coC bs full hs x with
    | some r => (match coPs bs full r.hs xs with
      | some q => some ⟨r.φ ++ q.φ, r.ids ++ q.ids, .c r.v :: q.v, q.hs⟩
      | none => none)
    | none => none)
  | .row n t l :: xs => (match coPs bs full hs xs with
      | some q => some ⟨q.φ, q.ids, .row n t l :: q.v, q.hs⟩
      | none => none)

def coAV (bs : List Box) (full : Bool) (hs : List Ty) : AV → Option (Co AV)
  | .one x => (match coC bs full hs x with | some r => some ⟨r.φ, r.ids, .one r.v, r.hs⟩ | none => none)
  | .agg ps => (match coPs bs full hs ps with | some r => some ⟨r.φ, r.ids, .agg r.v, r.hs⟩ | none => none)
  | .clo f sh ps => (match coPs bs full hs ps with | some r => some ⟨r.φ, r.ids, .clo f sh r.v, r.hs⟩ | none => none)

def coAVs (bs : List Box) (full : Bool) (hs : List Ty) : List Tm → Option (Co (List AV))
  | [] => some ⟨[], [], [], hs⟩
  | .v x :: xs => (match coAV bs full hs x with
    | some r => (match coAVs bs full r.hs xs with
      | some q => some ⟨r.φ ++ q.φ, r.ids ++ q.ids, r.v :: q.v, q.hs⟩
      | none => none)
    | none => none)
  | _ => none

/-- What is handed on lies in 'F' beside what is frozen. -/
structure Hand (X Y : Cx) (F : List Nat) : Prop where
  le : X.le Y
  w : Y.w = X.w
  fz : ∀ id, id ∈ F → ∀ b z, X.β id = some (b, z) → Y.Z b

section
variable {E : TypeId} {G : Globs} {Z : Nat → Prop} {β : Nat → Option (Nat × Nat)} {w : World} {bs : List Box}

theorem repT_view {X Y : Cx} (hw : Y.w = X.w) (hle : X.le Y) {t : Ty} {l : List t.T} {v : Value} (h : IsView X t l v) (hz : ∀ p n c, v = .slice (some p) n c → 0 < n → Y.Z p.block) : repT Y (.sl t) l [v] := by
  obtain ⟨a, n, c, rfl, hl, hc, hr⟩ := h
  refine ⟨a, n, c, rfl, hl, hc, fun hn => ?_⟩
  obtain ⟨p, ds, rfl, hsp, hrow, hcell⟩ := hr hn
  exact ⟨p, ds, rfl, rowOf_mono (fun x ds => repT_le hle t x ds) l ds hrow, hsp, hz p n c rfl hn, fun j v hj => by rw [hw]; exact hcell j v hj⟩

theorem rowAt_al (h : RelB E G Z β w bs) {id base m : Nat} {u : Ty} {l : List u.T} (hr : rowAt? bs id base = some (m, ⟨u, l⟩)) : bAl bs id = true := (rowAt_rep h hr).1

theorem coC_rep (h : RelB E G Z β w bs) {full : Bool} {hs : List Ty} {x : Cell} {r : Co Cell} (hq : coC bs full hs x = some r) : (∀ id, id ∈ r.ids → bAl bs id = true) ∧ r.v.id? = none ∧
    ∀ {v : Value} {Y : Cx} {F : List Nat}, andL r.φ → Hand (mkX E Z β w bs) Y F → (∀ id, id ∈ r.ids → id ∈ F) → repC (mkX E Z β w bs) v x → v.oneCell' = true → repC Y v r.v := by
  unfold coC at hq
  split at hq
  · rename_i id base lo esz len cap
    split at hq
    · rename_i m u l0 hrow
      split at hq
      · rename_i φ l hview
        cases hq
        have hal := rowAt_al h hrow
        refine ⟨fun i hi => by simp at hi; rw [hi]; exact hal, rfl, fun {v Y F} hφ hH hF hv ho => ?_⟩
        have hv1 := viewS_rep h hview hφ.1 (v := v) ⟨hv, ho⟩
        obtain ⟨_, hrep⟩ := hv
        obtain ⟨a, c, rfl, hlc, _, hc⟩ := hrep hal
        refine ⟨repT_view hH.w hH.le hv1 fun p n c' e hn => ?_, fun e => by cases e⟩
        cases e
        obtain ⟨b, z, hb, e2, _⟩ := hc (by omega)
        cases e2
        exact hH.fz id (hF id (by simp)) b z hb
      · cases hq
    · cases hq
  · split at hq
    · cases hq
      refine ⟨fun i hi => by simp at hi, rfl, fun {v Y F} hφ hH hF hv ho => ?_⟩
      obtain ⟨rfl, _⟩ := hv
      exact ⟨⟨none, 0, 0, rfl, rfl, Nat.le_refl _, fun hn => absurd hn (by simp)⟩, fun e => by cases e⟩
    · cases hq
      exact ⟨fun i hi => by simp at hi, rfl, fun {v Y F} hφ hH hF hv ho => hv⟩
  · cases hq
  · cases hq
  · rename_i t l tg
    cases hq
    exact ⟨fun i hi => by simp at hi, rfl, fun {v Y F} hφ hH hF hv ho => ⟨(repC_le hH.le (c := .fs t l tg) (fun i hi => by cases hi) hv).1, fun e => by cases e⟩⟩
  · rename_i h1 h2 h3 h5 h4
    cases hq
    have hid : x.id? = none := by
      cases x with
      | os id base lo esz len cap => exact absurd rfl (h1 _ _ _ _ _ _)
      | ptr id o => exact absurd rfl (h3 _ _)
      | ip t id => exact absurd rfl (h5 _ _)
      | _ => rfl
    exact ⟨fun i hi => by simp at hi, hid, fun {v Y F} hφ hH hF hv ho => repC_le hH.le (fun i hi => by rw [hid] at hi; cases hi) hv⟩

theorem coPs_rep (h : RelB E G Z β w bs) {full : Bool} : ∀ {xs : List Piece} {hs : List Ty} {r : Co (List Piece)}, coPs bs full hs xs = some r → (∀ id, id ∈ r.ids → bAl bs id = true) ∧ idsOf r.v = [] ∧
    ∀ {cs : List Value} {Y : Cx} {F : List Nat}, andL r.φ → Hand (mkX E Z β w bs) Y F → (∀ id, id ∈ r.ids → id ∈ F) → repPs (mkX E Z β w bs) xs cs → repPs Y r.v cs
  | [], hs, r, hq => by cases hq; exact ⟨fun i hi => by simp at hi, rfl, fun _ _ _ hr => hr⟩
  | .c x :: xs, hs, r, hq => by
    simp only [coPs] at hq
    split at hq
    · rename_i r1 h1
      split at hq
      · rename_i q hqq
        cases hq
        obtain ⟨a1, a2, a3⟩ := coC_rep h h1
        obtain ⟨b1, b2, b3⟩ := coPs_rep h hqq
        refine ⟨fun i hi => by rcases List.mem_append.1 hi with hi | hi; exact a1 i hi; exact b1 i hi, by simpa [idsOf, Piece.id?, List.filterMap_cons, a2] using b2, fun {cs Y F} hφ hH hF hr => ?_⟩
        obtain ⟨p1, p2⟩ := andL_append.1 hφ
        obtain ⟨c1, c2, e, ⟨v, e1, h2, ho⟩, h3⟩ := hr
        exact ⟨c1, c2, e, ⟨v, e1, a3 p1 hH (fun i hi => hF i (List.mem_append_left _ hi)) h2 ho, ho⟩, b3 p2 hH (fun i hi => hF i (List.mem_append_right _ hi)) h3⟩
      · cases hq
    · cases hq
  | .row n t l :: xs, hs, r, hq => by
    simp only [coPs] at hq
    split at hq
    · rename_i q hqq
      cases hq
      obtain ⟨b1, b2, b3⟩ := coPs_rep h hqq
      refine ⟨b1, by simpa [idsOf, Piece.id?, List.filterMap_cons] using b2, fun {cs Y F} hφ hH hF hr => ?_⟩
      obtain ⟨c1, c2, e, h2, h3⟩ := hr
      exact ⟨c1, c2, e, repP_le hH.le (fun i hi => by cases hi) h2, b3 hφ hH hF h3⟩
    · cases hq

theorem coAV_rep (h : RelB E G Z β w bs) {full : Bool} {x : AV} {hs : List Ty} {r : Co AV} (hq : coAV bs full hs x = some r) : (∀ id, id ∈ r.ids → bAl bs id = true) ∧ r.v.ids = [] ∧
    ∀ {v : Value} {Y : Cx} {F : List Nat}, andL r.φ → Hand (mkX E Z β w bs) Y F → (∀ id, id ∈ r.ids → id ∈ F) → repAV (mkX E Z β w bs) v x → repAV Y v r.v := by
  cases x with
  | one c =>
    simp only [coAV] at hq
    split at hq
    · rename_i r1 h1
      cases hq
      obtain ⟨a1, a2, a3⟩ := coC_rep h h1
      exact ⟨a1, by simp [AV.ids, a2], fun {v Y F} hφ hH hF hv => ⟨a3 hφ hH hF hv.1 hv.2, hv.2⟩⟩
    · cases hq
  | agg ps =>
    simp only [coAV] at hq
    split at hq
    · rename_i r1 h1
      cases hq
      obtain ⟨a1, a2, a3⟩ := coPs_rep h h1
      exact ⟨a1, a2, fun {v Y F} hφ hH hF ⟨cs, e, hr⟩ => ⟨cs, e, a3 hφ hH hF hr⟩⟩
    · cases hq
  | clo f sh ps =>
    simp only [coAV] at hq
    split at hq
    · rename_i r1 h1
      cases hq
      obtain ⟨a1, a2, a3⟩ := coPs_rep h h1
      exact ⟨a1, a2, fun {v Y F} hφ hH hF ⟨cs, e, hr⟩ => ⟨cs, e, a3 hφ hH hF hr⟩⟩
    · cases hq

theorem coAVs_rep (h : RelB E G Z β w bs) {full : Bool} : ∀ {xs : List Tm} {hs : List Ty} {r : Co (List AV)}, coAVs bs full hs xs = some r → (∀ id, id ∈ r.ids → bAl bs id = true) ∧ r.v.flatMap AV.ids = [] ∧
    ∀ {vs : List Value} {Y : Cx} {F : List Nat}, andL r.φ → Hand (mkX E Z β w bs) Y F → (∀ id, id ∈ r.ids → id ∈ F) → All2 (fun v x => repTm (mkX E Z β w bs) v x) vs xs → repAVs Y r.v vs
  | [], hs, r, hq => by
    cases hq
    refine ⟨fun i hi => by simp at hi, rfl, fun {vs Y F} _ _ _ hr => ?_⟩
    cases hr
    rfl
  | .v x :: xs, hs, r, hq => by
    simp only [coAVs] at hq
    split at hq
    · rename_i r1 h1
      split at hq
      · rename_i q hqq
        cases hq
        obtain ⟨a1, a2, a3⟩ := coAV_rep h h1
        obtain ⟨b1, b2, b3⟩ := coAVs_rep h hqq
        refine ⟨fun i hi => by rcases List.mem_append.1 hi with hi | hi; exact a1 i hi; exact b1 i hi, by simp only [List.flatMap_cons, a2, b2]; rfl, fun {vs Y F} hφ hH hF hr => ?_⟩
        obtain ⟨p1, p2⟩ := andL_append.1 hφ
        cases hr with
        | cons h2 h3 => exact ⟨_, _, rfl, a3 p1 hH (fun i hi => hF i (List.mem_append_left _ hi)) h2, b3 p2 hH (fun i hi => hF i (List.mem_append_right _ hi)) h3⟩
      · cases hq
    · cases hq
  | .any :: _, _, _, hq => by cases hq
  | .tup _ :: _, _, _, hq => by cases hq
end

/-! ### Boxes that nobody writes any more -/
def Box.frz : Box → Box
  | .ex _ ps ty => .ex true ps ty
  | .gro _ t l ty => .gro true t l ty
  | .fix _ t l ty => .fix true t l ty
  | .dead => .dead

def frzAll (bs : List Box) : List Nat → List Box
  | [] => bs
  | i :: r => frzAll (match bs[i]? with | some b => bs.set i b.frz | none => bs) r

/-- Boxes alike but for who may write them. -/
structure Froze (bs bs' : List Box) (F : List Nat) : Prop where
  len : bs'.length = bs.length
  at_ : ∀ (i : Nat) (b : Box), bs'[i]? = some b → ∃ b0 : Box, bs[i]? = some b0 ∧ (b = b0 ∨ b = b0.frz)
  al : ∀ i, bAl bs' i = bAl bs i
  rw : ∀ i, bRw bs' i = true → bRw bs i = true ∧ i ∉ F
  ro : ∀ i, bRw bs' i = false → bRw bs i = false ∨ i ∈ F
  ex : ∀ i, bEx bs' i = bEx bs i

theorem Froze.refl (bs : List Box) : Froze bs bs [] := ⟨rfl, fun i b h => ⟨b, h, .inl rfl⟩, fun _ => rfl, fun _ h => ⟨h, by simp⟩, fun _ h => .inl h, fun _ => rfl⟩

theorem frz_frz (b : Box) : b.frz.frz = b.frz := by cases b <;> rfl

theorem frzAll_spec : ∀ (F : List Nat) (bs : List Box), Froze bs (frzAll bs F) F
  | [], bs => Froze.refl bs
  | i :: r, bs => by
    unfold frzAll
    cases hb : bs[i]? with
    | none =>
      have ih := frzAll_spec r bs
      refine ⟨ih.len, ih.at_, ih.al, fun j hj => ⟨(ih.rw j hj).1, fun hm => ?_⟩, fun j hj => (ih.ro j hj).imp id (List.mem_cons_of_mem _), ih.ex⟩
      rcases List.mem_cons.1 hm with rfl | hm
      · have := (ih.rw j hj).1
        simp [bRw, hb] at this
      · exact (ih.rw j hj).2 hm
    | some b =>
      have ih := frzAll_spec r (bs.set i b.frz)
      have hi : i < bs.length := (List.getElem?_eq_some_iff.1 hb).1
      have get : ∀ j, (bs.set i b.frz)[j]? = if i = j then some b.frz else bs[j]? := fun j => by
        rw [List.getElem?_set]
        by_cases e : i = j
        · subst e; simp [hi]
        · simp [e]
      refine ⟨by rw [ih.len, List.length_set], fun j c hc => ?_, fun j => ?_, fun j hj => ?_, fun j hj => ?_, fun j => ?_⟩
      · obtain ⟨c0, h1, h2⟩ := ih.at_ j c hc
        rw [get] at h1
        by_cases e : i = j
        · subst e
          rw [if_pos rfl] at h1
          cases h1
          refine ⟨b, hb, .inr ?_⟩
          rcases h2 with h2 | h2
          · exact h2
          · rw [h2, frz_frz]
        · rw [if_neg e] at h1
          exact ⟨c0, h1, h2⟩
      · rw [ih.al]
        unfold bAl
        rw [get]
        by_cases e : i = j
        · subst e; rw [if_pos rfl, hb]; cases b <;> rfl
        · rw [if_neg e]
      · obtain ⟨h1, h2⟩ := ih.rw j hj
        unfold bRw at h1
        rw [get] at h1
        by_cases e : i = j
        · subst e
          rw [if_pos rfl] at h1
          cases b <;> cases h1
        · rw [if_neg e] at h1
          refine ⟨h1, fun hm => ?_⟩
          rcases List.mem_cons.1 hm with rfl | hm
          · exact e rfl
          · exact h2 hm
      · by_cases e : i = j
        · exact .inr (by rw [e]; simp)
        · rcases ih.ro j hj with h1 | h1
          · unfold bRw at h1 ⊢
            rw [get, if_neg e] at h1
            exact .inl h1
          · exact .inr (List.mem_cons_of_mem _ h1)
      · rw [ih.ex]
        unfold bEx
        rw [get]
        by_cases e : i = j
        · subst e; rw [if_pos rfl, hb]; cases b <;> rfl
        · rw [if_neg e]

def Cell.hasFs : Cell → Bool
  | .fs _ _ _ => true
  | .fp _ _ _ => true
  | _ => false
def Ty.hasSl : Ty → Bool
  | .pair a b => a.hasSl || b.hasSl
  | .arr _ t => t.hasSl
  | .sl _ => true
  | _ => false
def Piece.hasFs : Piece → Bool
  | .c x => x.hasFs
  | .row _ t _ => t.hasSl
def AV.hasFs : AV → Bool
  | .one x => x.hasFs
  | .agg ps => ps.any Piece.hasFs
  | .clo _ _ ps => ps.any Piece.hasFs
def Tm.hasFs : Tm → Bool
  | .any => false
  | .v x => x.hasFs
  | .tup xs => xs.any AV.hasFs

/-! What is called, with what. -/
def unchop : List (Bool × Nat) → List Piece → Option (List AV)
  | [], _ => some []
  | (b, n) :: r, ps => match splitP ps (bif b then n else 1) with
    | some (p, q) => (match asAV b p, unchop r q with
      | some x, some xs => some (x :: xs)
      | _, _ => none)
    | none => none

theorem unchop_rep {X : Cx} : ∀ {sh : List (Bool × Nat)} {ps : List Piece} {cs : List Value} {xs : List AV}, unchop sh ps = some xs → repPs X ps cs → All2 (fun v x => repTm X v x) (chop sh cs) (xs.map Tm.v)
  | [], _, _, _, h, _ => by cases h; exact .nil
  | (b, n) :: r, ps, cs, xs, h, hr => by
    unfold unchop at h
    split at h
    · rename_i p q hs
      obtain ⟨rfl, hp⟩ := splitP_spec hs
      obtain ⟨c1, c2, rfl, h1, h2⟩ := repPs_append.1 hr
      have hl := repPs_length h1
      split at h
      · rename_i x ys hx hy
        cases h
        have hA := asAV_rep hx h1
        have ih := unchop_rep hy h2
        cases b with
        | true =>
          simp only [cond_true] at hp
          have e1 : (c1 ++ c2).take n = c1 := by rw [← hp, ← hl]; simp
          have e2 : (c1 ++ c2).drop n = c2 := by rw [← hp, ← hl]; simp
          simp only [chop, e1, e2, List.map_cons]
          exact .cons hA ih
        | false =>
          obtain ⟨v, rfl, hv⟩ := hA
          simp only [chop, List.map_cons]
          exact .cons hv ih
      · cases h
    · cases h

def fnOf : Tm → Option (FuncId × List Tm)
  | .v (.one (.sc (.func (.func f) x y))) => bif x.toList.isEmpty && y.toList.isEmpty then some (f, []) else none
  | .v (.clo f sh ps) => (match unchop sh ps with | some xs => some (f, xs.map Tm.v) | none => none)
  | _ => none

theorem fnOf_rep {X : Cx} {v : Value} {t : Tm} {f : FuncId} {ts : List Tm} (h : fnOf t = some (f, ts)) (hv : repTm X v t) : ∃ us, v = .func (.func f) #[] us.toArray ∧ All2 (fun v x => repTm X v x) us ts := by
  unfold fnOf at h
  split at h
  · rename_i g x y
    obtain ⟨hb, h⟩ := cond_some h
    cases h
    rw [Bool.and_eq_true] at hb
    have ex : x = #[] := by apply Array.ext'; simpa using hb.1
    have ey : y = #[] := by apply Array.ext'; simpa using hb.2
    obtain ⟨⟨rfl, _⟩, _⟩ := hv
    exact ⟨[], by rw [ex, ey], .nil⟩
  · split at h
    · rename_i xs hx
      cases h
      obtain ⟨cs, rfl, hr⟩ := hv
      exact ⟨_, rfl, unchop_rep hx hr⟩
    · cases h
  · cases h

def mtAt : List (TypeId × String × FuncId) → TypeId → String → Option FuncId
  | [], _, _ => none
  | (t, n, f) :: r, u, m => bif Nat.beq t u && (n == m) then some f else mtAt r u m
theorem mtAt_mem : ∀ {L : List (TypeId × String × FuncId)} {t : TypeId} {n : String} {f : FuncId}, mtAt L t n = some f → (t, n, f) ∈ L
  | [], _, _, _, h => by cases h
  | (t0, n0, f0) :: r, t, n, f, h => by
    simp only [mtAt] at h
    cases hb : Nat.beq t0 t && (n0 == n) with
    | true =>
      simp only [hb, cond_true, Option.some.injEq] at h
      rw [Bool.and_eq_true] at hb
      have e2 : n0 = n := by simpa using hb.2
      rw [beq_eq hb.1, e2, h]; exact List.mem_cons_self ..
    | false => simp only [hb, cond_false] at h; exact List.mem_cons_of_mem _ (mtAt_mem h)

def callF (C : Cfg) (env : List Tm) (c : Call) : Option (FuncId × List Tm) := match c.callee with
  | .value x => (match fnOf (evalO C.E env x) with
    | some (f, ts) => some (f, c.args.toList.map (evalO C.E env) ++ ts)
    | none => none)
  | .invoke x n => (match evalO C.E env x with
    | .v (.one (.ip t id)) => (match mtAt C.mt t n with
      | some f => some (f, .v (.one (.ptr id ⟨0, 0, 0, 0⟩)) :: c.args.toList.map (evalO C.E env))
      | none => none)
    | _ => none)
  | _ => none

theorem All2.append {α γ : Type} {R : α → γ → Prop} {a b : List α} {c d : List γ} (h : All2 R a c) (k : All2 R b d) : All2 R (a ++ b) (c ++ d) := by
  induction h with
  | nil => exact k
  | cons h _ ih => exact .cons h ih

theorem callF_run {C : Cfg} (hC : COk C) {X : Cx} (hE : X.E = C.E) {a : Act} {env : List Tm} (hev : ∀ x, repTm X (a.eval x) (evalO X.E env x)) {c : Call} {f : FuncId} {ts : List Tm} (h : callF C env c = some (f, ts)) :
    ∃ vs, All2 (fun v x => repTm X v x) vs ts ∧ ∀ (o : Oper) (w : World), o.op = .call c → (execOp a.eval o).run C.P w = (callFunc f vs.toArray).run C.P w := by
  unfold callF at h
  rw [hE] at hev
  have hall : All2 (fun v x => repTm X v x) (c.args.toList.map a.eval) (c.args.toList.map (evalO C.E env)) := by
    generalize c.args.toList = l
    induction l with
    | nil => exact .nil
    | cons y l ih => exact .cons (hev y) ih
  split at h
  · rename_i x hcal
    split at h
    · rename_i g us hf
      cases h
      obtain ⟨cs, hv, hr⟩ := fnOf_rep hf (hev x)
      refine ⟨c.args.toList.map a.eval ++ cs, All2.append hall hr, fun o w ho => ?_⟩
      have hargs : (c.args.map a.eval) ++ cs.toArray = (c.args.toList.map a.eval ++ cs).toArray := by
        apply Array.ext'; simp
      unfold execOp
      rw [ho]
      simp only [resolve, hcal, hv, Deferred.ofValue, Sem.run_bind, Sem.run_pure, Result.andThen_ok, invoke]
      rw [← hargs]
      simp
    · cases h
  · rename_i x n hcal
    split at h
    · rename_i t id he
      split at h
      · rename_i g hm
        cases h
        have hv := hev x
        rw [he] at hv
        obtain ⟨⟨hn, q, e, hq⟩, _⟩ := hv
        refine ⟨.pointer q :: c.args.toList.map a.eval, .cons ⟨⟨hn, fun ha => ?_⟩, rfl⟩ hall, fun o w ho => ?_⟩
        · obtain ⟨b, z, hb, e2⟩ := hq ha
          exact ⟨b, z, hb, by rw [e2]; rfl⟩
        · have hmeth := hC.mt _ (mtAt_mem hm) (.pointer q) w
          have e1 : (#[a.eval x] ++ c.args.map a.eval).extract 1 (#[a.eval x] ++ c.args.map a.eval).size = c.args.map a.eval := by
            apply Array.ext'
            simp only [Array.toList_extract, Array.toList_append, Array.toList_map, List.extract, List.cons_append, List.nil_append, List.drop_succ_cons, List.drop_zero, Array.size_append, List.size_toArray, Array.size_map]
            exact List.take_of_length_le (by simp)
          have e0 : (#[a.eval x] ++ c.args.map a.eval)[0]? = some (Value.iface t (.pointer q)) := by
            rw [← e, Array.getElem?_append_left (by simp)]; rfl
          have hargs2 : #[Value.pointer q] ++ c.args.map a.eval = (Value.pointer q :: c.args.toList.map a.eval).toArray := by
            apply Array.ext'; simp
          unfold execOp
          rw [ho]
          have hres : resolve a.eval c o.type = pure { target := .fn (.method n) #[], args := #[a.eval x] ++ c.args.map a.eval } := by
            unfold resolve; rw [hcal]
          show ((do let d ← resolve a.eval c o.type; invoke d.target d.args) : Sem Next).run C.P w = _
          rw [hres, Sem.run_bind, Sem.run_pure, Result.andThen_ok]
          unfold invoke
          simp only [e0, e1]
          unfold callMethod
          rw [Sem.run_bind]
          show ((do let r ← method (C.P.types.size + Made.depth) t (.pointer q) n; callFunc r.1 (#[r.2] ++ c.args.map a.eval)) : Sem Next).run C.P w = _
          rw [Sem.run_bind, hmeth, Result.andThen_ok, hargs2]
      · cases h
    · cases h
  · cases h

def lCall (C : Cfg) (env : List Tm) (bs : List Box) (c : Call) (d : OD) : Option Out := match callF C env c, d with
  | some (f, ts), .call full hs r => match coAVs bs full hs ts, r.ids with
    | some q, [] => some ⟨andL (q.φ ++ [Fun C f q.v [] r []]), r, env, bif r.hasFs then frzAll bs q.ids else bs⟩
    | _, _ => none
  | _, _ => none

/-- A call that is handed nothing but what is plain, or frozen. -/
def lCallP (C : Cfg) (env : List Tm) (c : Call) (full : Bool) (hs : List Ty) (r : Tm) : Option (Prop × Tm) := match callF C env c with
  | some (f, ts) => (match coAVs [] full hs ts, r.ids with
    | some q, [] => some (andL (q.φ ++ [Fun C f q.v [] r []]), r)
    | _, _ => none)
  | _ => none

/-- A call that looks at boxes, and freezes none. -/
def lCallQ (C : Cfg) (env : List Tm) (bs : List Box) (c : Call) (full : Bool) (hs : List Ty) (r : Tm) : Option (Prop × Tm) := match callF C env c with
  | some (f, ts) => (match coAVs bs full hs ts, r.ids with
    | some q, [] => bif r.hasFs && !q.ids.isEmpty then none else some (andL (q.φ ++ [Fun C f q.v [] r []]), r)
    | _, _ => none)
  | _ => none
theorem lCallQ_lCall {C : Cfg} {env : List Tm} {bs : List Box} {c : Call} {full : Bool} {hs : List Ty} {r : Tm} {φ : Prop} {tm : Tm} (h : lCallQ C env bs c full hs r = some (φ, tm)) : lCall C env bs c (.call full hs r) = some ⟨φ, tm, env, bs⟩ := by
  unfold lCallQ at h
  split at h
  · rename_i f ts hf
    split at h
    · rename_i q hco hids
      cases hb : r.hasFs && !q.ids.isEmpty with
      | true => rw [hb] at h; cases h
      | false =>
        rw [hb] at h
        cases h
        unfold lCall
        simp only [hf, hco, hids]
        cases hr : r.hasFs with
        | false => rfl
        | true =>
          rw [hr] at hb
          have : q.ids = [] := by simpa using hb
          rw [this]; rfl
    · cases h
  · cases h

theorem coC_nil {full : Bool} {hs : List Ty} {x : Cell} {r : Co Cell} (bs : List Box) (h : coC [] full hs x = some r) : coC bs full hs x = some r ∧ r.ids = [] := by
  unfold coC at h ⊢
  split at h
  · rename_i id base lo esz len cap
    have : rowAt? [] id base = none := by unfold rowAt?; rfl
    rw [this] at h
    cases h
  · split at h
    · cases h; exact ⟨rfl, rfl⟩
    · cases h; exact ⟨rfl, rfl⟩
  · cases h
  · cases h
  · cases h; exact ⟨rfl, rfl⟩
  · cases h
    exact ⟨rfl, rfl⟩
theorem coPs_nil {full : Bool} (bs : List Box) : ∀ {xs : List Piece} {hs : List Ty} {r : Co (List Piece)}, coPs [] full hs xs = some r → coPs bs full hs xs = some r ∧ r.ids = []
  | [], _, _, h => by cases h; exact ⟨rfl, rfl⟩
  | .c x :: xs, hs, r, h => by
    simp only [coPs] at h ⊢
    split at h
    · rename_i r1 h1
      obtain ⟨e1, e2⟩ := coC_nil bs h1
      rw [e1]
      simp only
      split at h
      · rename_i q hq
        obtain ⟨f1, f2⟩ := coPs_nil bs hq
        rw [f1]
        cases h
        exact ⟨rfl, by simp [e2, f2]⟩
      · cases h
    · cases h
  | .row n t l :: xs, hs, r, h => by
    simp only [coPs] at h ⊢
    split at h
    · rename_i q hq
      obtain ⟨f1, f2⟩ := coPs_nil bs hq
      rw [f1]
      cases h
      exact ⟨rfl, f2⟩
    · cases h
theorem coAVs_nil {full : Bool} (bs : List Box) : ∀ {xs : List Tm} {hs : List Ty} {r : Co (List AV)}, coAVs [] full hs xs = some r → coAVs bs full hs xs = some r ∧ r.ids = []
  | [], _, _, h => by cases h; exact ⟨rfl, rfl⟩
  | .v x :: xs, hs, r, h => by
    have one : ∀ {q : Co AV}, coAV [] full hs x = some q → coAV bs full hs x = some q ∧ q.ids = [] := fun {q} hq => by
      cases x with
      | one c =>
        simp only [coAV] at hq ⊢
        split at hq
        · rename_i r1 h1
          obtain ⟨e1, e2⟩ := coC_nil bs h1
          rw [e1]; cases hq; exact ⟨rfl, e2⟩
        · cases hq
      | agg ps =>
        simp only [coAV] at hq ⊢
        split at hq
        · rename_i r1 h1
          obtain ⟨e1, e2⟩ := coPs_nil bs h1
          rw [e1]; cases hq; exact ⟨rfl, e2⟩
        · cases hq
      | clo f sh ps =>
        simp only [coAV] at hq ⊢
        split at hq
        · rename_i r1 h1
          obtain ⟨e1, e2⟩ := coPs_nil bs h1
          rw [e1]; cases hq; exact ⟨rfl, e2⟩
        · cases hq
    simp only [coAVs] at h ⊢
    split at h
    · rename_i r1 h1
      obtain ⟨e1, e2⟩ := one h1
      rw [e1]
      simp only
      split at h
      · rename_i q hq
        obtain ⟨f1, f2⟩ := coAVs_nil bs hq
        rw [f1]
        cases h
        exact ⟨rfl, by simp [e2, f2]⟩
      · cases h
    · cases h
  | .any :: _, _, _, h => by cases h
  | .tup _ :: _, _, _, h => by cases h
theorem lCallP_lCall {C : Cfg} {env : List Tm} (bs : List Box) {c : Call} {full : Bool} {hs : List Ty} {r : Tm} {φ : Prop} {tm : Tm} (h : lCallP C env c full hs r = some (φ, tm)) : lCall C env bs c (.call full hs r) = some ⟨φ, tm, env, bs⟩ := by
  unfold lCallP at h
  split at h
  · rename_i f ts hf
    split at h
    · rename_i q hco hids
      cases h
      obtain ⟨e1, e2⟩ := coAVs_nil bs hco
      unfold lCall
      simp only [hf, e1, hids, e2]
      cases r.hasFs <;> rfl
    · cases h
  · cases h

/-! What bears no slice doesn't hang on what is frozen. -/
structure Cx.le' (X Y : Cx) : Prop where
  E : Y.E = X.E

theorem repT_plain {X Y : Cx} : ∀ (t : Ty) (x : t.T) (cs : List Value), t.hasSl = false → repT X t x cs → repT Y t x cs
  | .int _, _, _, _, hh => hh
  | .bool, _, _, _, hh => hh
  | .str, _, _, _, hh => hh
  | .pair a b, _, _, hs, ⟨c1, c2, e, h1, h2⟩ => by
    simp only [Ty.hasSl, Bool.or_eq_false_iff] at hs
    exact ⟨c1, c2, e, repT_plain a _ _ hs.1 h1, repT_plain b _ _ hs.2 h2⟩
  | .arr n t, l, cs, hs, ⟨hl, hr⟩ => ⟨hl, rowOf_mono (fun x ds => repT_plain t x ds hs) l cs hr⟩
  | .sl t, _, _, hs, _ => by cases hs

theorem repC_plain {X Y : Cx} (h : X.le' Y) {v : Value} {c : Cell} (hi : c.id? = none) (hs : c.hasFs = false) (hr : repC X v c) : repC Y v c := by
  cases c with
  | sc x => exact hr
  | oerr _ => exact hr
  | err e => simpa only [repC, h.E] using hr
  | fs t l tg => cases hs
  | os _ _ _ _ _ _ => cases hi
  | ptr _ _ => cases hi
  | ip _ _ => cases hi
  | fp t x s => cases hs

theorem repPs_plain {X Y : Cx} (h : X.le' Y) : ∀ {ps : List Piece} {cs : List Value}, idsOf ps = [] → ps.any Piece.hasFs = false → repPs X ps cs → repPs Y ps cs
  | [], _, _, _, hr => hr
  | p :: ps, _, hi, hs, ⟨c1, c2, e, h1, h2⟩ => by
    simp only [List.any_cons, Bool.or_eq_false_iff] at hs
    cases p with
    | c x =>
      obtain ⟨v, e1, h3, ho⟩ := h1
      have hi1 : x.id? = none := by
        cases hq : x.id? with
        | none => rfl
        | some i => simp [idsOf, Piece.id?, List.filterMap_cons, hq] at hi
      have hi2 : idsOf ps = [] := by simpa [idsOf, Piece.id?, List.filterMap_cons, hi1] using hi
      exact ⟨c1, c2, e, ⟨v, e1, repC_plain h hi1 hs.1 h3, ho⟩, repPs_plain h hi2 hs.2 h2⟩
    | row n t l =>
      have hi2 : idsOf ps = [] := by simpa [idsOf, Piece.id?, List.filterMap_cons] using hi
      exact ⟨c1, c2, e, ⟨h1.1, rowOf_mono (fun x ds => repT_plain t x ds hs.1) l c1 h1.2⟩, repPs_plain h hi2 hs.2 h2⟩

theorem repAV_plain {X Y : Cx} (h : X.le' Y) {v : Value} {x : AV} (hi : x.ids = []) (hs : x.hasFs = false) (hr : repAV X v x) : repAV Y v x := by
  cases x with
  | one c => exact ⟨repC_plain h (by cases hq : c.id? with
    | none => rfl
    | some i => simp [AV.ids, hq] at hi) hs hr.1, hr.2⟩
  | agg ps =>
    obtain ⟨cs, e, h1⟩ := hr
    exact ⟨cs, e, repPs_plain h hi hs h1⟩
  | clo f sh ps =>
    obtain ⟨cs, e, h1⟩ := hr
    exact ⟨cs, e, repPs_plain h hi hs h1⟩

theorem repAVs_plain {X Y : Cx} (h : X.le' Y) : ∀ {xs : List AV} {vs : List Value}, xs.flatMap AV.ids = [] → xs.any AV.hasFs = false → repAVs X xs vs → repAVs Y xs vs
  | [], _, _, _, hr => hr
  | x :: xs, _, hi, hs, ⟨v, us, e, h1, h2⟩ => by
    simp only [List.any_cons, Bool.or_eq_false_iff] at hs
    simp only [List.flatMap_cons, List.append_eq_nil_iff] at hi
    exact ⟨v, us, e, repAV_plain h hi.1 hs.1 h1, repAVs_plain h hi.2 hs.2 h2⟩

theorem repTm_plain {X Y : Cx} (h : X.le' Y) {v : Value} {x : Tm} (hi : x.ids = []) (hs : x.hasFs = false) (hr : repTm X v x) : repTm Y v x := by
  cases x with
  | any => trivial
  | v y => exact repAV_plain h hi hs hr
  | tup xs =>
    obtain ⟨vs, e, h1⟩ := hr
    exact ⟨vs, e, repAVs_plain h hi hs h1⟩

/-- How a step goes on. -/
def Going (C : Cfg) (m : Nat) (Z : Nat → Prop) (β : Nat → Option (Nat × Nat)) (w : World) (bs : List Box) (a : Act) (r : Out) (K : Value → World → Prop) : Prop :=
  ∀ v Z' β' w', repTm (mkX C.E Z' β' w' r.bs) v r.tm → RelE (mkX C.E Z' β' w' r.bs) a.tmps r.env → RelB C.E C.G Z' β' w' r.bs → Ext m Z β bs w Z' β' r.bs w' → K v w'

section
variable {C : Cfg} {m : Nat} {Z : Nat → Prop} {β : Nat → Option (Nat × Nat)} {w : World} {bs : List Box} {a : Act} {env : List Tm}

theorem Done.wp {o : Oper} {r : Out} {K : Act → World → Prop} {Q : Exit → Act → World → Prop} (h : Done C m Z β w bs a r ((execOp a.eval o).run C.P w)) (hK : Going C m Z β w bs a r fun v w' => K (a.put o.dst v) w') : o.wp C.P a w K Q := by
  obtain ⟨n, v, w', β', h1, h2, h3, h4, h5, h6⟩ := h
  unfold Oper.wp
  rw [h1]
  rcases h2 with rfl | ⟨rfl, rfl⟩
  · exact hK v Z β' w' h3 h4 h5 h6
  · exact hK undef Z β' w' h3 h4 h5 h6

theorem Froze.rel (h : RelB C.E C.G Z β w bs) {F : List Nat} {Z' : Nat → Prop} {w' : World} {bs' : List Box} (hf : Froze bs bs' F) (hsz : w.heap.size ≤ w'.heap.size) (hh : ∀ b, b < w.heap.size → w'.heap[b]? = w.heap[b]?) (hz : ∀ b, Z b → Z' b)
    (hzf : ∀ i b n, i ∈ F → bAl bs i = true → β i = some (b, n) → Z' b) (hzp : ∀ b, Z' b → Z b ∨ w.heap.size ≤ b ∧ b < w'.heap.size ∨ ∃ i n, i ∈ F ∧ bAl bs i = true ∧ β i = some (b, n)) :
    RelB C.E C.G Z' β w' bs' ∧ (mkX C.E Z β w bs).le (mkX C.E Z' β w' bs') ∧ (∀ j, (mkX C.E Z β w bs).okAt (mkX C.E Z' β w' bs') j) := by
  have hle : (mkX C.E Z β w bs).le (mkX C.E Z' β w' bs') := ⟨rfl, hz, fun b hb => hh b (h.zlt b hb)⟩
  have hok : ∀ j, (mkX C.E Z β w bs).okAt (mkX C.E Z' β w' bs') j := fun j hj => ⟨by simpa [mkX, hf.len] using hj, fun ha => ⟨by simpa [mkX, hf.al] using ha, rfl⟩⟩
  refine ⟨h.step hle (fun i bx hi => ?_) (fun i j b n m hi hj e1 e2 => by rw [hf.al] at hi hj; exact h.inj i j b n m hi hj e1 e2) (fun b hb => ?_) (fun b hb i n hi e => ?_) (fun i b n h1 h2 e => ?_), hle, hok⟩
  · obtain ⟨b0, h0, hb⟩ := hf.at_ i bx hi
    left
    have hr := h.box i b0 h0
    have hmono : repBox (mkX C.E Z' β w' bs') i b0 := by
      cases hal : b0.alive with
      | false => cases b0 <;> first | trivial | cases hal
      | true => exact repBox_le hle rfl (fun b n e => hh b (h.lt (by simp [bAl, h0, hal]) e)) (fun j _ => hok j) hr
    rcases hb with rfl | rfl
    · exact hmono
    · cases b0 <;> exact hmono
  · rcases hzp b hb with h1 | ⟨_, h1⟩ | ⟨i, n, _, hi, e⟩
    · exact Nat.lt_of_lt_of_le (h.zlt b h1) hsz
    · exact h1
    · exact Nat.lt_of_lt_of_le (h.lt hi e) hsz
  · obtain ⟨h1, h2⟩ := hf.rw i hi
    rcases hzp b hb with h3 | ⟨h3, _⟩ | ⟨j, n', hj, haj, ej⟩
    · exact h.zrw b h3 i n h1 e
    · have := h.lt (bRw_al h1) e; omega
    · have := h.inj i j b n n' (bRw_al h1) haj e ej
      subst this
      exact h2 hj
  · rw [hf.al] at h1
    rcases hf.ro i h2 with h3 | h3
    · exact hz b (h.zro i b n h1 h3 e)
    · exact hzf i b n h3 h1 e

theorem evals_rep (hr : RelE (mkX C.E Z β w bs) a.tmps env) : ∀ (l : List Operand), All2 (fun v x => repTm (mkX C.E Z β w bs) v x) (l.map a.eval) (l.map (evalO C.E env))
  | [] => .nil
  | x :: l => .cons (evalO_rep hr x) (evals_rep hr l)

theorem lCall_wp (hC : COk C) (h : RelB C.E C.G Z β w bs) (hr : RelE (mkX C.E Z β w bs) a.tmps env) {o : Oper} {c : Call} (ho : o.op = .call c) {d : OD} {r : Out} (hq : lCall C env bs c d = some r) (hφ : r.φ)
    {K : Act → World → Prop} {Q : Exit → Act → World → Prop} (hK : Going C m Z β w bs a r fun v w' => K (a.put o.dst v) w') : o.wp C.P a w K Q := by
  unfold lCall at hq
  split at hq
  · rename_i f ts full hs rt hcal
    obtain ⟨vs, hvals, hexe⟩ := callF_run hC (X := mkX C.E Z β w bs) rfl (fun x => evalO_rep hr x) hcal
    split at hq
    · rename_i q hco hrt
      cases hq
      obtain ⟨p1, p2, _⟩ := andL_append.1 hφ
      obtain ⟨hcoal, has, hrepa⟩ := coAVs_rep h hco
      obtain ⟨qφ, F, as, qhs⟩ := q
      dsimp only at p1 p2 hcoal has hrepa hK ⊢
      -- what the call may look at
      let Zc : Nat → Prop := fun b => Z b ∨ ∃ id n, id ∈ F ∧ bAl bs id = true ∧ β id = some (b, n)
      have hZlt : ∀ b, Zc b → b < w.heap.size := fun b hb => by
        rcases hb with hb | ⟨id, n, _, hal, e⟩
        · exact h.zlt b hb
        · exact h.lt hal e
      have hB : RelB C.E C.G Zc (fun _ => none) w [] := by
        refine ⟨fun i bx hi => ?_, fun i j b n m hi => ?_, hZlt, fun b _ i n hi => ?_, fun i b n hi => ?_, fun g hg => ?_⟩
        · simp at hi
        · simp [bAl] at hi
        · simp [bRw] at hi
        · simp [bAl] at hi
        · exact ⟨(h.glob g hg).1, .inl (h.glob g hg).2⟩
      have hle0 : (mkX C.E Z β w bs).le (mkX C.E Zc β w bs) := ⟨rfl, fun b hb => .inl hb, fun _ _ => rfl⟩
      have hvs : repAVs (mkX C.E Zc β w bs) as vs :=
        hrepa (Y := mkX C.E Zc β w bs) (F := F) p1 ⟨hle0, rfl, fun id hid b z hb => .inr ⟨id, z, hid, hcoal id hid, hb⟩⟩ (fun _ h => h) hvals
      have hvs2 : repAVs (mkX C.E Zc (fun _ => none) w []) as vs :=
        repAVs_le (X := mkX C.E Zc β w bs) (Y := mkX C.E Zc (fun _ => none) w []) ⟨rfl, fun _ h => h, fun _ _ => rfl⟩ (fun i hh => by rw [has] at hh; simp at hh) hvs
      have hfun := p2 Zc (fun _ => none) w vs hB hvs2
      -- behind the call
      have after : ∀ v w', Post C Zc (fun _ => none) w [] rt [] v w' → K (a.put o.dst v) w' := by
        rintro v w' ⟨Z1, β1, hB1, hv1, hE1⟩
        have hh : ∀ b, b < w.heap.size → w'.heap[b]? = w.heap[b]? := fun b hb => hE1.frame b hb (fun i n hi => by simp [bRw] at hi)
        cases hfs : rt.hasFs with
        | false =>
          simp only [hfs, cond_false] at hK
          obtain ⟨g1, g2⟩ := h.quiet hE1.size hh
          refine hK v Z β w' (repTm_plain (X := mkX C.E Z1 β1 w' []) (Y := mkX C.E Z β w' bs) ⟨rfl⟩ hrt hfs hv1) (hr.step g2 fun _ _ _ _ hl => ⟨hl, fun ha => ⟨ha, rfl⟩⟩) g1 (Ext.quiet hE1.os hE1.tape hE1.output hE1.size hh)
        | true =>
          simp only [hfs, cond_true] at hK
          have hF := frzAll_spec F bs
          obtain ⟨g1, g2, g3⟩ := hF.rel h (Z' := Z1) hE1.size hh (fun b hb => hE1.zmono b (.inl hb)) (fun i b n h1 h2 h3 => hE1.zmono b (.inr ⟨i, n, h1, h2, h3⟩)) (fun b hb => by
            rcases hE1.zprov b hb with (h1 | ⟨id, n, h1, h2, h3⟩) | h1 | ⟨j, k, h1, _⟩
            · exact .inl h1
            · exact .inr (.inr ⟨id, n, h1, h2, h3⟩)
            · exact .inr (.inl ⟨h1, hB1.zlt b hb⟩)
            · simp [bRw] at h1)
          refine hK v Z1 β w' ?_ (hr.step g2 fun _ _ j _ => g3 j) g1 ⟨hE1.os, hE1.tape, hE1.output, hE1.size, fun b hb _ => hh b hb, fun b hb => hE1.zmono b (.inl hb), fun i b n hi e => .inr ⟨i, n, (hF.rw i hi).1, e⟩, fun b hb => ?_, fun i _ hi => by rw [hF.ex] at hi; exact hi, fun _ _ _ => rfl⟩
          · exact repTm_le (X := mkX C.E Z1 β1 w' []) (Y := mkX C.E Z1 β w' (frzAll bs F)) ⟨rfl, fun _ h => h, fun _ _ => rfl⟩ (fun j hj => by have hj : j ∈ rt.ids := hj; rw [hrt] at hj; simp at hj) hv1
          · rcases hE1.zprov b hb with (h1 | ⟨id, n, h1, h2, h3⟩) | h1 | ⟨j, k, h1, _⟩
            · exact .inl h1
            · by_cases hrw : bRw bs id = true
              · exact .inr (.inr ⟨id, n, hrw, h3⟩)
              · exact .inl (h.zro id b n h2 (by simpa using hrw) h3)
            · exact .inr (.inl h1)
            · simp [bRw] at h1
      have hexec := hexe o w ho
      unfold Oper.wp
      rw [hexec]
      rcases hfun with ⟨v, w', h1, h2⟩ | ⟨h1, h2⟩
      · rw [h1]; exact after v w' h2
      · rw [h1]
        refine Calls.mono h2 ?_
        rintro e w' ⟨v, rfl, h3⟩
        exact after v w' h3
    · cases hq
  · cases hq
end

end Go.Proofs.YtllannmegnklmaaE
