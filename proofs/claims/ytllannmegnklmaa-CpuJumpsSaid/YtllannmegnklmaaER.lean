/- Calls that are handed boxes. -/
import Derived.Test.YtllannmegnklmaaE11
set_option linter.unusedVariables false
set_option linter.unusedSimpArgs false
set_option linter.unnecessarySimpa false
namespace Go.Proofs.YtllannmegnklmaaE
open Go

/-! ### Numbers of boxes: the caller's, and the called function's -/
def invAt : List Nat → Nat → Nat → Option Nat
  | [], _, _ => none
  | a :: r, i, id => bif Nat.beq a id then some i else invAt r (i + 1) id
def inv (σ : List Nat) (id : Nat) : Option Nat := invAt σ 0 id
def distinct : List Nat → Bool
  | [] => true
  | a :: r => !(r.any (Nat.beq a)) && distinct r
def renI (σ : List Nat) (n i : Nat) : Nat := bif Nat.ble (i + 1) σ.length then σ.getD i 0 else n + (i - σ.length)

theorem invAt_spec : ∀ {σ : List Nat} {i id k : Nat}, invAt σ i id = some k → i ≤ k ∧ σ[k - i]? = some id
  | [], _, _, _, h => by cases h
  | a :: r, i, id, k, h => by
    simp only [invAt] at h
    cases hb : Nat.beq a id with
    | true =>
      rw [hb] at h
      cases h
      exact ⟨Nat.le_refl _, by simp [beq_eq hb]⟩
    | false =>
      rw [hb] at h
      obtain ⟨h1, h2⟩ := invAt_spec (σ := r) h
      refine ⟨by omega, ?_⟩
      rw [show k - i = (k - (i + 1)) + 1 by omega]
      simpa using h2
theorem inv_spec {σ : List Nat} {id k : Nat} (h : inv σ id = some k) : σ[k]? = some id := by simpa using (invAt_spec h).2
theorem invAt_none : ∀ {σ : List Nat} {i id : Nat}, invAt σ i id = none → id ∉ σ
  | [], _, _, _ => by simp
  | a :: r, i, id, h => by
    simp only [invAt] at h
    cases hb : Nat.beq a id with
    | true => rw [hb] at h; cases h
    | false =>
      rw [hb] at h
      have := invAt_none (σ := r) h
      simp only [List.mem_cons, not_or]
      exact ⟨fun e => (by rw [e, Nat.beq_refl] at hb; cases hb), this⟩
theorem inv_none {σ : List Nat} {id : Nat} (h : inv σ id = none) : id ∉ σ := invAt_none h
theorem distinct_spec : ∀ {σ : List Nat}, distinct σ = true → ∀ (i j x : Nat), σ[i]? = some x → σ[j]? = some x → i = j
  | [], _, i, j, x, h, _ => by simp at h
  | a :: r, h, i, j, x, h1, h2 => by
    simp only [distinct, Bool.and_eq_true, Bool.not_eq_true'] at h
    have hn : ∀ {y}, y ∈ r → a ≠ y := fun {y} hy e => by
      have := h.1
      rw [List.any_eq_false] at this
      exact this y hy (by rw [e]; exact Nat.beq_refl _)
    cases i with
    | zero => cases j with
      | zero => rfl
      | succ j =>
        simp at h1 h2
        subst h1
        exact absurd rfl (hn (List.mem_of_getElem? h2))
    | succ i => cases j with
      | zero =>
        simp at h1 h2
        subst h2
        exact absurd rfl (hn (List.mem_of_getElem? h1))
      | succ j =>
        simp at h1 h2
        rw [distinct_spec h.2 i j x h1 h2]
theorem inv_of {σ : List Nat} (hd : distinct σ = true) {i id : Nat} (h : σ[i]? = some id) : inv σ id = some i := by
  cases hi : inv σ id with
  | none => exact absurd (List.mem_of_getElem? h) (inv_none hi)
  | some k => rw [distinct_spec hd k i id (inv_spec hi) h]
theorem inv_some_of_mem {σ : List Nat} {id : Nat} (h : id ∈ σ) : ∃ i, inv σ id = some i := by
  cases hi : inv σ id with
  | none => exact absurd h (inv_none hi)
  | some k => exact ⟨k, rfl⟩

/-! ### Handing on, boxes among it -/
def coCR (bs : List Box) (full : Bool) (hs : List Ty) (σ : List Nat) (x : Cell) : Option (Co Cell) := match x with
  | .os id base lo esz len cap => (match inv σ id with
    | some i => some ⟨[], [], .os i base lo esz len none, hs⟩
    | none => coC bs full hs (.os id base lo esz len cap))
  | .ptr id o => (match inv σ id with
    | some i => some ⟨[], [], .ptr i o, hs⟩
    | none => none)
  | .ip t id => (match inv σ id with
    | some i => some ⟨[], [], .ip t i, hs⟩
    | none => none)
  | x => coC bs full hs x

def coPsR (bs : List Box) (full : Bool) (hs : List Ty) (σ : List Nat) : List Piece → Option (Co (List Piece))
  | [] => some ⟨[], [], [], hs⟩
  | .c x :: xs => (match coCR bs full hs σ x with
    | some r => (match coPsR bs full r.hs σ xs with
      | some q => some ⟨r.φ ++ q.φ, r.ids ++ q.ids, .c r.v :: q.v, q.hs⟩
      | none => none)
    | none => none)
  | .row n t l :: xs => (match coPsR bs full hs σ xs with
      | some q => some ⟨q.φ, q.ids, .row n t l :: q.v, q.hs⟩
      | none => none)

def coAVR (bs : List Box) (full : Bool) (hs : List Ty) (σ : List Nat) : AV → Option (Co AV)
  | .one x => (match coCR bs full hs σ x with | some r => some ⟨r.φ, r.ids, .one r.v, r.hs⟩ | none => none)
  | .agg ps => (match coPsR bs full hs σ ps with | some r => some ⟨r.φ, r.ids, .agg r.v, r.hs⟩ | none => none)
  | .clo f sh ps => (match coPsR bs full hs σ ps with | some r => some ⟨r.φ, r.ids, .clo f sh r.v, r.hs⟩ | none => none)

def coAVsR (bs : List Box) (full : Bool) (hs : List Ty) (σ : List Nat) : List Tm → Option (Co (List AV))
  | [] => some ⟨[], [], [], hs⟩
  | .v x :: xs => (match coAVR bs full hs σ x with
    | some r => (match coAVsR bs full r.hs σ xs with
      | some q => some ⟨r.φ ++ q.φ, r.ids ++ q.ids, r.v :: q.v, q.hs⟩
      | none => none)
    | none => none)
  | _ => none

def boxIn (bs : List Box) (full : Bool) (hs : List Ty) (σ : List Nat) (id : Nat) : Option (Co Box) := match bs[id]? with
  | some (.ex false ps ty) => (match coPsR bs full hs σ ps with | some q => some ⟨q.φ, q.ids, .ex false q.v ty, q.hs⟩ | none => none)
  | some (.gro false t l ty) => some ⟨[], [], .gro false t l ty, hs⟩
  | some (.fix false t l ty) => some ⟨[], [], .fix false t l ty, hs⟩
  | _ => none
def boxesIn (bs : List Box) (full : Bool) (hs : List Ty) (σ : List Nat) : List Nat → Option (Co (List Box))
  | [] => some ⟨[], [], [], hs⟩
  | id :: r => (match boxIn bs full hs σ id with
    | some p => (match boxesIn bs full p.hs σ r with
      | some q => some ⟨p.φ ++ q.φ, p.ids ++ q.ids, p.v :: q.v, q.hs⟩
      | none => none)
    | none => none)

structure HandR (X Y : Cx) (F σ : List Nat) : Prop where
  hd : Hand X Y F
  bx : ∀ i id, inv σ id = some i → X.al id = true ∧ i < Y.nb ∧ Y.β i = X.β id

section
variable {E : TypeId} {G : Globs} {Z : Nat → Prop} {β : Nat → Option (Nat × Nat)} {w : World} {bs : List Box} {full : Bool} {σ : List Nat}

theorem coCR_rep (h : RelB E G Z β w bs) {hs : List Ty} {x : Cell} {r : Co Cell} (hq : coCR bs full hs σ x = some r) : (∀ id, id ∈ r.ids → bAl bs id = true) ∧
    ∀ {v : Value} {Y : Cx} {F : List Nat}, andL r.φ → HandR (mkX E Z β w bs) Y F σ → (∀ id, id ∈ r.ids → id ∈ F) → repC (mkX E Z β w bs) v x → v.oneCell' = true → repC Y v r.v := by
  unfold coCR at hq
  split at hq
  · split at hq
    · rename_i id base lo esz len cap _ i hi
      cases hq
      refine ⟨fun _ h => by simp at h, fun {v Y F} _ hH _ hv _ => ?_⟩
      obtain ⟨h1, h2, h3⟩ := hH.bx i id hi
      obtain ⟨a, c, e, hl, _, hz⟩ := hv.2 h1
      exact ⟨h2, fun _ => ⟨a, c, e, hl, fun k hk => (by cases hk), fun hc => (by
        obtain ⟨b, z, hb, ha, hle⟩ := hz hc
        exact ⟨b, z, h3.trans hb, ha, hle⟩)⟩⟩
    · obtain ⟨a1, _, a3⟩ := coC_rep h hq
      exact ⟨a1, fun hφ hH hF hv ho => a3 hφ hH.hd hF hv ho⟩
  · split at hq
    · rename_i id o _ i hi
      cases hq
      refine ⟨fun _ h => by simp at h, fun {v Y F} _ hH _ hv _ => ?_⟩
      obtain ⟨h1, h2, h3⟩ := hH.bx i id hi
      obtain ⟨b, z, hb, e⟩ := hv.2 h1
      exact ⟨h2, fun _ => ⟨b, z, h3.trans hb, e⟩⟩
    · cases hq
  · split at hq
    · rename_i t id _ i hi
      cases hq
      refine ⟨fun _ h => by simp at h, fun {v Y F} _ hH _ hv _ => ?_⟩
      obtain ⟨h1, h2, h3⟩ := hH.bx i id hi
      obtain ⟨_, q, e, hq2⟩ := hv
      obtain ⟨b, z, hb, e2⟩ := hq2 h1
      exact ⟨h2, q, e, fun _ => ⟨b, z, h3.trans hb, e2⟩⟩
    · cases hq
  · obtain ⟨a1, _, a3⟩ := coC_rep h hq
    exact ⟨a1, fun hφ hH hF hv ho => a3 hφ hH.hd hF hv ho⟩

theorem coPsR_rep (h : RelB E G Z β w bs) : ∀ {xs : List Piece} {hs : List Ty} {r : Co (List Piece)}, coPsR bs full hs σ xs = some r → (∀ id, id ∈ r.ids → bAl bs id = true) ∧
    ∀ {cs : List Value} {Y : Cx} {F : List Nat}, andL r.φ → HandR (mkX E Z β w bs) Y F σ → (∀ id, id ∈ r.ids → id ∈ F) → repPs (mkX E Z β w bs) xs cs → repPs Y r.v cs
  | [], hs, r, hq => by cases hq; exact ⟨fun i hi => by simp at hi, fun _ _ _ hr => hr⟩
  | .c x :: xs, hs, r, hq => by
    simp only [coPsR] at hq
    split at hq
    · rename_i r1 h1
      split at hq
      · rename_i q hqq
        cases hq
        obtain ⟨a1, a3⟩ := coCR_rep h h1
        obtain ⟨b1, b3⟩ := coPsR_rep h hqq
        refine ⟨fun i hi => by rcases List.mem_append.1 hi with hi | hi; exact a1 i hi; exact b1 i hi, fun {cs Y F} hφ hH hF hr => ?_⟩
        obtain ⟨p1, p2⟩ := andL_append.1 hφ
        obtain ⟨c1, c2, e, ⟨v, e1, h2, ho⟩, h3⟩ := hr
        exact ⟨c1, c2, e, ⟨v, e1, a3 p1 hH (fun i hi => hF i (List.mem_append_left _ hi)) h2 ho, ho⟩, b3 p2 hH (fun i hi => hF i (List.mem_append_right _ hi)) h3⟩
      · cases hq
    · cases hq
  | .row n t l :: xs, hs, r, hq => by
    simp only [coPsR] at hq
    split at hq
    · rename_i q hqq
      cases hq
      obtain ⟨b1, b3⟩ := coPsR_rep h hqq
      refine ⟨b1, fun {cs Y F} hφ hH hF hr => ?_⟩
      obtain ⟨c1, c2, e, h2, h3⟩ := hr
      exact ⟨c1, c2, e, repP_le hH.hd.le (fun i hi => by cases hi) h2, b3 hφ hH hF h3⟩
    · cases hq

theorem coAVR_rep (h : RelB E G Z β w bs) {x : AV} {hs : List Ty} {r : Co AV} (hq : coAVR bs full hs σ x = some r) : (∀ id, id ∈ r.ids → bAl bs id = true) ∧
    ∀ {v : Value} {Y : Cx} {F : List Nat}, andL r.φ → HandR (mkX E Z β w bs) Y F σ → (∀ id, id ∈ r.ids → id ∈ F) → repAV (mkX E Z β w bs) v x → repAV Y v r.v := by
  cases x with
  | one c =>
    simp only [coAVR] at hq
    split at hq
    · rename_i r1 h1
      cases hq
      obtain ⟨a1, a3⟩ := coCR_rep h h1
      exact ⟨a1, fun {v Y F} hφ hH hF hv => ⟨a3 hφ hH hF hv.1 hv.2, hv.2⟩⟩
    · cases hq
  | agg ps =>
    simp only [coAVR] at hq
    split at hq
    · rename_i r1 h1
      cases hq
      obtain ⟨a1, a3⟩ := coPsR_rep h h1
      exact ⟨a1, fun {v Y F} hφ hH hF ⟨cs, e, hr⟩ => ⟨cs, e, a3 hφ hH hF hr⟩⟩
    · cases hq
  | clo f sh ps =>
    simp only [coAVR] at hq
    split at hq
    · rename_i r1 h1
      cases hq
      obtain ⟨a1, a3⟩ := coPsR_rep h h1
      exact ⟨a1, fun {v Y F} hφ hH hF ⟨cs, e, hr⟩ => ⟨cs, e, a3 hφ hH hF hr⟩⟩
    · cases hq

theorem coAVsR_rep (h : RelB E G Z β w bs) : ∀ {xs : List Tm} {hs : List Ty} {r : Co (List AV)}, coAVsR bs full hs σ xs = some r → (∀ id, id ∈ r.ids → bAl bs id = true) ∧
    ∀ {vs : List Value} {Y : Cx} {F : List Nat}, andL r.φ → HandR (mkX E Z β w bs) Y F σ → (∀ id, id ∈ r.ids → id ∈ F) → All2 (fun v x => repTm (mkX E Z β w bs) v x) vs xs → repAVs Y r.v vs
  | [], hs, r, hq => by
    cases hq
    refine ⟨fun i hi => by simp at hi, fun {vs Y F} _ _ _ hr => ?_⟩
    cases hr
    rfl
  | .v x :: xs, hs, r, hq => by
    simp only [coAVsR] at hq
    split at hq
    · rename_i r1 h1
      split at hq
      · rename_i q hqq
        cases hq
        obtain ⟨a1, a3⟩ := coAVR_rep h h1
        obtain ⟨b1, b3⟩ := coAVsR_rep h hqq
        refine ⟨fun i hi => by rcases List.mem_append.1 hi with hi | hi; exact a1 i hi; exact b1 i hi, fun {vs Y F} hφ hH hF hr => ?_⟩
        obtain ⟨p1, p2⟩ := andL_append.1 hφ
        cases hr with
        | cons h2 h3 => exact ⟨_, _, rfl, a3 p1 hH (fun i hi => hF i (List.mem_append_left _ hi)) h2, b3 p2 hH (fun i hi => hF i (List.mem_append_right _ hi)) h3⟩
      · cases hq
    · cases hq
  | .any :: _, _, _, hq => by cases hq
  | .tup _ :: _, _, _, hq => by cases hq

/-- A box that is handed on. -/
theorem boxIn_rep (h : RelB E G Z β w bs) {hs : List Ty} {id : Nat} {r : Co Box} (hq : boxIn bs full hs σ id = some r) :
    (∀ i, i ∈ r.ids → bAl bs i = true) ∧ bRw bs id = true ∧ r.v.rw = true ∧ r.v.isEx = bEx bs id ∧
    ∀ {Y : Cx} {F : List Nat} {i : Nat}, andL r.φ → HandR (mkX E Z β w bs) Y F σ → (∀ i, i ∈ r.ids → i ∈ F) → Y.β i = β id → repBox Y i r.v := by
  unfold boxIn at hq
  split at hq
  · rename_i ps ty hb
    split at hq
    · rename_i q hco
      cases hq
      obtain ⟨a1, a3⟩ := coPsR_rep h hco
      refine ⟨a1, by simp [bRw, hb, Box.rw], rfl, by simp [bEx, hb, Box.isEx], fun {Y F i} hφ hH hF hβ => ?_⟩
      obtain ⟨b, cs, fr, h1, h2, h3, h4⟩ := h.box id _ hb
      have hw : Y.w = w := hH.hd.w
      exact ⟨b, cs, fr, by rw [hβ]; exact h1, by rw [hw]; exact h2, h3, a3 hφ hH hF h4⟩
    · cases hq
  · rename_i t l ty hb
    cases hq
    refine ⟨fun i hi => by simp at hi, by simp [bRw, hb, Box.rw], rfl, by simp [bEx, hb, Box.isEx], fun {Y F i} hφ hH hF hβ => ?_⟩
    have hw : Y.w = w := hH.hd.w
    rcases h.box id _ hb with ⟨h1, h2⟩ | ⟨b, cs, fr, c1, c2, h1, h2, h3, h4, h5, h6⟩
    · exact .inl ⟨by rw [hβ]; exact h1, h2⟩
    · exact .inr ⟨b, cs, fr, c1, c2, by rw [hβ]; exact h1, by rw [hw]; exact h2, h3, h4, rowOf_mono (fun x ds => repT_le hH.hd.le t x ds) l c1 h5, h6⟩
  · rename_i t l ty hb
    cases hq
    refine ⟨fun i hi => by simp at hi, by simp [bRw, hb, Box.rw], rfl, by simp [bEx, hb, Box.isEx], fun {Y F i} hφ hH hF hβ => ?_⟩
    have hw : Y.w = w := hH.hd.w
    rcases h.box id _ hb with ⟨h1, h2⟩ | ⟨b, cs, fr, c1, c2, h1, h2, h3, h4, h5, h6⟩
    · exact .inl ⟨by rw [hβ]; exact h1, h2⟩
    · exact .inr ⟨b, cs, fr, c1, c2, by rw [hβ]; exact h1, by rw [hw]; exact h2, h3, h4, rowOf_mono (fun x ds => repT_le hH.hd.le t x ds) l c1 h5, h6⟩
  · cases hq

theorem boxesIn_rep (h : RelB E G Z β w bs) : ∀ {l : List Nat} {hs : List Ty} {r : Co (List Box)}, boxesIn bs full hs σ l = some r →
    (∀ i, i ∈ r.ids → bAl bs i = true) ∧ r.v.length = l.length ∧ (∀ (i id : Nat), l[i]? = some id → bRw bs id = true) ∧
    (∀ (i : Nat) (bx : Box), r.v[i]? = some bx → ∃ id : Nat, l[i]? = some id ∧ bx.rw = true ∧ bx.isEx = bEx bs id ∧
      ∀ {Y : Cx} {F : List Nat}, andL r.φ → HandR (mkX E Z β w bs) Y F σ → (∀ i, i ∈ r.ids → i ∈ F) → (∀ k, Y.β k = β id → repBox Y k bx))
  | [], hs, r, hq => by
    cases hq
    exact ⟨fun i hi => by simp at hi, rfl, fun i id h => by simp at h, fun i bx h => by simp at h⟩
  | id :: l, hs, r, hq => by
    simp only [boxesIn] at hq
    split at hq
    · rename_i p hp
      split at hq
      · rename_i q hqq
        cases hq
        obtain ⟨a1, a2, a3, a4, a5⟩ := boxIn_rep h hp
        obtain ⟨b1, b2, b3, b4⟩ := boxesIn_rep h hqq
        refine ⟨fun i hi => by rcases List.mem_append.1 hi with hi | hi; exact a1 i hi; exact b1 i hi, by simp [b2], fun i x hx => ?_, fun i bx hbx => ?_⟩
        · cases i with
          | zero => simp at hx; rw [← hx]; exact a2
          | succ i => exact b3 i x (by simpa using hx)
        · cases i with
          | zero =>
            simp at hbx
            subst hbx
            exact ⟨id, rfl, a3, a4, fun {Y F} hφ hH hF k hk => a5 (andL_append.1 hφ).1 hH (fun i hi => hF i (List.mem_append_left _ hi)) hk⟩
          | succ i =>
            obtain ⟨x, h1, h2, h3, h4⟩ := b4 i bx (by simpa using hbx)
            exact ⟨x, by simpa using h1, h2, h3, fun {Y F} hφ hH hF k hk => h4 (andL_append.1 hφ).2 hH (fun i hi => hF i (List.mem_append_right _ hi)) k hk⟩
      · cases hq
    · cases hq
end

/-! ### What comes back, by the caller's numbers -/
def Cell.ren (f : Nat → Nat) : Cell → Cell
  | .os id base lo esz len cap => .os (f id) base lo esz len cap
  | .ptr id o => .ptr (f id) o
  | .ip t id => .ip t (f id)
  | x => x
def Piece.ren (f : Nat → Nat) : Piece → Piece
  | .c x => .c (x.ren f)
  | p => p
def AV.ren (f : Nat → Nat) : AV → AV
  | .one x => .one (x.ren f)
  | .agg ps => .agg (ps.map (Piece.ren f))
  | .clo g sh ps => .clo g sh (ps.map (Piece.ren f))
def Tm.ren (f : Nat → Nat) : Tm → Tm
  | .any => .any
  | .v x => .v (x.ren f)
  | .tup xs => .tup (xs.map (AV.ren f))
def Box.ren (f : Nat → Nat) : Box → Box
  | .ex ro ps ty => .ex ro (ps.map (Piece.ren f)) ty
  | b => b

structure RenOK (Y X : Cx) (f : Nat → Nat) (S : Nat → Prop) : Prop where
  le : Y.le X
  w : X.w = Y.w
  ix : ∀ i, S i → i < Y.nb → f i < X.nb ∧ (X.al (f i) = true → Y.al i = true) ∧ X.β (f i) = Y.β i

section
variable {X Y : Cx} {f : Nat → Nat} {S : Nat → Prop}

theorem renC (h : RenOK Y X f S) {v : Value} {c : Cell} (hS : ∀ i, c.id? = some i → S i) (hr : repC Y v c) : repC X v (c.ren f) := by
  cases c with
  | os id base lo esz len cap =>
    obtain ⟨h1, h2⟩ := hr
    obtain ⟨g1, g2, g3⟩ := h.ix id (hS id rfl) h1
    exact ⟨g1, fun ha => by
      obtain ⟨a, c, e, hl, hk, hz⟩ := h2 (g2 ha)
      exact ⟨a, c, e, hl, hk, fun hc => by
        obtain ⟨b, z, hb, rest⟩ := hz hc
        exact ⟨b, z, g3.trans hb, rest⟩⟩⟩
  | ptr id o =>
    obtain ⟨h1, h2⟩ := hr
    obtain ⟨g1, g2, g3⟩ := h.ix id (hS id rfl) h1
    exact ⟨g1, fun ha => by
      obtain ⟨b, z, hb, e⟩ := h2 (g2 ha)
      exact ⟨b, z, g3.trans hb, e⟩⟩
  | ip t id =>
    obtain ⟨h1, q, e, h2⟩ := hr
    obtain ⟨g1, g2, g3⟩ := h.ix id (hS id rfl) h1
    exact ⟨g1, q, e, fun ha => by
      obtain ⟨b, z, hb, e⟩ := h2 (g2 ha)
      exact ⟨b, z, g3.trans hb, e⟩⟩
  | _ => exact repC_le h.le (fun i hi => by cases hi) hr
theorem renP (h : RenOK Y X f S) {cs : List Value} {p : Piece} (hS : ∀ i, p.id? = some i → S i) (hr : repP Y cs p) : repP X cs (p.ren f) := by
  cases p with
  | c x => obtain ⟨v, e, h1, h2⟩ := hr; exact ⟨v, e, renC h hS h1, h2⟩
  | row n t l => exact repP_le h.le (fun i hi => by cases hi) hr
theorem renPs (h : RenOK Y X f S) : ∀ {ps : List Piece} {cs : List Value}, (∀ i, i ∈ idsOf ps → S i) → repPs Y ps cs → repPs X (ps.map (Piece.ren f)) cs
  | [], _, _, hr => hr
  | p :: ps, _, hS, ⟨c1, c2, e, h1, h2⟩ => ⟨c1, c2, e, renP h (fun i hi => hS i (by simp [idsOf, List.filterMap_cons, hi])) h1, renPs h (fun i hi => hS i (by
      unfold idsOf at hi ⊢
      rw [List.filterMap_cons]
      split
      · exact hi
      · exact List.mem_cons_of_mem _ hi)) h2⟩
theorem renAV (h : RenOK Y X f S) {v : Value} {x : AV} (hS : ∀ i, i ∈ x.ids → S i) (hr : repAV Y v x) : repAV X v (x.ren f) := by
  cases x with
  | one c => exact ⟨renC h (fun i hi => hS i (by simp [AV.ids, hi])) hr.1, hr.2⟩
  | agg ps => obtain ⟨cs, e, h1⟩ := hr; exact ⟨cs, e, renPs h hS h1⟩
  | clo g sh ps => obtain ⟨cs, e, h1⟩ := hr; exact ⟨cs, e, renPs h hS h1⟩
theorem renAVs (h : RenOK Y X f S) : ∀ {xs : List AV} {vs : List Value}, (∀ i, i ∈ xs.flatMap AV.ids → S i) → repAVs Y xs vs → repAVs X (xs.map (AV.ren f)) vs
  | [], _, _, hr => hr
  | x :: xs, _, hS, ⟨v, us, e, h1, h2⟩ => ⟨v, us, e, renAV h (fun i hi => hS i (by simp [hi])) h1, renAVs h (fun i hi => hS i (by simp only [List.flatMap_cons, List.mem_append]; exact .inr hi)) h2⟩
theorem renTm (h : RenOK Y X f S) {v : Value} {x : Tm} (hS : ∀ i, i ∈ x.ids → S i) (hr : repTm Y v x) : repTm X v (x.ren f) := by
  cases x with
  | any => trivial
  | v x => exact renAV h hS hr
  | tup xs => obtain ⟨vs, e, h1⟩ := hr; exact ⟨vs, e, renAVs h hS h1⟩
theorem renBox (h : RenOK Y X f S) {i j : Nat} (hb : X.β j = Y.β i) {b : Box} (hS : ∀ i, i ∈ b.ids → S i) (hr : repBox Y i b) : repBox X j (b.ren f) := by
  cases b with
  | dead => trivial
  | ex ro ps ty =>
    obtain ⟨b, cs, fr, h1, h2, h3, h4⟩ := hr
    exact ⟨b, cs, fr, hb.trans h1, by rw [h.w]; exact h2, h3, renPs h hS h4⟩
  | gro ro t l ty =>
    rcases hr with ⟨h1, h2⟩ | ⟨b, cs, fr, c1, c2, h1, h2, h3, h4, h5, h6⟩
    · exact .inl ⟨hb.trans h1, h2⟩
    · exact .inr ⟨b, cs, fr, c1, c2, hb.trans h1, by rw [h.w]; exact h2, h3, h4, rowOf_mono (fun x ds => repT_le h.le t x ds) l c1 h5, h6⟩
  | fix ro t l ty =>
    rcases hr with ⟨h1, h2⟩ | ⟨b, cs, fr, c1, c2, h1, h2, h3, h4, h5, h6⟩
    · exact .inl ⟨hb.trans h1, h2⟩
    · exact .inr ⟨b, cs, fr, c1, c2, hb.trans h1, by rw [h.w]; exact h2, h3, h4, rowOf_mono (fun x ds => repT_le h.le t x ds) l c1 h5, h6⟩
end

theorem ren_rw (f : Nat → Nat) (b : Box) : (b.ren f).rw = b.rw := by cases b <;> rfl
theorem ren_alive (f : Nat → Nat) (b : Box) : (b.ren f).alive = b.alive := by cases b <;> rfl
theorem ren_isEx (f : Nat → Nat) (b : Box) : (b.ren f).isEx = b.isEx := by cases b <;> rfl

def putBoxes (bs : List Box) : List Nat → List Box → List Box
  | i :: r, b :: l => putBoxes (bs.set i b) r l
  | [], l => bs ++ l
  | _, [] => bs

theorem putBoxes_spec : ∀ {σ : List Nat} {bs l : List Box}, distinct σ = true → (∀ id, id ∈ σ → id < bs.length) → σ.length ≤ l.length →
    (putBoxes bs σ l).length = bs.length + (l.length - σ.length) ∧ (∀ (i id : Nat), σ[i]? = some id → (putBoxes bs σ l)[id]? = l[i]?) ∧ (∀ j : Nat, j < bs.length → j ∉ σ → (putBoxes bs σ l)[j]? = bs[j]?) ∧ (∀ j : Nat, bs.length ≤ j → (putBoxes bs σ l)[j]? = l[σ.length + (j - bs.length)]?)
  | [], bs, l, _, _, _ => by
    refine ⟨by simp [putBoxes], fun i id h => by simp at h, fun j hj _ => by simp only [putBoxes]; exact List.getElem?_append_left hj, fun j hj => ?_⟩
    simp only [putBoxes]
    rw [List.getElem?_append_right hj]
    simp
  | a :: r, bs, [], _, _, hl => by simp at hl
  | a :: r, bs, b :: l, hd, hlt, hl => by
    simp only [distinct, Bool.and_eq_true, Bool.not_eq_true'] at hd
    have hna : a ∉ r := fun hm => by
      have := hd.1
      rw [List.any_eq_false] at this
      exact this a hm (Nat.beq_refl _)
    have ha := hlt a (by simp)
    obtain ⟨h1, h2, h3, h4⟩ := putBoxes_spec (σ := r) (bs := bs.set a b) (l := l) hd.2 (fun id hid => by rw [List.length_set]; exact hlt id (by simp [hid])) (by simpa using hl)
    rw [List.length_set] at h1 h4
    refine ⟨by simp only [putBoxes, h1, List.length_cons]; omega, fun i id hi => ?_, fun j hj hn => ?_, fun j hj => ?_⟩
    · cases i with
      | zero =>
        simp at hi
        subst hi
        simp only [putBoxes, List.getElem?_cons_zero]
        rw [h3 a (by rw [List.length_set]; exact ha) hna, List.getElem?_set_self ha]
      | succ i =>
        simp at hi
        simpa [putBoxes] using h2 i id hi
    · simp only [List.mem_cons, not_or] at hn
      simp only [putBoxes]
      rw [h3 j (by rw [List.length_set]; exact hj) hn.2, List.getElem?_set, if_neg (fun e => hn.1 e.symm)]
    · simp only [putBoxes]
      rw [h4 j hj, show (a :: r).length + (j - bs.length) = (r.length + (j - bs.length)) + 1 by simp; omega]
      simp

def Tm.killL (K : List Nat) (t : Tm) : Tm := bif t.ids.any (fun i => K.any (Nat.beq i)) then .any else t
def exOK (bs : List Box) : List Nat → List Box → Bool
  | id :: r, b :: l => (bif bEx bs id then b.isEx else !b.isEx) && exOK bs r l
  | _, _ => true
def refsOK (σ K : List Nat) : Nat → List Box → Bool
  | _, [] => true
  | j, b :: r => ((inv σ j).isSome || b.ids.all (fun i => !(K.any (Nat.beq i)))) && refsOK σ K (j + 1) r

theorem exOK_spec : ∀ {σ : List Nat} {bs l : List Box}, exOK bs σ l = true → ∀ (i id : Nat) (b : Box), σ[i]? = some id → l[i]? = some b → bEx bs id = true → b.isEx = true
  | [], _, _, _, i, id, b, h, _, _ => by simp at h
  | _ :: _, _, [], _, i, id, b, _, h, _ => by simp at h
  | a :: r, bs, b :: l, h, i, id, c, h1, h2, h3 => by
    simp only [exOK, Bool.and_eq_true] at h
    cases i with
    | zero =>
      simp at h1 h2
      subst h1 h2
      have h4 := h.1
      rw [h3] at h4; exact h4
    | succ i => exact exOK_spec h.2 i id c (by simpa using h1) (by simpa using h2) h3
theorem exOK_back : ∀ {σ : List Nat} {bs l : List Box}, exOK bs σ l = true → ∀ (i id : Nat) (b : Box), σ[i]? = some id → l[i]? = some b → b.isEx = true → bEx bs id = true
  | [], _, _, _, i, id, b, h, _, _ => by simp at h
  | _ :: _, _, [], _, i, id, b, _, h, _ => by simp at h
  | a :: r, bs, b :: l, h, i, id, c, h1, h2, h3 => by
    simp only [exOK, Bool.and_eq_true] at h
    cases i with
    | zero =>
      simp at h1 h2
      subst h1 h2
      have h4 := h.1
      cases hb : bEx bs a with
      | true => rfl
      | false => rw [hb, h3] at h4; cases h4
    | succ i => exact exOK_back h.2 i id c (by simpa using h1) (by simpa using h2) h3
theorem refsOK_spec {σ K : List Nat} : ∀ {bs : List Box} {k : Nat}, refsOK σ K k bs = true → ∀ (j : Nat) (b : Box), bs[j]? = some b → inv σ (k + j) = none → ∀ i, i ∈ b.ids → i ∉ K
  | [], _, _, j, b, h, _, _, _ => by simp at h
  | a :: r, k, h, j, b, h1, h2, i, hi => by
    simp only [refsOK, Bool.and_eq_true, Bool.or_eq_true] at h
    cases j with
    | zero =>
      simp at h1
      subst h1
      rcases h.1 with h3 | h3
      · rw [show k + 0 = k from rfl] at h2; rw [h2] at h3; cases h3
      · rw [List.all_eq_true] at h3
        have := h3 i hi
        simp only [Bool.not_eq_true'] at this
        rw [List.any_eq_false] at this
        intro hm
        exact this i hm (Nat.beq_refl _)
    | succ j => exact refsOK_spec h.2 j b (by simpa using h1) (by rw [show k + 1 + j = k + (j + 1) by omega]; exact h2) i hi

def killsOf (bs : List Box) (σ : List Nat) : List Nat := σ.filter fun id => !(bEx bs id)

/-- What a call may keep of what it looked at: nothing, where nothing that it hands back bears slices. -/
def Box.hasFs : Box → Bool
  | .dead => false
  | .ex _ ps _ => ps.any Piece.hasFs
  | .gro _ t _ _ => t.hasSl
  | .fix _ t _ _ => t.hasSl
def keepF (r : Tm) (bs : List Box) (l : List Nat) : List Nat := bif r.hasFs || bs.any Box.hasFs then l else []

def lCallG (Pc : List AV → List Box → Prop) (env : List Tm) (bs : List Box) (ts : List Tm) (full : Bool) (hs : List Ty) (σ : List Nat) (r : Tm) (bs' : List Box) : Option Out :=
  match coAVsR bs full hs σ ts with
  | some q => (match boxesIn bs full q.hs σ σ with
    | some p => bif distinct σ && (q.ids ++ p.ids).all (fun id => (inv σ id).isNone) && bs'.all Box.rw && Nat.ble σ.length bs'.length && exOK bs σ bs' && refsOK σ (killsOf bs σ) 0 bs then
        some ⟨andL (q.φ ++ (p.φ ++ [Pc q.v p.v])), r.ren (renI σ bs.length), env.map (Tm.killL (killsOf bs σ)), frzAll (putBoxes bs σ (bs'.map (Box.ren (renI σ bs.length)))) (keepF r bs' (q.ids ++ p.ids))⟩
      else none
    | none => none)
  | none => none
def lCallR (C : Cfg) (env : List Tm) (bs : List Box) (f : FuncId) (ts : List Tm) (full : Bool) (hs : List Ty) (σ : List Nat) (r : Tm) (bs' : List Box) : Option Out :=
  lCallG (fun as b => Fun C f as b r bs') env bs ts full hs σ r bs'
/-- .. that panics. -/
def lCallX (C : Cfg) (env : List Tm) (bs : List Box) (f : FuncId) (ts : List Tm) (full : Bool) (hs : List Ty) (σ : List Nat) (p : Value) (bs' : List Box) : Option Out :=
  lCallG (fun as b => FunX C f as b p bs') env bs ts full hs σ (.v (.one (.sc p))) bs'

theorem RelE.killL {X Y : Cx} {tmps : Array Value} {env : List Tm} (h : RelE X tmps env) (hle : X.le Y) (K : List Nat) (hi : ∀ j, j ∉ K → X.okAt Y j) : RelE Y tmps (env.map (Tm.killL K)) := by
  refine ⟨by rw [List.length_map]; exact h.1, fun i v tm h1 h2 => ?_⟩
  rw [List.getElem?_map] at h2
  cases hq : env[i]? with
  | none => rw [hq] at h2; cases h2
  | some t =>
    rw [hq] at h2
    cases h2
    unfold Tm.killL
    cases hb : t.ids.any (fun i => K.any (Nat.beq i)) with
    | true => trivial
    | false =>
      rw [List.any_eq_false] at hb
      refine repTm_le hle (fun j hj => hi j fun hm => hb j hj ?_) (h.2 i v t h1 hq)
      rw [List.any_eq_true]
      exact ⟨j, hm, Nat.beq_refl _⟩

theorem repC_noFs {X Y : Cx} (hE : Y.E = X.E) (hβ : Y.β = X.β) (hal : Y.al = X.al) (hnb : Y.nb = X.nb) {v : Value} {c : Cell} (hs : c.hasFs = false) (hr : repC X v c) : repC Y v c := by
  cases c with
  | sc x => exact hr
  | oerr _ => exact hr
  | err e => simpa only [repC, hE] using hr
  | fs t l tg => cases hs
  | os _ _ _ _ _ _ => simpa only [repC, hβ, hal, hnb] using hr
  | ptr _ _ => simpa only [repC, hβ, hal, hnb] using hr
  | ip _ _ => simpa only [repC, hβ, hal, hnb] using hr
  | fp t x s => cases hs
theorem repPs_noFs {X Y : Cx} (hE : Y.E = X.E) (hβ : Y.β = X.β) (hal : Y.al = X.al) (hnb : Y.nb = X.nb) : ∀ {ps : List Piece} {cs : List Value}, ps.any Piece.hasFs = false → repPs X ps cs → repPs Y ps cs
  | [], _, _, hr => hr
  | p :: ps, _, hs, ⟨c1, c2, e, h1, h2⟩ => by
    simp only [List.any_cons, Bool.or_eq_false_iff] at hs
    cases p with
    | c x =>
      obtain ⟨v, e1, h3, ho⟩ := h1
      exact ⟨c1, c2, e, ⟨v, e1, repC_noFs hE hβ hal hnb hs.1 h3, ho⟩, repPs_noFs hE hβ hal hnb hs.2 h2⟩
    | row n t l => exact ⟨c1, c2, e, ⟨h1.1, rowOf_mono (fun x ds => repT_plain t x ds hs.1) l c1 h1.2⟩, repPs_noFs hE hβ hal hnb hs.2 h2⟩
theorem repAV_noFs {X Y : Cx} (hE : Y.E = X.E) (hβ : Y.β = X.β) (hal : Y.al = X.al) (hnb : Y.nb = X.nb) {v : Value} {x : AV} (hs : x.hasFs = false) (hr : repAV X v x) : repAV Y v x := by
  cases x with
  | one c => exact ⟨repC_noFs hE hβ hal hnb hs hr.1, hr.2⟩
  | agg ps => obtain ⟨cs, e, h1⟩ := hr; exact ⟨cs, e, repPs_noFs hE hβ hal hnb hs h1⟩
  | clo f sh ps => obtain ⟨cs, e, h1⟩ := hr; exact ⟨cs, e, repPs_noFs hE hβ hal hnb hs h1⟩
theorem repAVs_noFs {X Y : Cx} (hE : Y.E = X.E) (hβ : Y.β = X.β) (hal : Y.al = X.al) (hnb : Y.nb = X.nb) : ∀ {xs : List AV} {vs : List Value}, xs.any AV.hasFs = false → repAVs X xs vs → repAVs Y xs vs
  | [], _, _, hr => hr
  | x :: xs, _, hs, ⟨v, us, e, h1, h2⟩ => by
    simp only [List.any_cons, Bool.or_eq_false_iff] at hs
    exact ⟨v, us, e, repAV_noFs hE hβ hal hnb hs.1 h1, repAVs_noFs hE hβ hal hnb hs.2 h2⟩
theorem repTm_noFs {X Y : Cx} (hE : Y.E = X.E) (hβ : Y.β = X.β) (hal : Y.al = X.al) (hnb : Y.nb = X.nb) {v : Value} {x : Tm} (hs : x.hasFs = false) (hr : repTm X v x) : repTm Y v x := by
  cases x with
  | any => trivial
  | v y => exact repAV_noFs hE hβ hal hnb hs hr
  | tup xs => obtain ⟨vs, e, h1⟩ := hr; exact ⟨vs, e, repAVs_noFs hE hβ hal hnb hs h1⟩
theorem repBox_noFs {X Y : Cx} (hE : Y.E = X.E) (hβ : Y.β = X.β) (hal : Y.al = X.al) (hnb : Y.nb = X.nb) (hw : Y.w = X.w) {i : Nat} {b : Box} (hs : b.hasFs = false) (hr : repBox X i b) : repBox Y i b := by
  cases b with
  | dead => trivial
  | ex ro ps ty =>
    obtain ⟨b, cs, fr, h1, h2, h3, h4⟩ := hr
    exact ⟨b, cs, fr, by rw [hβ]; exact h1, by rw [hw]; exact h2, h3, repPs_noFs hE hβ hal hnb hs h4⟩
  | gro ro t l ty =>
    rcases hr with ⟨h1, h2⟩ | ⟨b, cs, fr, c1, c2, h1, h2, h3, h4, h5, h6⟩
    · exact .inl ⟨by rw [hβ]; exact h1, h2⟩
    · exact .inr ⟨b, cs, fr, c1, c2, by rw [hβ]; exact h1, by rw [hw]; exact h2, h3, h4, rowOf_mono (fun x ds => repT_plain t x ds hs) l c1 h5, h6⟩
  | fix ro t l ty =>
    rcases hr with ⟨h1, h2⟩ | ⟨b, cs, fr, c1, c2, h1, h2, h3, h4, h5, h6⟩
    · exact .inl ⟨by rw [hβ]; exact h1, h2⟩
    · exact .inr ⟨b, cs, fr, c1, c2, by rw [hβ]; exact h1, by rw [hw]; exact h2, h3, h4, rowOf_mono (fun x ds => repT_plain t x ds hs) l c1 h5, h6⟩
theorem frz_rep {X : Cx} {i : Nat} {b : Box} (h : repBox X i b) : repBox X i b.frz := by cases b <;> exact h

section
variable {C : Cfg} {m : Nat} {Z : Nat → Prop} {β : Nat → Option (Nat × Nat)} {w : World} {bs : List Box} {a : Act} {env : List Tm}

theorem lCallG_core (hm : m ≤ bs.length) (h : RelB C.E C.G Z β w bs) (hr : RelE (mkX C.E Z β w bs) a.tmps env) {Pc : List AV → List Box → Prop} {ts : List Tm} {vs : List Value} (hvals : All2 (fun v x => repTm (mkX C.E Z β w bs) v x) vs ts) {full : Bool} {hs : List Ty} {σ : List Nat} {rt : Tm} {bs' : List Box} {r : Out}
    (hq : lCallG Pc env bs ts full hs σ rt bs' = some r) (hφ : r.φ) {N : Value → World → Prop} (hK : Going C m Z β w bs a r N) {GOAL : Prop}
    (hrun : ∀ (as : List AV) (bs0 : List Box) (Zc : Nat → Prop) (βc : Nat → Option (Nat × Nat)), Pc as bs0 → RelB C.E C.G Zc βc w bs0 → repAVs (mkX C.E Zc βc w bs0) as vs → (∀ v w', Post C Zc βc w bs0 rt bs' v w' → N v w') → GOAL) : GOAL := by
  unfold lCallG at hq
  split at hq
  · rename_i q hco
    split at hq
    · rename_i p hbi
      obtain ⟨hchk, hq⟩ := cond_some hq
      cases hq
      simp only [Bool.and_eq_true] at hchk
      obtain ⟨⟨⟨⟨⟨hdis, hFs⟩, hrw⟩, hlen⟩, hex⟩, href⟩ := hchk
      have hlen := Nat.le_of_ble_eq_true hlen
      obtain ⟨p1, p2⟩ := andL_append.1 hφ
      obtain ⟨p2, p3, _⟩ := andL_append.1 p2
      obtain ⟨hqal, hqrep⟩ := coAVsR_rep h hco
      obtain ⟨hpal, hpl, hpσ, hpb⟩ := boxesIn_rep h hbi
      generalize hF : q.ids ++ p.ids = F at hFs hK
      have hFk : ∀ id, id ∈ keepF rt bs' F → id ∈ F := fun id hid => by
        unfold keepF at hid
        cases hb : (rt.hasFs || bs'.any Box.hasFs) with
        | true => rw [hb] at hid; exact hid
        | false => rw [hb] at hid; exact absurd hid (by simp)
      have hFal : ∀ id, id ∈ F → bAl bs id = true := fun id hid => by
        rw [← hF] at hid
        rcases List.mem_append.1 hid with h1 | h1
        · exact hqal id h1
        · exact hpal id h1
      have hFσ : ∀ id, id ∈ F → id ∉ σ := fun id hid => by
        rw [List.all_eq_true] at hFs
        have := hFs id hid
        exact inv_none (by simpa using this)
      have hσrw : ∀ id, id ∈ σ → bRw bs id = true := fun id hid => by
        obtain ⟨i, hi⟩ := inv_some_of_mem hid
        exact hpσ i id (inv_spec hi)
      have hσlt : ∀ id, id ∈ σ → id < bs.length := fun id hid => bRw_lt (hσrw id hid)
      let Zc : Nat → Prop := fun b => Z b ∨ ∃ id n, id ∈ F ∧ bAl bs id = true ∧ β id = some (b, n)
      let βc : Nat → Option (Nat × Nat) := fun i => (σ[i]?).bind β
      have hβc : ∀ {i id}, σ[i]? = some id → βc i = β id := fun {i id} hi => by show (σ[i]?).bind β = _; rw [hi]; rfl
      have hβc' : ∀ {i b n}, βc i = some (b, n) → ∃ id, σ[i]? = some id ∧ β id = some (b, n) := fun {i b n} hi => by
        have hi : (σ[i]?).bind β = some (b, n) := hi
        cases hs : σ[i]? with
        | none => rw [hs] at hi; cases hi
        | some id => rw [hs] at hi; exact ⟨id, rfl, hi⟩
      have hZlt : ∀ b, Zc b → b < w.heap.size := fun b hb => by
        rcases hb with hb | ⟨id, n, _, hal, e⟩
        · exact h.zlt b hb
        · exact h.lt hal e
      have hH : HandR (mkX C.E Z β w bs) (mkX C.E Zc βc w p.v) F σ :=
        ⟨⟨⟨rfl, fun b hb => .inl hb, fun _ _ => rfl⟩, rfl, fun id hid b z hb => .inr ⟨id, z, hid, hFal id hid, hb⟩⟩, fun i id hi => by
          have hi2 := inv_spec hi
          refine ⟨bRw_al (hσrw id (List.mem_of_getElem? hi2)), ?_, hβc hi2⟩
          show i < p.v.length
          rw [hpl]
          exact (List.getElem?_eq_some_iff.1 hi2).1⟩
      have hprw : ∀ i, i < σ.length → bRw p.v i = true := fun i hi => by
        have hl : i < p.v.length := by omega
        obtain ⟨_, _, h2, _⟩ := hpb i _ (List.getElem?_eq_getElem hl)
        simp [bRw, List.getElem?_eq_getElem hl, h2]
      have hB : RelB C.E C.G Zc βc w p.v := by
        refine ⟨fun i bx hi => ?_, fun i j b n k hi hj e1 e2 => ?_, hZlt, fun b hb i n hi e => ?_, fun i b n h1 h2 e => ?_, fun g hg => ?_⟩
        · obtain ⟨id, h1, _, _, h4⟩ := hpb i bx hi
          exact h4 p2 hH (fun i hi => by rw [← hF]; exact List.mem_append_right _ hi) i (hβc h1)
        · obtain ⟨x, hx, hx2⟩ := hβc' e1
          obtain ⟨y, hy, hy2⟩ := hβc' e2
          have := h.inj x y b n k (bRw_al (hσrw x (List.mem_of_getElem? hx))) (bRw_al (hσrw y (List.mem_of_getElem? hy))) hx2 hy2
          subst this
          exact distinct_spec hdis i j x hx hy
        · obtain ⟨x, hx, hx2⟩ := hβc' e
          have hxm := List.mem_of_getElem? hx
          rcases hb with hb | ⟨id, n', hid, hal, e'⟩
          · exact h.zrw b hb x n (hσrw x hxm) hx2
          · have := h.inj id x b n' n hal (bRw_al (hσrw x hxm)) e' hx2
            subst this
            exact hFσ id hid hxm
        · have := bAl_lt h1
          rw [hprw i (by omega)] at h2
          cases h2
        · exact ⟨(h.glob g hg).1, .inl (h.glob g hg).2⟩
      have hvs : repAVs (mkX C.E Zc βc w p.v) q.v vs :=
        hqrep p1 hH (fun id hid => by rw [← hF]; exact List.mem_append_left _ hid) hvals
      obtain ⟨hml, hmσ, hmo, hmn⟩ := putBoxes_spec (σ := σ) (bs := bs) (l := bs'.map (Box.ren (renI σ bs.length))) hdis hσlt (by simpa using hlen)
      generalize hbM : putBoxes bs σ (bs'.map (Box.ren (renI σ bs.length))) = bsM at hml hmσ hmo hmn hK
      have after : ∀ v w', Post C Zc βc w p.v rt bs' v w' → N v w' := by
        rintro v w' ⟨Z0, β1, hB0, hv0, hE1⟩
        have hZ0 : ∀ b, Z b → Z0 b := fun b hb => hE1.zmono b (.inl hb)
        -- what is frozen from now on
        obtain ⟨Z1, hB1, hv1, hZ1, hZF, hZp⟩ : ∃ Z1 : Nat → Prop, RelB C.E C.G Z1 β1 w' bs' ∧ repTm (mkX C.E Z1 β1 w' bs') v rt ∧ (∀ b, Z b → Z1 b) ∧ (∀ id b n, id ∈ keepF rt bs' F → bAl bs id = true → β id = some (b, n) → Z1 b) ∧
            (∀ b, Z1 b → (Z b ∨ ∃ id n, id ∈ keepF rt bs' F ∧ bAl bs id = true ∧ β id = some (b, n)) ∨ w.heap.size ≤ b ∨ ∃ i n, bRw p.v i = true ∧ βc i = some (b, n)) := by
          cases hb : (rt.hasFs || bs'.any Box.hasFs) with
          | true =>
            have hk : keepF rt bs' F = F := by unfold keepF; rw [hb]; rfl
            rw [hk]
            exact ⟨Z0, hB0, hv0, hZ0, fun id b n h1 h2 h3 => hE1.zmono b (.inr ⟨id, n, h1, h2, h3⟩), fun b hb => hE1.zprov b hb⟩
          | false =>
            rw [Bool.or_eq_false_iff, List.any_eq_false] at hb
            have hk : keepF rt bs' F = [] := by unfold keepF; rw [hb.1, show bs'.any Box.hasFs = false from List.any_eq_false.2 hb.2]; rfl
            rw [hk]
            refine ⟨Z, ⟨fun i bx hi => ?_, hB0.inj, fun b hz => Nat.lt_of_lt_of_le (h.zlt b hz) hE1.size, fun b hz => hB0.zrw b (hZ0 b hz), fun i b n h1 h2 e => ?_, fun g hg => ⟨(hB0.glob g hg).1, (h.glob g hg).2⟩⟩, repTm_noFs (X := mkX C.E Z0 β1 w' bs') (Y := mkX C.E Z β1 w' bs') rfl rfl rfl rfl hb.1 hv0, fun b hz => hz, fun id b n h1 => absurd h1 (by simp), fun b hz => .inl (.inl hz)⟩
            · exact repBox_noFs (X := mkX C.E Z0 β1 w' bs') (Y := mkX C.E Z β1 w' bs') rfl rfl rfl rfl rfl (by simpa using hb.2 bx (List.mem_of_getElem? hi)) (hB0.box i bx hi)
            · obtain ⟨bx, hx, _⟩ := bAl_some h1
              rw [List.all_eq_true] at hrw
              have := hrw bx (List.mem_of_getElem? hx)
              simp [bRw, hx, this] at h2
        generalize hFF : keepF rt bs' F = F' at *
        have hfr := frzAll_spec F' bsM
        have hrw1 : ∀ i, i < bs'.length → bRw bs' i = true := fun i hi => by
          rw [List.all_eq_true] at hrw
          have := hrw _ (List.getElem_mem hi)
          simp [bRw, List.getElem?_eq_getElem hi, this]
        have hml : bsM.length = bs.length + (bs'.length - σ.length) := by simpa using hml
        let β' : Nat → Option (Nat × Nat) := fun j => match inv σ j with
          | some i => β1 i
          | none => bif Nat.ble (j + 1) bs.length then β j else β1 (σ.length + (j - bs.length))
        have b1 : ∀ {i id}, σ[i]? = some id → β' id = β1 i := fun {i id} hi => by
          show (match inv σ id with | some i => β1 i | none => _) = _
          rw [inv_of hdis hi]
        have b2 : ∀ {j}, j < bs.length → j ∉ σ → β' j = β j := fun {j} hj hn => by
          show (match inv σ j with | some i => β1 i | none => _) = _
          cases hi : inv σ j with
          | some i => exact absurd (List.mem_of_getElem? (inv_spec hi)) hn
          | none => simp only; rw [Nat.ble_eq_true_of_le (show j + 1 ≤ bs.length by omega)]; rfl
        have b3 : ∀ {j}, bs.length ≤ j → β' j = β1 (σ.length + (j - bs.length)) := fun {j} hj => by
          show (match inv σ j with | some i => β1 i | none => _) = _
          cases hi : inv σ j with
          | some i => exact absurd (hσlt j (List.mem_of_getElem? (inv_spec hi))) (by omega)
          | none =>
            simp only
            cases hb : Nat.ble (j + 1) bs.length with
            | true => exact absurd (Nat.le_of_ble_eq_true hb) (by omega)
            | false => rfl
        -- a box is one of three
        have three : ∀ j, j < bsM.length → (∃ i, σ[i]? = some j ∧ i < bs'.length) ∨ (j < bs.length ∧ j ∉ σ) ∨ (bs.length ≤ j ∧ σ.length + (j - bs.length) < bs'.length) := fun j hj => by
          by_cases hs : j ∈ σ
          · obtain ⟨i, hi⟩ := inv_some_of_mem hs
            have hi := inv_spec hi
            have := (List.getElem?_eq_some_iff.1 hi).1
            exact .inl ⟨i, hi, by omega⟩
          · by_cases hl : j < bs.length
            · exact .inr (.inl ⟨hl, hs⟩)
            · exact .inr (.inr ⟨by omega, by omega⟩)
        have gσ : ∀ {i j}, σ[i]? = some j → bsM[j]? = (bs'[i]?).map (Box.ren (renI σ bs.length)) := fun {i j} hi => by rw [hmσ i j hi, List.getElem?_map]
        have gn : ∀ {j}, bs.length ≤ j → bsM[j]? = (bs'[σ.length + (j - bs.length)]?).map (Box.ren (renI σ bs.length)) := fun {j} hj => by rw [hmn j hj, List.getElem?_map]
        have alM : ∀ {i j}, bsM[j]? = (bs'[i]?).map (Box.ren (renI σ bs.length)) → bAl bsM j = bAl bs' i ∧ bRw bsM j = bRw bs' i ∧ bEx bsM j = bEx bs' i := fun {i j} e => by
          unfold bAl bRw bEx
          rw [e]
          cases bs'[i]? with
          | none => exact ⟨rfl, rfl, rfl⟩
          | some b => simp [ren_alive, ren_rw, ren_isEx]
        have alO : ∀ {j}, j < bs.length → j ∉ σ → bAl bsM j = bAl bs j ∧ bRw bsM j = bRw bs j ∧ bEx bsM j = bEx bs j := fun {j} hj hn => by
          unfold bAl bRw bEx
          rw [hmo j hj hn]
          exact ⟨rfl, rfl, rfl⟩
        have nM : (frzAll bsM F').length = bsM.length := hfr.len
        -- the heap where the function did not write
        have hheap : ∀ b, Zc b → w'.heap[b]? = w.heap[b]? := fun b hb => hE1.frame b (hZlt b hb) (fun i n hi => hB.zrw b hb i n hi)
        have hle : (mkX C.E Z β w bs).le (mkX C.E Z1 β' w' (frzAll bsM F')) := ⟨rfl, fun b hb => hZ1 b hb, fun b hb => hheap b (.inl hb)⟩
        have hkeep : ∀ {i id}, σ[i]? = some id → bEx bs id = true → β1 i = β id := fun {i id} hi he => by
          have hik := (List.getElem?_eq_some_iff.1 hi).1
          have hib : i < bs'.length := by omega
          have hx := exOK_spec hex i id _ hi (List.getElem?_eq_getElem hib) he
          rw [hE1.keep i (by omega) (by simp [bEx, List.getElem?_eq_getElem hib, hx]), hβc hi]
        have hok : ∀ j, j ∉ killsOf bs σ → (mkX C.E Z β w bs).okAt (mkX C.E Z1 β' w' (frzAll bsM F')) j := fun j hj hl => by
          have hl : j < bs.length := hl
          refine ⟨by show j < (frzAll bsM F').length; rw [nM, hml]; omega, fun ha => ?_⟩
          have ha : bAl (frzAll bsM F') j = true := ha
          rw [hfr.al] at ha
          by_cases hs : j ∈ σ
          · obtain ⟨i, hi⟩ := inv_some_of_mem hs
            have hi := inv_spec hi
            have he : bEx bs j = true := by
              cases hb : bEx bs j with
              | true => rfl
              | false => exact absurd (List.mem_filter.2 ⟨hs, by simp [hb]⟩) hj
            exact ⟨bRw_al (hσrw j hs), (b1 hi).trans (hkeep hi he)⟩
          · exact ⟨by rw [(alO hl hs).1] at ha; exact ha, b2 hl hs⟩
        have hren : RenOK (mkX C.E Z1 β1 w' bs') (mkX C.E Z1 β' w' (frzAll bsM F')) (renI σ bs.length) (fun _ => True) := by
          refine ⟨⟨rfl, fun _ h => h, fun _ _ => rfl⟩, rfl, fun i _ hi => ?_⟩
          have hi : i < bs'.length := hi
          show renI σ bs.length i < (frzAll bsM F').length ∧ (bAl (frzAll bsM F') (renI σ bs.length i) = true → bAl bs' i = true) ∧ β' (renI σ bs.length i) = β1 i
          rw [nM, hfr.al]
          by_cases hk : i < σ.length
          · have hs : σ[i]? = some (σ.getD i 0) := by rw [List.getD_eq_getElem?_getD, List.getElem?_eq_getElem hk]; rfl
            have e : renI σ bs.length i = σ.getD i 0 := by unfold renI; rw [Nat.ble_eq_true_of_le (show i + 1 ≤ σ.length by omega)]; rfl
            rw [e]
            have := hσlt _ (List.mem_of_getElem? hs)
            exact ⟨by omega, fun ha => by rw [(alM (gσ hs)).1] at ha; exact ha, b1 hs⟩
          · have e : renI σ bs.length i = bs.length + (i - σ.length) := by
              unfold renI
              cases hb : Nat.ble (i + 1) σ.length with
              | true => exact absurd (Nat.le_of_ble_eq_true hb) (by omega)
              | false => rfl
            have e2 : σ.length + (bs.length + (i - σ.length) - bs.length) = i := by omega
            rw [e]
            have hg := gn (j := bs.length + (i - σ.length)) (by omega)
            have hb3 := b3 (j := bs.length + (i - σ.length)) (by omega)
            rw [e2] at hg hb3
            exact ⟨by omega, fun ha => by rw [(alM hg).1] at ha; exact ha, hb3⟩
        have hlt : ∀ {j b n}, bAl bs j = true → β j = some (b, n) → b < w.heap.size := fun {j b n} ha e => h.lt ha e
        -- what a block of a box that is other can be
        have hfar : ∀ {j b n i n'}, j < bs.length → j ∉ σ → bAl bs j = true → β j = some (b, n) → i < bs'.length → β1 i = some (b, n') → False := fun {j b n i n'} hj hn ha e hi e1 => by
          rcases hE1.prov i b n' (hrw1 i hi) e1 with h1 | ⟨i0, n0, h1, h2⟩
          · have := hlt ha e; omega
          · obtain ⟨x, hx, hx2⟩ := hβc' h2
            have hxm := List.mem_of_getElem? hx
            have := h.inj j x b n n0 ha (bRw_al (hσrw x hxm)) e hx2
            subst this
            exact hn hxm
        have hnew : RelB C.E C.G Z1 β' w' (frzAll bsM F') := by
          refine h.step hle (fun j bx hj => ?_) (fun i j b n k hi hj e1 e2 => ?_) hB1.zlt (fun b hb j n hj e => ?_) (fun j b n h1 h2 e => ?_)
          · left
            obtain ⟨b0, hb0, hbx⟩ := hfr.at_ j bx hj
            have key : repBox (mkX C.E Z1 β' w' (frzAll bsM F')) j b0 := by
              rcases three j (List.getElem?_eq_some_iff.1 hb0).1 with ⟨i, hi, hi2⟩ | ⟨hl, hn⟩ | ⟨hl, hi2⟩
              · rw [gσ hi, List.getElem?_eq_getElem hi2] at hb0
                cases hb0
                exact renBox hren (b1 hi) (fun _ _ => trivial) (hB1.box i _ (List.getElem?_eq_getElem hi2))
              · rw [hmo j hl hn] at hb0
                cases hal : b0.alive with
                | false => cases b0 <;> first | trivial | cases hal
                | true =>
                  refine repBox_le hle (b2 hl hn) (fun b n e => ?_) (fun k hk => hok k (refsOK_spec href j b0 hb0 (by
                    cases hi : inv σ (0 + j) with
                    | none => rfl
                    | some i => exact absurd (List.mem_of_getElem? (inv_spec hi)) (by simpa using hn)) k hk)) (h.box j b0 hb0)
                  have e : β j = some (b, n) := e
                  have hal' : bAl bs j = true := by simp [bAl, hb0, hal]
                  refine hE1.frame b (hlt hal' e) (fun i n' hi e' => ?_)
                  obtain ⟨x, hx, hx2⟩ := hβc' e'
                  have hxm := List.mem_of_getElem? hx
                  have := h.inj j x b n n' hal' (bRw_al (hσrw x hxm)) e hx2
                  subst this
                  exact hn hxm
              · rw [gn hl, List.getElem?_eq_getElem hi2] at hb0
                cases hb0
                exact renBox hren (b3 hl) (fun _ _ => trivial) (hB1.box _ _ (List.getElem?_eq_getElem hi2))
            rcases hbx with rfl | rfl
            · exact key
            · exact frz_rep key
          · rw [hfr.al] at hi hj
            have hil := bAl_lt hi
            have hjl := bAl_lt hj
            rcases three i hil with ⟨x, hx, hx2⟩ | ⟨il, hin⟩ | ⟨il, hx2⟩ <;> rcases three j hjl with ⟨y, hy, hy2⟩ | ⟨jl, hjn⟩ | ⟨jl, hy2⟩
            · rw [b1 hx] at e1; rw [b1 hy] at e2
              rw [(alM (gσ hx)).1] at hi; rw [(alM (gσ hy)).1] at hj
              have := hB1.inj x y b n k hi hj e1 e2
              subst this
              rw [hx] at hy
              exact Option.some.inj hy
            · rw [b1 hx] at e1; rw [b2 jl hjn] at e2
              rw [(alO jl hjn).1] at hj
              exact (hfar jl hjn hj e2 hx2 e1).elim
            · rw [b1 hx] at e1; rw [b3 jl] at e2
              rw [(alM (gσ hx)).1] at hi; rw [(alM (gn jl)).1] at hj
              have := hB1.inj _ _ b n k hi hj e1 e2
              have := (List.getElem?_eq_some_iff.1 hx).1
              omega
            · rw [b2 il hin] at e1; rw [b1 hy] at e2
              rw [(alO il hin).1] at hi
              exact (hfar il hin hi e1 hy2 e2).elim
            · rw [b2 il hin] at e1; rw [b2 jl hjn] at e2
              rw [(alO il hin).1] at hi; rw [(alO jl hjn).1] at hj
              exact h.inj i j b n k hi hj e1 e2
            · rw [b2 il hin] at e1; rw [b3 jl] at e2
              rw [(alO il hin).1] at hi
              exact (hfar il hin hi e1 hy2 e2).elim
            · rw [b3 il] at e1; rw [b1 hy] at e2
              rw [(alM (gn il)).1] at hi; rw [(alM (gσ hy)).1] at hj
              have := hB1.inj _ _ b n k hi hj e1 e2
              have := (List.getElem?_eq_some_iff.1 hy).1
              omega
            · rw [b3 il] at e1; rw [b2 jl hjn] at e2
              rw [(alO jl hjn).1] at hj
              exact (hfar jl hjn hj e2 hx2 e1).elim
            · rw [b3 il] at e1; rw [b3 jl] at e2
              rw [(alM (gn il)).1] at hi; rw [(alM (gn jl)).1] at hj
              have := hB1.inj _ _ b n k hi hj e1 e2
              omega
          · obtain ⟨h1, h2⟩ := hfr.rw j hj
            rcases three j (bRw_lt h1) with ⟨x, hx, hx2⟩ | ⟨jl, hjn⟩ | ⟨jl, hx2⟩
            · rw [b1 hx] at e
              exact hB1.zrw b hb x n (hrw1 x hx2) e
            · rw [b2 jl hjn] at e
              rw [(alO jl hjn).2.1] at h1
              rcases hZp b hb with (h3 | ⟨id, n', h3, h4, h5⟩) | h3 | ⟨i0, n0, h3, h4⟩
              · exact h.zrw b h3 j n h1 e
              · have := h.inj j id b n n' (bRw_al h1) h4 e h5
                subst this
                exact h2 h3
              · have := hlt (bRw_al h1) e; omega
              · obtain ⟨x, hx, hx2⟩ := hβc' h4
                have hxm := List.mem_of_getElem? hx
                have := h.inj j x b n n0 (bRw_al h1) (bRw_al (hσrw x hxm)) e hx2
                subst this
                exact hjn hxm
            · rw [b3 jl] at e
              exact hB1.zrw b hb _ n (hrw1 _ hx2) e
          · rw [hfr.al] at h1
            rcases three j (bAl_lt h1) with ⟨x, hx, hx2⟩ | ⟨jl, hjn⟩ | ⟨jl, hx2⟩
            · rcases hfr.ro j h2 with h3 | h3
              · rw [(alM (gσ hx)).2.1, hrw1 x hx2] at h3; cases h3
              · exact absurd (List.mem_of_getElem? hx) (hFσ j (hFk j h3))
            · rw [b2 jl hjn] at e
              rw [(alO jl hjn).1] at h1
              rcases hfr.ro j h2 with h3 | h3
              · rw [(alO jl hjn).2.1] at h3
                exact hZ1 b (h.zro j b n h1 h3 e)
              · exact hZF j b n h3 h1 e
            · rcases hfr.ro j h2 with h3 | h3
              · rw [(alM (gn jl)).2.1, hrw1 _ hx2] at h3; cases h3
              · have := bAl_lt (hFal j (hFk j h3)); omega
        have hExt : Ext m Z β bs w Z1 β' (frzAll bsM F') w' := by
          refine ⟨hE1.os, hE1.tape, hE1.output, hE1.size, fun b hb hn => hE1.frame b hb (fun i n hi e => ?_), fun b hb => hZ1 b hb, fun j b n hj e => ?_, fun b hb => ?_, fun j hj he => ?_, fun j hj he => ?_⟩
          · obtain ⟨x, hx, hx2⟩ := hβc' e
            exact hn x n (hσrw x (List.mem_of_getElem? hx)) hx2
          · have h1 := (hfr.rw j hj).1
            have conv : ∀ {i}, i < bs'.length → β1 i = some (b, n) → w.heap.size ≤ b ∨ ∃ j k, bRw bs j = true ∧ β j = some (b, k) := fun {i} hi e1 => by
              rcases hE1.prov i b n (hrw1 i hi) e1 with h2 | ⟨i0, n0, h2, h3⟩
              · exact .inl h2
              · obtain ⟨x, hx, hx2⟩ := hβc' h3
                exact .inr ⟨x, n0, hσrw x (List.mem_of_getElem? hx), hx2⟩
            rcases three j (bRw_lt h1) with ⟨x, hx, hx2⟩ | ⟨jl, hjn⟩ | ⟨jl, hx2⟩
            · rw [b1 hx] at e; exact conv hx2 e
            · rw [b2 jl hjn] at e
              rw [(alO jl hjn).2.1] at h1
              exact .inr ⟨j, n, h1, e⟩
            · rw [b3 jl] at e; exact conv hx2 e
          · rcases hZp b hb with (h3 | ⟨id, n', h3, h4, h5⟩) | h3 | ⟨i0, n0, h3, h4⟩
            · exact .inl h3
            · by_cases hrwi : bRw bs id = true
              · exact .inr (.inr ⟨id, n', hrwi, h5⟩)
              · exact .inl (h.zro id b n' h4 (by simpa using hrwi) h5)
            · exact .inr (.inl h3)
            · obtain ⟨x, hx, hx2⟩ := hβc' h4
              exact .inr (.inr ⟨x, n0, hσrw x (List.mem_of_getElem? hx), hx2⟩)
          · rw [hfr.ex] at he
            rcases three j (by omega) with ⟨x, hx, hx2⟩ | ⟨jl, hjn⟩ | ⟨jl, hx2⟩
            · rw [(alM (gσ hx)).2.2] at he
              have hxk := (List.getElem?_eq_some_iff.1 hx).1
              have := hE1.kind x (by omega) he
              have hpx : x < p.v.length := by omega
              obtain ⟨id, h1, _, h3, _⟩ := hpb x _ (List.getElem?_eq_getElem hpx)
              rw [hx] at h1
              cases h1
              rw [← h3]
              simpa [bEx, List.getElem?_eq_getElem hpx] using this
            · rw [(alO jl hjn).2.2] at he; exact he
            · omega
          · rw [hfr.ex] at he
            rcases three j (by omega) with ⟨x, hx, hx2⟩ | ⟨jl, hjn⟩ | ⟨jl, hx2⟩
            · rw [(alM (gσ hx)).2.2] at he
              have hxk := (List.getElem?_eq_some_iff.1 hx).1
              rw [b1 hx, hE1.keep x (by omega) he, hβc hx]
            · exact b2 jl hjn
            · omega
        exact hK v Z1 β' w' (renTm hren (fun _ _ => trivial) hv1) (RelE.killL hr hle _ hok) hnew hExt
      exact hrun q.v p.v Zc βc p3 hB hvs after
    · cases hq
  · cases hq

theorem lCallR_wp (hC : COk C) (hm : m ≤ bs.length) (h : RelB C.E C.G Z β w bs) (hr : RelE (mkX C.E Z β w bs) a.tmps env) {o : Oper} {c : Call} (ho : o.op = .call c) {f : FuncId} {ts : List Tm} (hcal : callF C env c = some (f, ts)) {full : Bool} {hs : List Ty} {σ : List Nat} {rt : Tm} {bs' : List Box} {r : Out}
    (hq : lCallR C env bs f ts full hs σ rt bs' = some r) (hφ : r.φ)
    {K : Act → World → Prop} {Q : Exit → Act → World → Prop} (hK : Going C m Z β w bs a r fun v w' => K (a.put o.dst v) w') : o.wp C.P a w K Q := by
  obtain ⟨vs, hvals, hexe⟩ := callF_run hC (X := mkX C.E Z β w bs) rfl (fun x => evalO_rep hr x) hcal
  refine lCallG_core hm h hr hvals hq hφ hK fun as bs0 Zc βc hp hB hvs after => ?_
  have hexec := hexe o w ho
  unfold Oper.wp
  rw [hexec]
  rcases hp Zc βc w vs hB hvs with ⟨v, w', h1, h2⟩ | ⟨h1, h2⟩
  · rw [h1]; exact after v w' h2
  · rw [h1]
    refine Calls.mono h2 ?_
    rintro e w' ⟨v, rfl, h3⟩
    exact after v w' h3

theorem lCallX_wp (hC : COk C) (hm : m ≤ bs.length) (h : RelB C.E C.G Z β w bs) (hr : RelE (mkX C.E Z β w bs) a.tmps env) {o : Oper} {c : Call} (ho : o.op = .call c) {f : FuncId} {ts : List Tm} (hcal : callF C env c = some (f, ts)) {full : Bool} {hs : List Ty} {σ : List Nat} {p : Value} {bs' : List Box} {r : Out}
    (hq : lCallX C env bs f ts full hs σ p bs' = some r) (hφ : r.φ)
    {K : Act → World → Prop} {Q : Exit → Act → World → Prop} (hK : Going C m Z β w bs a r fun _ w' => Q (.panic [⟨p, false, false⟩]) a w') : o.wp C.P a w K Q := by
  obtain ⟨vs, hvals, hexe⟩ := callF_run hC (X := mkX C.E Z β w bs) rfl (fun x => evalO_rep hr x) hcal
  refine lCallG_core hm h hr hvals hq hφ hK fun as bs0 Zc βc hp hB hvs after => ?_
  have hexec := hexe o w ho
  unfold Oper.wp
  rw [hexec]
  obtain ⟨h1, h2⟩ := hp Zc βc w vs hB hvs
  rw [h1]
  refine Calls.mono h2 ?_
  rintro e w' ⟨v, rfl, h3⟩
  obtain rfl : v = p := by
    obtain ⟨Z', β', _, h4, _⟩ := h3
    exact h4.1.1
  exact after v w' h3
end

end Go.Proofs.YtllannmegnklmaaE
