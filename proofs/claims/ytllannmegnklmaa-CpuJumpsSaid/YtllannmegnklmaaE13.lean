/- Code over the small world. -/
import Derived.Test.YtllannmegnklmaaE12
import Derived.LoopN
set_option linter.unusedVariables false
set_option linter.unusedSimpArgs false
set_option linter.unnecessarySimpa false
namespace Go.Proofs.YtllannmegnklmaaE
open Go

/-! ### Looking at a state otherwise -/
def keepE (l : List Nat) : Nat → List Tm → List Tm
  | _, [] => []
  | i, t :: ts => (bif l.any (Nat.beq i) then t else .any) :: keepE l (i + 1) ts

def allLt (n : Nat) (l : List Nat) : Bool := l.all fun i => Nat.ble (i + 1) n

/-- Boxes picked, and numbered anew. -/
def selI (l : List Nat) (i : Nat) : Nat := (inv l i).getD 0
def prefOK : Nat → Nat → List Nat → Bool
  | _, 0, _ => true
  | i, m + 1, a :: r => Nat.beq a i && prefOK (i + 1) m r
  | _, _ + 1, [] => false
def inL (l ids : List Nat) : Bool := ids.all fun i => (inv l i).isSome
def selB (bs : List Box) (l : List Nat) : List Box := l.map fun i => ((bs[i]?).getD .dead).ren (selI l)

theorem prefOK_spec : ∀ {m i : Nat} {l : List Nat}, prefOK i m l = true → ∀ j, j < m → l[j]? = some (i + j)
  | 0, _, _, _, j, hj => by omega
  | m + 1, i, [], h, _, _ => by cases h
  | m + 1, i, a :: r, h, j, hj => by
    simp only [prefOK, Bool.and_eq_true] at h
    cases j with
    | zero => simp [beq_eq h.1]
    | succ j =>
      have := prefOK_spec h.2 j (by omega)
      simp only [List.getElem?_cons_succ]
      rw [this]
      congr 1; omega
theorem inL_spec {l ids : List Nat} (h : inL l ids = true) : ∀ i, i ∈ ids → ∃ k, inv l i = some k := fun i hi => by
  unfold inL at h
  rw [List.all_eq_true] at h
  exact Option.isSome_iff_exists.1 (h i hi)

/-! Capacities forgotten. -/
def Cell.nocap : Cell → Cell
  | .os id b lo e l _ => .os id b lo e l none
  | x => x
def Piece.nocap : Piece → Piece
  | .c x => .c x.nocap
  | p => p
def AV.nocap : AV → AV
  | .one x => .one x.nocap
  | .agg ps => .agg (ps.map Piece.nocap)
  | .clo f sh ps => .clo f sh (ps.map Piece.nocap)
def Tm.nocap : Tm → Tm
  | .any => .any
  | .v x => .v x.nocap
  | .tup xs => .tup (xs.map AV.nocap)
def Box.nocap : Box → Box
  | .ex ro ps ty => .ex ro (ps.map Piece.nocap) ty
  | b => b
theorem repC_nocap {X : Cx} {v : Value} : ∀ {c : Cell}, repC X v c → repC X v c.nocap
  | .os _ _ _ _ _ _, ⟨h1, h2⟩ => ⟨h1, fun ha => by
      obtain ⟨a, c, e, hl, _, hc⟩ := h2 ha
      exact ⟨a, c, e, hl, fun k hk => (by cases hk), hc⟩⟩
  | .sc _, h => h
  | .err _, h => h
  | .fs _ _ _, h => h
  | .ptr _ _, h => h
  | .ip _ _, h => h
  | .fp _ _ _, h => h
  | .oerr _, h => h
theorem repP_nocap {X : Cx} {cs : List Value} : ∀ {p : Piece}, repP X cs p → repP X cs p.nocap
  | .c _, ⟨v, e, h, ho⟩ => ⟨v, e, repC_nocap h, ho⟩
  | .row _ _ _, h => h
theorem repPs_nocap {X : Cx} : ∀ {ps : List Piece} {cs : List Value}, repPs X ps cs → repPs X (ps.map Piece.nocap) cs
  | [], _, h => h
  | _ :: _, _, ⟨c1, c2, e, h1, h2⟩ => ⟨c1, c2, e, repP_nocap h1, repPs_nocap h2⟩
theorem repAV_nocap {X : Cx} {v : Value} : ∀ {x : AV}, repAV X v x → repAV X v x.nocap
  | .one _, ⟨h, ho⟩ => ⟨repC_nocap h, ho⟩
  | .agg _, ⟨cs, e, h⟩ => ⟨cs, e, repPs_nocap h⟩
  | .clo _ _ _, ⟨cs, e, h⟩ => ⟨cs, e, repPs_nocap h⟩
theorem repAVs_nocap {X : Cx} : ∀ {xs : List AV} {vs : List Value}, repAVs X xs vs → repAVs X (xs.map AV.nocap) vs
  | [], _, h => h
  | _ :: _, _, ⟨v, us, e, h1, h2⟩ => ⟨v, us, e, repAV_nocap h1, repAVs_nocap h2⟩
theorem repTm_nocap {X : Cx} {v : Value} : ∀ {x : Tm}, repTm X v x → repTm X v x.nocap
  | .any, _ => trivial
  | .v _, h => repAV_nocap (x := _) h
  | .tup _, ⟨vs, e, h⟩ => ⟨vs, e, repAVs_nocap h⟩
theorem repBox_nocap {X : Cx} {i : Nat} : ∀ {b : Box}, repBox X i b → repBox X i b.nocap
  | .dead, h => h
  | .gro _ _ _ _, h => h
  | .fix _ _ _ _, h => h
  | .ex _ _ _, ⟨b, cs, fr, h1, h2, h3, h4⟩ => ⟨b, cs, fr, h1, h2, h3, repPs_nocap h4⟩

def nilC : Cell → Bool
  | .sc (.slice none 0 0) => true
  | _ => false

def adj1 (s : St) : Adj → Option (Prop × St)
  | .nocap => some (True, ⟨s.env.map Tm.nocap, s.boxes.map Box.nocap, s.m⟩)
  | .coB i full hs => match s.boxes[i]? with
    | some (.ex false ps ty) => (match coPs s.boxes full hs ps with
      | some r => (match (frzAll s.boxes r.ids)[i]? with
        | some (.ex false _ _) => some (andL r.φ, { s with boxes := (frzAll s.boxes r.ids).set i (.ex false r.v ty) })
        | _ => none)
      | none => none)
    | _ => none
  | .sel l => bif distinct l && (prefOK 0 s.m l && (Nat.ble s.m l.length && (s.env.all (fun t => inL l t.ids) && l.all (fun i => (s.boxes[i]?).any (fun b => inL l b.ids))))) then
      some (True, ⟨s.env.map (Tm.ren (selI l)), selB s.boxes l, s.m⟩) else none
  | .keep l => some (True, { s with env := keepE l 0 s.env })
  | .drop n => bif Nat.ble s.m n && s.env.all (fun t => allLt n t.ids) && (s.boxes.take n).all (fun b => allLt n b.ids) then some (True, { s with boxes := s.boxes.take n }) else none
  | .dead i => bif Nat.ble s.m i then some (True, { s with boxes := s.boxes.set i .dead }) else none
  | .co t full hs => match s.env.getD t .any with
    | .v x => match coAV s.boxes full hs x with
      | some r => some (andL r.φ, { s with env := s.env.set t (.v r.v), boxes := frzAll s.boxes r.ids })
      | none => none
    | _ => none
  | .nilGro t u e => match s.env.getD t .any with
    | .v (.one (.sc (.slice none 0 0))) => some (True, { s with env := s.env.set t (.v (.one (.os s.boxes.length 0 0 u.size 0 none))), boxes := s.boxes ++ [.gro false u [] e] })
    | _ => none
  | .newG u e => some (True, { s with boxes := s.boxes ++ [.gro false u [] e] })
  | .nilB i j k z => match s.boxes[i]? with
    | some (.ex ro ps ty) => (match ps[j]? with
      | some (.c x) => bif Nat.ble (k + 1) s.boxes.length && (nilC x || !(bAl s.boxes k)) then some (True, { s with boxes := s.boxes.set i (.ex ro (ps.set j (.c (.os k 0 0 z 0 none))) ty) }) else none
      | _ => none)
    | _ => none
  | .cut i k => match s.boxes[i]? with
    | some (.gro ro t l ty) => some (True, { s with boxes := s.boxes.set i (.gro ro t (l.take k) ty) })
    | _ => none
  | .len i j n => match s.boxes[i]? with
    | some (.ex ro ps ty) => (match ps[j]? with
      | some (.c (.os id b lo e l c)) => some (l = n, { s with boxes := s.boxes.set i (.ex ro (ps.set j (.c (.os id b lo e n c))) ty) })
      | _ => none)
    | _ => none
  | .fixB q i => match q, s.boxes[i]? with
    | true, some (.gro false t l ty) => bif Nat.ble s.m i then some (True, { s with boxes := s.boxes.set i (.fix false t l ty) }) else none
    | false, some (.fix false t l ty) => some (True, { s with boxes := s.boxes.set i (.gro false t l ty) })
    | _, _ => none

theorem repPs_nilB {X : Cx} {k z : Nat} (hk : k < X.nb) {x : Cell} (hx : nilC x = true ∨ X.al k = false) : ∀ {ps : List Piece} {cs : List Value} {j : Nat}, ps[j]? = some (.c x) → repPs X ps cs → repPs X (ps.set j (.c (.os k 0 0 z 0 none))) cs
  | [], _, _, h, _ => by simp at h
  | p :: ps, cs, 0, h, ⟨c1, c2, e, h1, h2⟩ => by
    have hp : p = .c x := by simpa using h
    subst hp
    obtain ⟨v, e1, hv, ho⟩ := h1
    refine ⟨c1, c2, e, ⟨v, e1, ⟨hk, fun ha => ?_⟩, ho⟩, h2⟩
    rcases hx with hx | hx
    · unfold nilC at hx
      split at hx
      · exact ⟨none, 0, hv.1, Nat.le_refl _, fun q hq => (by cases hq), fun hc => absurd rfl hc⟩
      · cases hx
    · rw [hx] at ha; cases ha
  | p :: ps, cs, j + 1, h, ⟨c1, c2, e, h1, h2⟩ => ⟨c1, c2, e, h1, repPs_nilB hk hx (j := j) (by simpa using h) h2⟩

/-- A state that says less. -/
def Less (C : Cfg) (s s' : St) : Prop := s'.m = s.m ∧ ∀ Z β w a, RelM C Z β w a s → ∃ Z' β', RelM C Z' β' w a s' ∧ Ext s.m Z β s.boxes w Z' β' s'.boxes w

theorem Less.refl (C : Cfg) (s : St) : Less C s s := ⟨rfl, fun Z β w a h => ⟨Z, β, h, Ext.refl ..⟩⟩
theorem Less.trans {C : Cfg} {s s1 s2 : St} (h : Less C s s1) (k : Less C s1 s2) : Less C s s2 := by
  obtain ⟨e1, h⟩ := h
  obtain ⟨e2, k⟩ := k
  refine ⟨e2.trans e1, fun Z β w a hr => ?_⟩
  obtain ⟨Z1, β1, r1, x1⟩ := h Z β w a hr
  obtain ⟨Z2, β2, r2, x2⟩ := k Z1 β1 w a r1
  rw [e1] at x2
  exact ⟨Z2, β2, r2, x1.trans x2⟩

theorem keepE_get (l : List Nat) : ∀ (ts : List Tm) (k i : Nat) (t : Tm), (keepE l k ts)[i]? = some t → ∃ t0, ts[i]? = some t0 ∧ (t = t0 ∨ t = .any)
  | [], k, i, t, h => by simp [keepE] at h
  | t0 :: ts, k, 0, t, h => by
    simp only [keepE, List.getElem?_cons_zero, Option.some.injEq] at h
    refine ⟨t0, rfl, ?_⟩
    cases hb : l.any (Nat.beq k) with
    | true => rw [hb] at h; exact .inl h.symm
    | false => rw [hb] at h; exact .inr h.symm
  | t0 :: ts, k, i + 1, t, h => by
    simp only [keepE, List.getElem?_cons_succ] at h ⊢
    exact keepE_get l ts (k + 1) i t h
theorem keepE_length (l : List Nat) : ∀ (ts : List Tm) (k : Nat), (keepE l k ts).length = ts.length
  | [], _ => rfl
  | _ :: ts, k => by simp [keepE, keepE_length l ts]

theorem allLt_spec {n : Nat} {l : List Nat} (h : allLt n l = true) : ∀ i, i ∈ l → i < n := fun i hi => by
  unfold allLt at h
  rw [List.all_eq_true] at h
  exact Nat.le_of_ble_eq_true (h i hi)

theorem swapB_less {C : Cfg} {s : St} {i : Nat} {b0 b1 : Box} (hi : s.boxes[i]? = some b0) (hal : b1.alive = b0.alive) (hrw : b1.rw = b0.rw) (hex : b1.isEx = true → b0.isEx = true ∨ s.m ≤ i) (hb : ∀ X : Cx, repBox X i b0 → repBox X i b1) :
    Less C s { s with boxes := s.boxes.set i b1 } := by
  have hil := (List.getElem?_eq_some_iff.1 hi).1
  have get : ∀ j, j ≠ i → (s.boxes.set i b1)[j]? = s.boxes[j]? := fun j hj => by rw [List.getElem?_set, if_neg (fun e => hj e.symm)]
  have geti : (s.boxes.set i b1)[i]? = some b1 := by rw [List.getElem?_set, if_pos rfl, if_pos hil]
  have hAl : bAl (s.boxes.set i b1) = bAl s.boxes := funext fun j => by
    by_cases e : j = i
    · subst e; unfold bAl; rw [geti, hi]; exact hal
    · unfold bAl; rw [get j e]
  have hRw : ∀ j, bRw (s.boxes.set i b1) j = bRw s.boxes j := fun j => by
    by_cases e : j = i
    · subst e; unfold bRw; rw [geti, hi]; exact hrw
    · unfold bRw; rw [get j e]
  have hX : ∀ Z β w, mkX C.E Z β w (s.boxes.set i b1) = mkX C.E Z β w s.boxes := fun Z β w => by
    unfold mkX; rw [hAl, List.length_set]
  refine ⟨rfl, fun Z β w a h => ⟨Z, β, ⟨⟨h.1.defers, by dsimp only; rw [hX]; exact h.1.env, ⟨fun j bx hj => ?_, fun a b c n m ha hb => h.1.bx.inj a b c n m (by rw [← hAl]; exact ha) (by rw [← hAl]; exact hb), h.1.bx.zlt, fun b hb j n hj => h.1.bx.zrw b hb j n (by rw [← hRw]; exact hj), fun j b n h1 h2 => h.1.bx.zro j b n (by rw [← hAl]; exact h1) (by rw [← hRw]; exact h2), h.1.bx.glob⟩⟩, by show s.m ≤ (s.boxes.set i _).length; rw [List.length_set]; exact h.2⟩,
    rfl, rfl, rfl, Nat.le_refl _, fun _ _ _ => rfl, fun _ h => h, fun j b n hj e => .inr ⟨j, n, by rw [← hRw]; exact hj, e⟩, fun _ h => .inl h, fun j hm hj => ?_, fun _ _ _ => rfl⟩⟩
  · rw [hX]
    by_cases e : j = i
    · subst e
      rw [geti] at hj
      cases hj
      exact hb _ (h.1.bx.box j _ hi)
    · rw [get j e] at hj
      exact h.1.bx.box j bx hj
  · by_cases e : j = i
    · subst e
      unfold bEx at hj ⊢
      rw [geti] at hj
      rw [hi]
      rcases hex hj with h1 | h1
      · exact h1
      · exact absurd hm (by omega)
    · unfold bEx at hj ⊢
      rw [get j e] at hj
      exact hj

theorem adj1_less {C : Cfg} {s s' : St} {x : Adj} {φ : Prop} (hq : adj1 s x = some (φ, s')) (hφ : φ) : Less C s s' := by
  cases x with
  | keep l =>
    cases hq
    refine ⟨rfl, fun Z β w a h => ⟨Z, β, ⟨⟨h.1.defers, ⟨by rw [keepE_length]; exact h.1.env.1, fun i v tm h1 h2 => ?_⟩, h.1.bx⟩, h.2⟩, Ext.refl ..⟩⟩
    obtain ⟨t0, h3, h4⟩ := keepE_get l s.env 0 i tm h2
    rcases h4 with rfl | rfl
    · exact h.1.env.2 i v _ h1 h3
    · trivial
  | drop n =>
    simp only [adj1] at hq
    obtain ⟨hb, hq⟩ := cond_some hq
    cases hq
    simp only [Bool.and_eq_true] at hb
    obtain ⟨⟨hm, he⟩, hbx⟩ := hb
    have hm := Nat.le_of_ble_eq_true hm
    rw [List.all_eq_true] at he hbx
    refine ⟨rfl, fun Z β w a h => ⟨Z, β, ?_, ?_⟩⟩
    · have get : ∀ j, j < n → (s.boxes.take n)[j]? = s.boxes[j]? := fun j hj => List.getElem?_take_of_lt hj
      have getn : ∀ j bx, (s.boxes.take n)[j]? = some bx → j < n ∧ s.boxes[j]? = some bx := fun j bx hj => by
        have hl := (List.getElem?_eq_some_iff.1 hj).1
        rw [List.length_take] at hl
        have : j < n := by omega
        exact ⟨this, by rw [← get j this]; exact hj⟩
      have hAl : ∀ j, bAl (s.boxes.take n) j = true → bAl s.boxes j = true := fun j hj => by
        obtain ⟨bx, hb, hal⟩ := bAl_some hj
        simp [bAl, (getn j bx hb).2, hal]
      have hRw : ∀ j, bRw (s.boxes.take n) j = true → bRw s.boxes j = true := fun j hj => by
        obtain ⟨bx, hb, hal⟩ := bRw_some hj
        simp [bRw, (getn j bx hb).2, hal]
      have hle : (mkX C.E Z β w s.boxes).le (mkX C.E Z β w (s.boxes.take n)) := ⟨rfl, fun _ h => h, fun _ _ => rfl⟩
      have hok : ∀ j, j < n → (mkX C.E Z β w s.boxes).okAt (mkX C.E Z β w (s.boxes.take n)) j := fun j hj hl => ⟨by show j < (s.boxes.take n).length; rw [List.length_take]; have hl : j < s.boxes.length := hl; omega, fun ha => ⟨hAl j ha, rfl⟩⟩
      refine ⟨⟨h.1.defers, h.1.env.step hle fun tm htm j hj => hok j (allLt_spec (he tm htm) j hj), h.1.bx.step hle (fun i bx hi => ?_) (fun i j b k m hi hj => h.1.bx.inj i j b k m (hAl i hi) (hAl j hj)) h.1.bx.zlt (fun b hb i k hi => h.1.bx.zrw b hb i k (hRw i hi)) (fun i b k h1 h2 => ?_)⟩, ?_⟩
      · obtain ⟨hin, hi2⟩ := getn i bx hi
        exact .inr ⟨hi2, rfl, fun _ _ _ _ => rfl, fun j hj => hok j (allLt_spec (hbx bx (List.mem_of_getElem? hi)) j hj)⟩
      · obtain ⟨bx, hb, hal⟩ := bAl_some h1
        have := (getn i bx hb).2
        refine h.1.bx.zro i b k (hAl i h1) ?_
        unfold bRw at h2 ⊢
        rw [hb] at h2
        rw [this]; exact h2
      · show s.m ≤ (s.boxes.take n).length
        rw [List.length_take]; have := h.2; omega
    · refine ⟨rfl, rfl, rfl, Nat.le_refl _, fun _ _ _ => rfl, fun _ h => h, fun i b k hi e => .inr ⟨i, k, ?_, e⟩, fun _ h => .inl h, fun i hi he => ?_, fun _ _ _ => rfl⟩
      · obtain ⟨bx, hb, hal⟩ := bRw_some hi
        have hl := (List.getElem?_eq_some_iff.1 hb).1
        rw [List.length_take] at hl
        rw [List.getElem?_take_of_lt (by omega)] at hb
        simp [bRw, hb, hal]
      · unfold bEx at he ⊢
        rwa [List.getElem?_take_of_lt (by omega)] at he
  | dead i =>
    simp only [adj1] at hq
    obtain ⟨hb, hq⟩ := cond_some hq
    cases hq
    have hm := Nat.le_of_ble_eq_true hb
    have get : ∀ j, j ≠ i → (s.boxes.set i .dead)[j]? = s.boxes[j]? := fun j hj => by rw [List.getElem?_set, if_neg (fun e => hj e.symm)]
    have geti : ∀ bx, (s.boxes.set i .dead)[i]? = some bx → bx = .dead := fun bx h => by
      rw [List.getElem?_set, if_pos rfl] at h
      split at h
      · cases h; rfl
      · cases h
    have hAl : ∀ j, bAl (s.boxes.set i .dead) j = true → j ≠ i ∧ bAl s.boxes j = true := fun j hj => by
      obtain ⟨bx, hb, hal⟩ := bAl_some hj
      by_cases e : j = i
      · subst e; rw [geti bx hb] at hal; cases hal
      · rw [get j e] at hb; exact ⟨e, by simp [bAl, hb, hal]⟩
    have hRw : ∀ j, bRw (s.boxes.set i .dead) j = true → bRw s.boxes j = true := fun j hj => by
      obtain ⟨bx, hb, hal⟩ := bRw_some hj
      by_cases e : j = i
      · subst e; rw [geti bx hb] at hal; cases hal
      · rw [get j e] at hb; simp [bRw, hb, hal]
    refine ⟨rfl, fun Z β w a h => ⟨Z, β, ?_, ?_⟩⟩
    · have hle : (mkX C.E Z β w s.boxes).le (mkX C.E Z β w (s.boxes.set i .dead)) := ⟨rfl, fun _ h => h, fun _ _ => rfl⟩
      have hok : ∀ j, (mkX C.E Z β w s.boxes).okAt (mkX C.E Z β w (s.boxes.set i .dead)) j := fun j hl => ⟨by simpa [mkX] using hl, fun ha => ⟨(hAl j ha).2, rfl⟩⟩
      refine ⟨⟨h.1.defers, h.1.env.step hle fun tm _ j _ => hok j, h.1.bx.step hle (fun j bx hj => ?_) (fun j k b n m' hj hk => h.1.bx.inj j k b n m' (hAl j hj).2 (hAl k hk).2) h.1.bx.zlt (fun b hb j k hj => h.1.bx.zrw b hb j k (hRw j hj)) (fun j b k h1 h2 => ?_)⟩, by simpa using h.2⟩
      · by_cases e : j = i
        · subst e; rw [geti bx hj]; exact .inl trivial
        · rw [get j e] at hj
          exact .inr ⟨hj, rfl, fun _ _ _ _ => rfl, fun j _ => hok j⟩
      · obtain ⟨hne, hal⟩ := hAl j h1
        refine h.1.bx.zro j b k hal ?_
        unfold bRw at h2 ⊢
        rwa [get j hne] at h2
    · refine ⟨rfl, rfl, rfl, Nat.le_refl _, fun _ _ _ => rfl, fun _ h => h, fun j b k hj e => .inr ⟨j, k, hRw j hj, e⟩, fun _ h => .inl h, fun j hj he => ?_, fun _ _ _ => rfl⟩
      unfold bEx at he ⊢
      rwa [get j (by omega)] at he
  | co t full hs =>
    simp only [adj1] at hq
    split at hq
    · rename_i x he
      split at hq
      · rename_i r hco
        cases hq
        refine ⟨rfl, fun Z β w a h => ?_⟩
        obtain ⟨hal, hids, hrep⟩ := coAV_rep h.1.bx hco
        have hr := evalO_rep h.1.env (.tmp t)
        have he' : evalO (mkX C.E Z β w s.boxes).E s.env (.tmp t) = .v x := he
        rw [he'] at hr
        have hF := frzAll_spec r.ids s.boxes
        let Z' : Nat → Prop := fun b => Z b ∨ ∃ id n, id ∈ r.ids ∧ β id = some (b, n)
        have hZlt : ∀ b, Z' b → b < w.heap.size := fun b hb => by
          rcases hb with hb | ⟨id, n, hi, e⟩
          · exact h.1.bx.zlt b hb
          · exact h.1.bx.lt (hal id hi) e
        obtain ⟨g1, g2, g3⟩ := hF.rel h.1.bx (Z' := Z') (w' := w) (Nat.le_refl _) (fun _ _ => rfl) (fun b hb => .inl hb) (fun i b n hi _ e => .inr ⟨i, n, hi, e⟩) (fun b hb => by
          rcases hb with hb | ⟨id, n, hi, e⟩
          · exact .inl hb
          · exact .inr (.inr ⟨id, n, hi, hal id hi, e⟩))
        refine ⟨Z', β, ⟨⟨h.1.defers, ?_, g1⟩, by show s.m ≤ (frzAll s.boxes r.ids).length; rw [hF.len]; exact h.2⟩, ?_⟩
        · have hE := h.1.env.step g2 fun tm _ j _ => g3 j
          refine ⟨by rw [List.length_set]; exact hE.1, fun i v tm h1 h2 => ?_⟩
          rw [List.getElem?_set] at h2
          by_cases e : t = i
          · subst e
            rw [if_pos rfl] at h2
            split at h2
            · cases h2
              have hva : a.eval (.tmp t) = v := by simp [Act.eval, Array.getD_eq_getD_getElem?, h1]
              rw [hva] at hr
              exact hrep (Y := mkX C.E Z' β w (frzAll s.boxes r.ids)) (F := r.ids) hφ ⟨g2, rfl, fun id hid b z hb => .inr ⟨id, z, hid, hb⟩⟩ (fun _ h => h) hr
            · cases h2
          · rw [if_neg e] at h2
            exact hE.2 i v tm h1 h2
        · refine ⟨rfl, rfl, rfl, Nat.le_refl _, fun _ _ _ => rfl, fun b hb => .inl hb, fun i b n hi e => .inr ⟨i, n, (hF.rw i hi).1, e⟩, fun b hb => ?_, fun i _ hi => by rw [hF.ex] at hi; exact hi, fun _ _ _ => rfl⟩
          rcases hb with hb | ⟨id, n, hi, e⟩
          · exact .inl hb
          · by_cases hrw : bRw s.boxes id = true
            · exact .inr (.inr ⟨id, n, hrw, e⟩)
            · exact .inl (h.1.bx.zro id b n (hal id hi) (by simpa using hrw) e)
      · cases hq
    · cases hq
  | sel l =>
    simp only [adj1] at hq
    obtain ⟨hb, hq⟩ := cond_some hq
    cases hq
    simp only [Bool.and_eq_true] at hb
    obtain ⟨hd, hp, hm, he, hbx⟩ := hb
    rw [List.all_eq_true] at he hbx
    have hm := Nat.le_of_ble_eq_true hm
    have hp := prefOK_spec hp
    have lt : ∀ {i id : Nat}, l[i]? = some id → ∃ b, s.boxes[id]? = some b ∧ inL l b.ids = true := fun {i id} hi => by
      have := hbx id (List.mem_of_getElem? hi)
      cases hb : s.boxes[id]? with
      | none => rw [hb] at this; cases this
      | some b => rw [hb] at this; exact ⟨b, rfl, by simpa using this⟩
    have get : ∀ {i id : Nat} {b : Box}, l[i]? = some id → s.boxes[id]? = some b → (selB s.boxes l)[i]? = some (b.ren (selI l)) := fun {i id b} hi hb => by
      unfold selB
      rw [List.getElem?_map, hi]
      simp [hb]
    have back : ∀ {i : Nat} {bx : Box}, (selB s.boxes l)[i]? = some bx → ∃ id b, l[i]? = some id ∧ s.boxes[id]? = some b ∧ inL l b.ids = true ∧ bx = b.ren (selI l) := fun {i bx} hi => by
      unfold selB at hi
      rw [List.getElem?_map] at hi
      cases hl : l[i]? with
      | none => rw [hl] at hi; cases hi
      | some id =>
        rw [hl] at hi
        obtain ⟨b, hb, hin⟩ := lt hl
        simp [hb] at hi
        exact ⟨id, b, rfl, hb, hin, hi.symm⟩
    have cls : ∀ {i : Nat} {id : Nat}, l[i]? = some id → bAl (selB s.boxes l) i = bAl s.boxes id ∧ bRw (selB s.boxes l) i = bRw s.boxes id ∧ bEx (selB s.boxes l) i = bEx s.boxes id := fun {i id} hi => by
      obtain ⟨b, hb, _⟩ := lt hi
      simp [bAl, bRw, bEx, get hi hb, hb, ren_alive, ren_rw, ren_isEx]
    have lenS : (selB s.boxes l).length = l.length := by simp [selB]
    refine ⟨rfl, fun Z β w a h => ?_⟩
    let β' : Nat → Option (Nat × Nat) := fun i => (l[i]?).bind β
    have hβ : ∀ {i id : Nat}, l[i]? = some id → β' i = β id := fun {i id} hi => by show (l[i]?).bind β = _; rw [hi]; rfl
    have hβ' : ∀ {i : Nat} {b n : Nat}, β' i = some (b, n) → ∃ id, l[i]? = some id ∧ β id = some (b, n) := fun {i b n} hi => by
      have hi : (l[i]?).bind β = some (b, n) := hi
      cases hs : l[i]? with
      | none => rw [hs] at hi; cases hi
      | some id => rw [hs] at hi; exact ⟨id, rfl, hi⟩
    have hren : RenOK (mkX C.E Z β w s.boxes) (mkX C.E Z β' w (selB s.boxes l)) (selI l) (fun i => ∃ k, inv l i = some k) := by
      refine ⟨⟨rfl, fun _ h => h, fun _ _ => rfl⟩, rfl, fun i ⟨k, hk⟩ hi => ?_⟩
      have hk2 := inv_spec hk
      have e : selI l i = k := by unfold selI; rw [hk]; rfl
      rw [e]
      refine ⟨?_, fun ha => ?_, hβ hk2⟩
      · show k < (selB s.boxes l).length
        rw [lenS]; exact (List.getElem?_eq_some_iff.1 hk2).1
      · have ha : bAl (selB s.boxes l) k = true := ha
        rw [(cls hk2).1] at ha; exact ha
    refine ⟨Z, β', ⟨⟨h.1.defers, ⟨by rw [List.length_map]; exact h.1.env.1, fun i v tm h1 h2 => ?_⟩, ?_⟩, by show s.m ≤ (selB s.boxes l).length; rw [lenS]; exact hm⟩, ?_⟩
    · rw [List.getElem?_map] at h2
      cases hq : s.env[i]? with
      | none => rw [hq] at h2; cases h2
      | some t =>
        rw [hq] at h2
        cases h2
        exact renTm hren (inL_spec (he t (List.mem_of_getElem? hq))) (h.1.env.2 i v t h1 hq)
    · refine ⟨fun i bx hi => ?_, fun i j b n k hi hj e1 e2 => ?_, h.1.bx.zlt, fun b hb i n hi e => ?_, fun i b n h1 h2 e => ?_, h.1.bx.glob⟩
      · obtain ⟨id, b, h1, h2, h3, rfl⟩ := back hi
        exact renBox hren (hβ h1) (inL_spec h3) (h.1.bx.box id b h2)
      · obtain ⟨x, hx, hx2⟩ := hβ' e1
        obtain ⟨y, hy, hy2⟩ := hβ' e2
        rw [(cls hx).1] at hi
        rw [(cls hy).1] at hj
        have := h.1.bx.inj x y b n k hi hj hx2 hy2
        subst this
        exact distinct_spec hd i j x hx hy
      · obtain ⟨x, hx, hx2⟩ := hβ' e
        rw [(cls hx).2.1] at hi
        exact h.1.bx.zrw b hb x n hi hx2
      · obtain ⟨x, hx, hx2⟩ := hβ' e
        rw [(cls hx).1] at h1
        rw [(cls hx).2.1] at h2
        exact h.1.bx.zro x b n h1 h2 hx2
    · refine ⟨rfl, rfl, rfl, Nat.le_refl _, fun _ _ _ => rfl, fun _ h => h, fun j b n hj e => ?_, fun _ h => .inl h, fun i hi he => ?_, fun i hi he => ?_⟩
      · obtain ⟨x, hx, hx2⟩ := hβ' e
        rw [(cls hx).2.1] at hj
        exact .inr ⟨x, n, hj, hx2⟩
      · have := hp i hi
        rw [Nat.zero_add] at this
        rw [(cls this).2.2] at he; exact he
      · have := hp i hi
        rw [Nat.zero_add] at this
        exact hβ this
  | coB i full hs =>
    simp only [adj1] at hq
    split at hq
    · rename_i ps ty hi
      split at hq
      · rename_i r hco
        split at hq
        · rename_i ps1 ty1 hi1
          cases hq
          have hi1l := (List.getElem?_eq_some_iff.1 hi1).1
          have hF := frzAll_spec r.ids s.boxes
          have get : ∀ j, j ≠ i → ((frzAll s.boxes r.ids).set i (.ex false r.v ty))[j]? = (frzAll s.boxes r.ids)[j]? := fun j hj => by rw [List.getElem?_set, if_neg (fun e => hj e.symm)]
          have geti : ((frzAll s.boxes r.ids).set i (.ex false r.v ty))[i]? = some (.ex false r.v ty) := by rw [List.getElem?_set, if_pos rfl, if_pos hi1l]
          have hAl : bAl ((frzAll s.boxes r.ids).set i (.ex false r.v ty)) = bAl (frzAll s.boxes r.ids) := funext fun j => by
            by_cases e : j = i
            · subst e; unfold bAl; rw [geti, hi1]; rfl
            · unfold bAl; rw [get j e]
          have hRw : ∀ j, bRw ((frzAll s.boxes r.ids).set i (.ex false r.v ty)) j = bRw (frzAll s.boxes r.ids) j := fun j => by
            by_cases e : j = i
            · subst e; unfold bRw; rw [geti, hi1]; rfl
            · unfold bRw; rw [get j e]
          have hEx : ∀ j, bEx ((frzAll s.boxes r.ids).set i (.ex false r.v ty)) j = bEx (frzAll s.boxes r.ids) j := fun j => by
            by_cases e : j = i
            · subst e; unfold bEx; rw [geti, hi1]; rfl
            · unfold bEx; rw [get j e]
          have hX : ∀ Z β w, mkX C.E Z β w ((frzAll s.boxes r.ids).set i (.ex false r.v ty)) = mkX C.E Z β w (frzAll s.boxes r.ids) := fun Z β w => by
            unfold mkX; rw [hAl, List.length_set]
          refine ⟨rfl, fun Z β w a h => ?_⟩
          obtain ⟨hal, hids, hrep⟩ := coPs_rep h.1.bx hco
          let Z' : Nat → Prop := fun b => Z b ∨ ∃ id n, id ∈ r.ids ∧ β id = some (b, n)
          obtain ⟨g1, g2, g3⟩ := hF.rel h.1.bx (Z' := Z') (w' := w) (Nat.le_refl _) (fun _ _ => rfl) (fun b hb => .inl hb) (fun i b n hi _ e => .inr ⟨i, n, hi, e⟩) (fun b hb => by
            rcases hb with hb | ⟨id, n, hi, e⟩
            · exact .inl hb
            · exact .inr (.inr ⟨id, n, hi, hal id hi, e⟩))
          refine ⟨Z', β, ⟨⟨h.1.defers, by dsimp only; rw [hX]; exact h.1.env.step g2 fun tm _ j _ => g3 j, ⟨fun j bx hj => ?_, fun a b c n m ha hb => g1.inj a b c n m (by rw [← hAl]; exact ha) (by rw [← hAl]; exact hb), g1.zlt, fun b hb j n hj => g1.zrw b hb j n (by rw [← hRw]; exact hj), fun j b n h1 h2 => g1.zro j b n (by rw [← hAl]; exact h1) (by rw [← hRw]; exact h2), g1.glob⟩⟩, by show s.m ≤ ((frzAll s.boxes r.ids).set i _).length; rw [List.length_set, hF.len]; exact h.2⟩,
            rfl, rfl, rfl, Nat.le_refl _, fun _ _ _ => rfl, fun b hb => .inl hb, fun j b n hj e => .inr ⟨j, n, (hF.rw j (by rw [← hRw]; exact hj)).1, e⟩, fun b hb => ?_, fun j _ hj => by rw [hEx, hF.ex] at hj; exact hj, fun _ _ _ => rfl⟩
          · rw [hX]
            by_cases e : j = i
            · subst e
              rw [geti] at hj
              cases hj
              obtain ⟨b, cs, fr, h1, h2, h3, h4⟩ := h.1.bx.box j _ hi
              exact ⟨b, cs, fr, h1, h2, h3, hrep (Y := mkX C.E Z' β w (frzAll s.boxes r.ids)) (F := r.ids) hφ ⟨g2, rfl, fun id hid b z hb => .inr ⟨id, z, hid, hb⟩⟩ (fun _ h => h) h4⟩
            · rw [get j e] at hj
              exact g1.box j bx hj
          · rcases hb with hb | ⟨id, n, hi, e⟩
            · exact .inl hb
            · by_cases hrw : bRw s.boxes id = true
              · exact .inr (.inr ⟨id, n, hrw, e⟩)
              · exact .inl (h.1.bx.zro id b n (hal id hi) (by simpa using hrw) e)
        · cases hq
      · cases hq
    · cases hq
  | nocap =>
    cases hq
    have get : ∀ j, (s.boxes.map Box.nocap)[j]? = (s.boxes[j]?).map Box.nocap := fun j => List.getElem?_map ..
    have hAl : bAl (s.boxes.map Box.nocap) = bAl s.boxes := funext fun j => by
      unfold bAl; rw [get]
      cases s.boxes[j]? with
      | none => rfl
      | some b => cases b <;> rfl
    have hRw : ∀ j, bRw (s.boxes.map Box.nocap) j = bRw s.boxes j := fun j => by
      unfold bRw; rw [get]
      cases s.boxes[j]? with
      | none => rfl
      | some b => cases b <;> rfl
    have hEx : ∀ j, bEx (s.boxes.map Box.nocap) j = bEx s.boxes j := fun j => by
      unfold bEx; rw [get]
      cases s.boxes[j]? with
      | none => rfl
      | some b => cases b <;> rfl
    have hX : ∀ Z β w, mkX C.E Z β w (s.boxes.map Box.nocap) = mkX C.E Z β w s.boxes := fun Z β w => by
      unfold mkX; rw [hAl, List.length_map]
    have hE : ∀ Z β w (a : Act), RelM C Z β w a s → RelE (mkX C.E Z β w s.boxes) a.tmps (s.env.map Tm.nocap) := fun Z β w a h => ⟨by rw [List.length_map]; exact h.1.env.1, fun i v tm h1 h2 => by
      rw [List.getElem?_map] at h2
      cases hq : s.env[i]? with
      | none => rw [hq] at h2; cases h2
      | some t =>
        rw [hq] at h2
        cases h2
        exact repTm_nocap (h.1.env.2 i v t h1 hq)⟩
    refine ⟨rfl, fun Z β w a h => ⟨Z, β, ⟨⟨h.1.defers, by dsimp only; rw [hX]; exact hE Z β w a h, ⟨fun j bx hj => ?_, fun a b c n m ha hb => h.1.bx.inj a b c n m (by rw [← hAl]; exact ha) (by rw [← hAl]; exact hb), h.1.bx.zlt, fun b hb j n hj => h.1.bx.zrw b hb j n (by rw [← hRw]; exact hj), fun j b n h1 h2 => h.1.bx.zro j b n (by rw [← hAl]; exact h1) (by rw [← hRw]; exact h2), h.1.bx.glob⟩⟩, by show s.m ≤ (s.boxes.map _).length; rw [List.length_map]; exact h.2⟩,
      rfl, rfl, rfl, Nat.le_refl _, fun _ _ _ => rfl, fun _ h => h, fun j b n hj e => .inr ⟨j, n, by rw [← hRw]; exact hj, e⟩, fun _ h => .inl h, fun j _ hj => by rw [← hEx]; exact hj, fun _ _ _ => rfl⟩⟩
    rw [hX]
    rw [get] at hj
    cases hq : s.boxes[j]? with
    | none => rw [hq] at hj; cases hj
    | some b =>
      rw [hq] at hj
      cases hj
      exact repBox_nocap (h.1.bx.box j b hq)
  | cut i k =>
    simp only [adj1] at hq
    split at hq
    · rename_i ro t l ty hi
      cases hq
      have hil := (List.getElem?_eq_some_iff.1 hi).1
      have get : ∀ j, j ≠ i → (s.boxes.set i (.gro ro t (l.take k) ty))[j]? = s.boxes[j]? := fun j hj => by rw [List.getElem?_set, if_neg (fun e => hj e.symm)]
      have geti : (s.boxes.set i (.gro ro t (l.take k) ty))[i]? = some (.gro ro t (l.take k) ty) := by rw [List.getElem?_set, if_pos rfl, if_pos hil]
      have hAl : bAl (s.boxes.set i (.gro ro t (l.take k) ty)) = bAl s.boxes := funext fun j => by
        by_cases e : j = i
        · subst e; unfold bAl; rw [geti, hi]; rfl
        · unfold bAl; rw [get j e]
      have hRw : ∀ j, bRw (s.boxes.set i (.gro ro t (l.take k) ty)) j = bRw s.boxes j := fun j => by
        by_cases e : j = i
        · subst e; unfold bRw; rw [geti, hi]; rfl
        · unfold bRw; rw [get j e]
      have hEx : ∀ j, bEx (s.boxes.set i (.gro ro t (l.take k) ty)) j = bEx s.boxes j := fun j => by
        by_cases e : j = i
        · subst e; unfold bEx; rw [geti, hi]; rfl
        · unfold bEx; rw [get j e]
      have hX : ∀ Z β w, mkX C.E Z β w (s.boxes.set i (.gro ro t (l.take k) ty)) = mkX C.E Z β w s.boxes := fun Z β w => by
        unfold mkX; rw [hAl, List.length_set]
      refine ⟨rfl, fun Z β w a h => ⟨Z, β, ⟨⟨h.1.defers, by dsimp only; rw [hX]; exact h.1.env, ⟨fun j bx hj => ?_, fun a b c n m ha hb => h.1.bx.inj a b c n m (by rw [← hAl]; exact ha) (by rw [← hAl]; exact hb), h.1.bx.zlt, fun b hb j n hj => h.1.bx.zrw b hb j n (by rw [← hRw]; exact hj), fun j b n h1 h2 => h.1.bx.zro j b n (by rw [← hAl]; exact h1) (by rw [← hRw]; exact h2), h.1.bx.glob⟩⟩, by show s.m ≤ (s.boxes.set i _).length; rw [List.length_set]; exact h.2⟩,
        rfl, rfl, rfl, Nat.le_refl _, fun _ _ _ => rfl, fun _ h => h, fun j b n hj e => .inr ⟨j, n, by rw [← hRw]; exact hj, e⟩, fun _ h => .inl h, fun j _ hj => by rw [← hEx]; exact hj, fun _ _ _ => rfl⟩⟩
      rw [hX]
      by_cases e : j = i
      · subst e
        rw [geti] at hj
        cases hj
        have := h.1.bx.box j _ hi
        rcases this with ⟨hb, hl⟩ | ⟨b, cs, fr, c1, c2, h1, h2, h3, h4, h5, h6⟩
        · exact .inl ⟨hb, by rw [hl]; simp⟩
        · rw [← List.take_append_drop k l] at h5
          obtain ⟨d1, d2, e5, h7, h8⟩ := rowOf_append.1 h5
          exact .inr ⟨b, cs, fr, d1, d2 ++ c2, h1, h2, h3, by rw [h4, e5, List.append_assoc], h7, h6⟩
      · rw [get j e] at hj
        exact h.1.bx.box j bx hj
    · cases hq
  | len i j n =>
    simp only [adj1] at hq
    split at hq
    · rename_i ro ps ty hi
      split at hq
      · rename_i id b lo e l c hp
        cases hq
        have hφ : l = n := hφ
        subst hφ
        have e1 : ps.set j (.c (.os id b lo e l c)) = ps := by
          apply List.ext_getElem?
          intro a
          rw [List.getElem?_set]
          by_cases h1 : j = a
          · subst h1
            rw [if_pos rfl, if_pos (List.getElem?_eq_some_iff.1 hp).1, hp]
          · rw [if_neg h1]
        have e2 : s.boxes.set i (.ex ro (ps.set j (.c (.os id b lo e l c))) ty) = s.boxes := by
          rw [e1]
          apply List.ext_getElem?
          intro a
          rw [List.getElem?_set]
          by_cases h1 : i = a
          · subst h1
            rw [if_pos rfl, if_pos (List.getElem?_eq_some_iff.1 hi).1, hi]
          · rw [if_neg h1]
        rw [e2]
        exact Less.refl C s
      · cases hq
    · cases hq
  | fixB q i =>
    simp only [adj1] at hq
    split at hq
    · rename_i t l ty hi
      obtain ⟨hk, hq⟩ := cond_some hq
      cases hq
      exact swapB_less hi rfl rfl (fun _ => .inr (Nat.le_of_ble_eq_true hk)) fun X hr => hr
    · rename_i t l ty hi
      cases hq
      exact swapB_less hi rfl rfl (fun h => by cases h) fun X hr => hr
    · cases hq
  | newG u e0 =>
    simp only [adj1] at hq
    cases hq
    refine ⟨rfl, fun Z β w a h => ?_⟩
    have hx : ∀ b n, (none : Option (Nat × Nat)) = some (b, n) → b = w.heap.size := fun b n e => by cases e
    obtain ⟨g1, g2, g3⟩ := h.1.bx.push (w' := w) (bx := .gro false u [] e0) rfl none hx (Nat.le_refl _) (fun _ _ => rfl) (.inl ⟨upd_same .., rfl⟩)
    exact ⟨Z, upd β s.boxes.length none, ⟨⟨h.1.defers, h.1.env.step g2 fun tm _ j _ => g3 j, g1⟩, by show s.m ≤ (s.boxes ++ [_]).length; simp; have := h.2; omega⟩, Ext.push _ hx h.2 rfl rfl rfl (Nat.le_refl _) (fun _ _ => rfl)⟩
  | nilB i j0 k z =>
    simp only [adj1] at hq
    split at hq
    · rename_i ro ps ty hi
      split at hq
      · rename_i x0 hp
        obtain ⟨hk, hq⟩ := cond_some hq
        rw [Bool.and_eq_true, Bool.or_eq_true] at hk
        obtain ⟨hk, hx0⟩ := hk
        have hk := Nat.le_of_ble_eq_true hk
        cases hq
        generalize hnew : Box.ex ro (ps.set j0 (.c (.os k 0 0 z 0 none))) ty = bn
        have hil := (List.getElem?_eq_some_iff.1 hi).1
        have get : ∀ j, j ≠ i → (s.boxes.set i bn)[j]? = s.boxes[j]? := fun j hj => by rw [List.getElem?_set, if_neg (fun e => hj e.symm)]
        have geti : (s.boxes.set i bn)[i]? = some bn := by rw [List.getElem?_set, if_pos rfl, if_pos hil]
        have hAl : bAl (s.boxes.set i bn) = bAl s.boxes := funext fun j => by
          by_cases e : j = i
          · subst e; unfold bAl; rw [geti, hi, ← hnew]; rfl
          · unfold bAl; rw [get j e]
        have hRw : ∀ j, bRw (s.boxes.set i bn) j = bRw s.boxes j := fun j => by
          by_cases e : j = i
          · subst e; unfold bRw; rw [geti, hi, ← hnew]; rfl
          · unfold bRw; rw [get j e]
        have hEx : ∀ j, bEx (s.boxes.set i bn) j = bEx s.boxes j := fun j => by
          by_cases e : j = i
          · subst e; unfold bEx; rw [geti, hi, ← hnew]; rfl
          · unfold bEx; rw [get j e]
        have hX : ∀ Z β w, mkX C.E Z β w (s.boxes.set i bn) = mkX C.E Z β w s.boxes := fun Z β w => by
          unfold mkX; rw [hAl, List.length_set]
        refine ⟨rfl, fun Z β w a h => ⟨Z, β, ⟨⟨h.1.defers, by dsimp only; rw [hX]; exact h.1.env, ⟨fun j bx hj => ?_, fun a b c n m ha hb => h.1.bx.inj a b c n m (by rw [← hAl]; exact ha) (by rw [← hAl]; exact hb), h.1.bx.zlt, fun b hb j n hj => h.1.bx.zrw b hb j n (by rw [← hRw]; exact hj), fun j b n h1 h2 => h.1.bx.zro j b n (by rw [← hAl]; exact h1) (by rw [← hRw]; exact h2), h.1.bx.glob⟩⟩, by show s.m ≤ (s.boxes.set i _).length; rw [List.length_set]; exact h.2⟩,
          rfl, rfl, rfl, Nat.le_refl _, fun _ _ _ => rfl, fun _ h => h, fun j b n hj e => .inr ⟨j, n, by rw [← hRw]; exact hj, e⟩, fun _ h => .inl h, fun j _ hj => by rw [← hEx]; exact hj, fun _ _ _ => rfl⟩⟩
        rw [hX]
        by_cases e : j = i
        · subst e
          rw [geti] at hj
          cases hj
          obtain ⟨b, cs, fr, h1, h2, h3, h4⟩ := h.1.bx.box j _ hi
          rw [← hnew]
          exact ⟨b, cs, fr, h1, h2, h3, repPs_nilB (show k < s.boxes.length by omega) (hx0.imp id fun h => show bAl s.boxes k = false by simpa using h) hp h4⟩
        · rw [get j e] at hj
          exact h.1.bx.box j bx hj
      · cases hq
    · cases hq
  | nilGro t u e0 =>
    simp only [adj1] at hq
    split at hq
    · rename_i he
      cases hq
      refine ⟨rfl, fun Z β w a h => ?_⟩
      have hx : ∀ b n, (none : Option (Nat × Nat)) = some (b, n) → b = w.heap.size := fun b n e => by cases e
      obtain ⟨g1, g2, g3⟩ := h.1.bx.push (w' := w) (bx := .gro false u [] e0) rfl none hx (Nat.le_refl _) (fun _ _ => rfl) (.inl ⟨upd_same .., rfl⟩)
      refine ⟨Z, upd β s.boxes.length none, ⟨⟨h.1.defers, ?_, g1⟩, by show s.m ≤ (s.boxes ++ [_]).length; simp; have := h.2; omega⟩, Ext.push _ hx h.2 rfl rfl rfl (Nat.le_refl _) (fun _ _ => rfl)⟩
      have hE := h.1.env.step g2 fun tm _ j _ => g3 j
      refine ⟨by rw [List.length_set]; exact hE.1, fun i v tm h1 h2 => ?_⟩
      rw [List.getElem?_set] at h2
      by_cases e : t = i
      · subst e
        rw [if_pos rfl] at h2
        split at h2
        · cases h2
          have hr := evalO_rep h.1.env (.tmp t)
          have he' : evalO (mkX C.E Z β w s.boxes).E s.env (.tmp t) = .v (.one (.sc (.slice none 0 0))) := he
          rw [he'] at hr
          have hva : a.eval (.tmp t) = v := by simp [Act.eval, Array.getD_eq_getD_getElem?, h1]
          rw [hva] at hr
          rw [sc_rep hr rfl]
          exact ⟨⟨by show s.boxes.length < (s.boxes ++ [_]).length; simp, fun _ => ⟨none, 0, rfl, Nat.le_refl _, fun k hk => (by cases hk), fun hc => absurd rfl hc⟩⟩, rfl⟩
        · cases h2
      · rw [if_neg e] at h2
        exact hE.2 i v tm h1 h2
    · cases hq

def adjs (s : St) : List Adj → Option (Prop × St)
  | [] => some (True, s)
  | x :: r => match adj1 s x with
    | some (φ, s1) => (match adjs s1 r with | some (ψ, s2) => some (φ ∧ ψ, s2) | none => none)
    | none => none

theorem adjs_less {C : Cfg} : ∀ {l : List Adj} {s s' : St} {φ : Prop}, adjs s l = some (φ, s') → φ → Less C s s'
  | [], s, s', φ, h, _ => by cases h; exact Less.refl C s
  | x :: r, s, s', φ, h, hφ => by
    simp only [adjs] at h
    split at h
    · rename_i φ1 s1 h1
      split at h
      · rename_i φ2 s2 h2
        cases h
        exact (adj1_less h1 hφ.1).trans (adjs_less h2 hφ.2)
      · cases h
    · cases h

/-- Operations that adjustments may stand ahead of. -/
def needA (L : List (Nat × TI)) (op : Op) : Bool := needD L op || (match op with
  | .call ⟨.value _, _, _⟩ => true
  | .call ⟨.invoke _ _, _, _⟩ => true
  | _ => false)

/-- Nothing is known. -/
def anyE (l : List Tm) : List Tm := l.map fun _ => .any
theorem anyE_rel {X : Cx} {tmps : Array Value} {env : List Tm} (h : tmps.size = env.length) : RelE X tmps (anyE env) := by
  refine ⟨by simp [anyE, h], fun i v t _ h2 => ?_⟩
  unfold anyE at h2
  rw [List.getElem?_map] at h2
  cases he : env[i]? with
  | none => rw [he] at h2; cases h2
  | some t0 => rw [he] at h2; cases h2; trivial

/-- An operation that panics. -/
def panE (C : Cfg) (o : Oper) (k : Scr) (s : St) (X : Scr → Exit → St → Prop) : Prop := match o.guard with
  | some _ => False
  | none => (match k with
    | .callX full hs σ T sv sb k' => (match o.op with
      | .call c => ∃ t : T, (match callF C s.env c with
        | some (f, ts) => (match lCallX C s.env s.boxes f ts full hs σ (sv t) (sb t) with
          | some r => bif r.keeps s.m then r.φ ∧ X (k' t) (.panic [⟨sv t, false, false⟩]) ⟨anyE s.env, r.bs, s.m⟩ else False
          | none => False)
        | none => False)
      | _ => False)
    | .pan k' => (match o.op with
      | .panic x => (match evalO C.E s.env x with
        | .v (.one (.sc (.iface t v))) => X k' (.panic [⟨.iface t v, false, false⟩]) ⟨anyE s.env, s.boxes, s.m⟩
        | _ => False)
      | _ => False)
    | _ => False)

theorem panE_wp {C : Cfg} (hC : COk C) {Z : Nat → Prop} {β : Nat → Option (Nat × Nat)} {w : World} {a : Act} {s : St} (h : RelM C Z β w a s) {ops : Array Oper} {i : Nat} {o : Oper} (hi : ops[i]? = some o) {k : Scr} {X : Scr → Exit → St → Prop} (hq : panE C o k s X) {N : Act → World → Prop} {Q : Exit → Act → World → Prop}
    (hX : ∀ k' e s', s'.m = s.m → X k' e s' → Goes C s.m Z β s.boxes w s' (Q e)) : wpOp C.P ops Q i N a w := by
  unfold wpOp
  simp only [hi]
  unfold panE at hq
  split at hq
  · exact hq.elim
  · rename_i hg
    have hw : Region.wanted o (yielded ops a.tmps) = true := by unfold Region.wanted; rw [hg]
    rw [if_pos hw]
    refine .inl ?_
    split at hq
    · rename_i full hs σ T sv sb k'
      split at hq
      · rename_i c ho
        obtain ⟨t, hq⟩ := hq
        split at hq
        · rename_i f ts hc
          split at hq
          · rename_i r hr
            cases hk : r.keeps s.m with
            | false => rw [hk] at hq; exact hq.elim
            | true =>
              rw [hk] at hq
              obtain ⟨hφ, hx⟩ := hq
              exact lCallX_wp hC h.2 h.1.bx h.1.env ho hc hr hφ fun v Z' β' w' _ h2 h3 h4 => hX (k' t) _ ⟨anyE s.env, r.bs, s.m⟩ rfl hx Z' β' a w' ⟨⟨h.1.defers, anyE_rel h.1.env.1, h3⟩, Nat.le_of_ble_eq_true hk⟩ h4
          · exact hq.elim
        · exact hq.elim
      · exact hq.elim
    · rename_i k'
      split at hq
      · rename_i x ho
        split at hq
        · rename_i t v he
          have hv := evalO_rep h.1.env x
          have he' : evalO (mkX C.E Z β w s.boxes).E s.env x = .v (.one (.sc (.iface t v))) := he
          rw [he'] at hv
          have hv := sc_rep hv rfl
          have hrun : (execOp a.eval o).run C.P w = .halt (.panic (.iface t v)) w := by
            unfold execOp; rw [ho]
            simp only [hv]
            rfl
          unfold Oper.wp
          rw [hrun]
          exact hX _ _ ⟨anyE s.env, s.boxes, s.m⟩ rfl hq Z β a w ⟨⟨h.1.defers, anyE_rel h.1.env.1, h.1.bx⟩, h.2⟩ (Ext.refl ..)
        · exact hq.elim
      · exact hq.elim
    · exact hq.elim

/-- Operations that may panic. -/
def mayX : Op → Bool
  | .call ⟨.value _, _, _⟩ => true
  | .call ⟨.invoke _ _, _, _⟩ => true
  | .panic _ => true
  | _ => false
/-- An operation, or how it panics. -/
def stepX (C : Cfg) (ol : List Oper) (o : Oper) (k : Scr) (s : St) (X : Scr → Exit → St → Prop) (K : Scr → St → Prop) : Prop := bif mayX o.op && o.guard.isNone then (match k with
    | .orx k1 k2 => panE C o k1 s X ∨ guardE C ol o k2 s K
    | .callX full hs σ T sv sb k' => panE C o (.callX full hs σ T sv sb k') s X
    | .pan k' => panE C o (.pan k') s X
    | k => guardE C ol o k s K) else guardE C ol o k s K

theorem stepX_wp {C : Cfg} (hC : COk C) {Z : Nat → Prop} {β : Nat → Option (Nat × Nat)} {w : World} {a : Act} {s : St} (h : RelM C Z β w a s) {ops : Array Oper} {i : Nat} {o : Oper} (hi : ops[i]? = some o) {k : Scr} {X : Scr → Exit → St → Prop} {K : Scr → St → Prop} (hq : stepX C ops.toList o k s X K) {N : Act → World → Prop} {Q : Exit → Act → World → Prop}
    (hX : ∀ k' e s', s'.m = s.m → X k' e s' → Goes C s.m Z β s.boxes w s' (Q e)) (hN : ∀ k' s', s'.m = s.m → K k' s' → Goes C s.m Z β s.boxes w s' N) : wpOp C.P ops Q i N a w := by
  unfold stepX at hq
  cases hb : mayX o.op && o.guard.isNone with
  | false => rw [hb] at hq; exact guardE_wp hC h hi hq hN
  | true =>
    rw [hb] at hq
    simp only [cond_true] at hq
    split at hq
    · rcases hq with hq | hq
      · exact panE_wp hC h hi hq hX
      · exact guardE_wp hC h hi hq hN
    · exact panE_wp hC h hi hq hX
    · exact panE_wp hC h hi hq hX
    · exact guardE_wp hC h hi hq hN

/-- A region's operations in order; between them a state may be said to be less. -/
def opsA (C : Cfg) (ol : List Oper) (X : Scr → Exit → St → Prop) : List Oper → Scr → St → (Scr → St → Prop) → Prop
  | [], k, s, K => K k s
  | o :: os, k, s, K => match k with
    | .aj l k1 => bif needA C.L o.op then (match adjs s l with
      | some (φ, s1) => φ ∧ stepX C ol o k1 s1 X fun k' s' => opsA C ol X os k' s' K
      | none => False) else stepX C ol o (.aj l k1) s X fun k' s' => opsA C ol X os k' s' K
    | k => stepX C ol o k s X fun k' s' => opsA C ol X os k' s' K

theorem opsA_wp {C : Cfg} (hC : COk C) {ops : Array Oper} {Q : Exit → Act → World → Prop} : ∀ (os : List Oper) (i : Nat) (_ : ops.toList.drop i = os) {Z : Nat → Prop} {β : Nat → Option (Nat × Nat)} {w : World} {a : Act} {s : St} (_ : RelM C Z β w a s) {k : Scr} {X : Scr → Exit → St → Prop} {K : Scr → St → Prop} (_ : opsA C ops.toList X os k s K)
    (_ : ∀ k' e s', s'.m = s.m → X k' e s' → Goes C s.m Z β s.boxes w s' (Q e))
    (_ : ∀ k' s', s'.m = s.m → K k' s' → Goes C s.m Z β s.boxes w s' (Q .normal)), wpOps C.P ops Q (List.range' i os.length) a w
  | [], i, _, Z, β, w, a, s, h, k, X, K, hq, hX, hN => hN k s rfl hq Z β a w h (Ext.refl ..)
  | o :: os, i, hd, Z, β, w, a, s, h, k, X, K, hq, hX, hN => by
    have hi : ops[i]? = some o := by
      have : ops.toList[i]? = some o := by
        have := congrArg (fun l => l[0]?) hd
        simpa using this
      simpa using this
    have hd2 : ops.toList.drop (i + 1) = os := by rw [← List.drop_drop, hd]; rfl
    have go : ∀ {Z1 : Nat → Prop} {β1 : Nat → Option (Nat × Nat)} {s1 : St} {k1 : Scr}, RelM C Z1 β1 w a s1 → s1.m = s.m → (∀ k' e s', s'.m = s1.m → X k' e s' → Goes C s1.m Z1 β1 s1.boxes w s' (Q e)) → (∀ k' s', s'.m = s1.m → K k' s' → Goes C s1.m Z1 β1 s1.boxes w s' (Q .normal)) → stepX C ops.toList o k1 s1 X (fun k' s' => opsA C ops.toList X os k' s' K) → wpOps C.P ops Q (List.range' i (o :: os).length) a w := fun {Z1 β1 s1 k1} hr hm hX1 hN1 hg => by
      rw [List.length_cons, List.range'_succ, wpOps_cons]
      refine stepX_wp hC hr hi hg hX1 fun k' s' hs hk => ?_
      intro Z2 β2 a1 w1 h1 h2
      refine opsA_wp hC os (i + 1) hd2 h1 hk (fun k'' e s'' hs' hk' => ?_) fun k'' s'' hs' hk' => ?_
      · rw [hs]
        exact (hX1 k'' e s'' (hs'.trans hs) hk').trans h2
      · rw [hs]
        exact (hN1 k'' s'' (hs'.trans hs) hk').trans h2
    unfold opsA at hq
    split at hq
    · cases hb : needA C.L o.op with
      | false =>
        rw [hb] at hq
        simp only [cond_false] at hq
        exact go h rfl hX hN hq
      | true =>
        rw [hb] at hq
        simp only [cond_true] at hq
        split at hq
        · rename_i φ s1 ha
          obtain ⟨hm, hl⟩ := adjs_less (C := C) ha hq.1
          obtain ⟨Z1, β1, hr, hx⟩ := hl Z β w a h
          refine go hr hm (fun k' e s' hs hk => ?_) (fun k' s' hs hk => ?_) hq.2
          · rw [hm]
            exact (hX k' e s' (hs.trans hm) hk).trans hx
          · rw [hm]
            exact (hN k' s' (hs.trans hm) hk).trans hx
        · exact hq.elim
    · exact go h rfl hX hN hq


/-- What stands ahead of the next piece of code. -/
def peel (k : Scr) (s : St) (K : Scr → St → Prop) : Prop := match k with
  | .adj l k' => (match adjs s l with | some (φ, s') => φ ∧ K k' s' | none => False)
  | k => K k s

/-! ### Code -/
/-- What code does, from a state on. -/
def Trip (C : Cfg) (c : Code) (s : St) (Q : Exit → St → Prop) : Prop :=
  ∀ Z β w a, RelM C Z β w a s → c.wp C.P (fun e a' w' => ∃ Z' β' s', Q e s' ∧ s'.m = s.m ∧ RelM C Z' β' w' a' s' ∧ Ext s.m Z β s.boxes w Z' β' s'.boxes w') a w

theorem Trip.mono {C : Cfg} {c : Code} {s : St} {Q Q' : Exit → St → Prop} (h : Trip C c s Q) (hq : ∀ e s', Q e s' → Q' e s') : Trip C c s Q' :=
  fun Z β w a hr => wp_mono (h Z β w a hr) fun e a' w' ⟨Z', β', s', h1, h2⟩ => ⟨Z', β', s', hq e s' h1, h2⟩

theorem Trip.less {C : Cfg} {c : Code} {s s1 : St} {Q : Exit → St → Prop} (hl : Less C s s1) (h : Trip C c s1 Q) : Trip C c s Q := fun Z β w a hr => by
  obtain ⟨Z1, β1, r1, x1⟩ := hl.2 Z β w a hr
  refine wp_mono (h Z1 β1 w a r1) ?_
  rintro e a' w' ⟨Z', β', s', h1, h2, h3, h4⟩
  rw [hl.1] at h4
  exact ⟨Z', β', s', h1, h2.trans hl.1, h3, x1.trans h4⟩

theorem Trip.leave {C : Cfg} {c : Code} {s : St} {e : Exit} {Q : Exit → St → Prop} (hc : ∀ (P : Program) (R : Exit → Act → World → Prop) a w, R e a w → c.wp P R a w) (h : Q e s) : Trip C c s Q :=
  fun Z β w a hr => hc _ _ a w ⟨Z, β, s, h, rfl, hr, Ext.refl ..⟩

theorem Trip.seq {C : Cfg} {x y : Code} {s : St} {Q : Exit → St → Prop} (h : Trip C x s fun e s' => match e with | .normal => Trip C y s' Q | e => Q e s') : Trip C (.seq x y) s Q := fun Z β w a hr => by
  refine wp_seq (wp_mono (h Z β w a hr) ?_)
  rintro e a' w' ⟨Z', β', s', h1, h2, h3, h4⟩
  cases e with
  | normal =>
    refine wp_mono (h1 Z' β' w' a' h3) ?_
    rintro e a2 w2 ⟨Z2, β2, s2, k1, k2, k3, k4⟩
    rw [h2] at k4
    exact ⟨Z2, β2, s2, k1, k2.trans h2, k3, h4.trans k4⟩
  | _ => exact ⟨Z', β', s', h1, h2, h3, h4⟩

theorem Trip.cond {C : Cfg} {c : Operand} {x y : Code} {s : St} {Q : Exit → St → Prop} {b : Bool} (hb : evalO C.E s.env c = .v (.one (.sc (.bool b)))) (h1 : b = true → Trip C x s Q) (h2 : b = false → Trip C y s Q) : Trip C (.cond c x y) s Q := fun Z β w a hr => by
  have h := evalO_rep hr.1.env c
  have hb' : evalO (mkX C.E Z β w s.boxes).E s.env c = .v (.one (.sc (.bool b))) := hb
  rw [hb'] at h
  have hv := sc_rep h rfl
  cases b with
  | true => exact wp_cond_true hv (h1 rfl Z β w a hr)
  | false => exact wp_cond_false hv (h2 rfl Z β w a hr)

theorem Trip.block {C : Cfg} {id : Nat} {c : Code} {s : St} {Q : Exit → St → Prop} (h : Trip C c s fun e s' => match e with | .exit j => (bif Nat.beq j id then Q .normal s' else Q (.exit j) s') | e => Q e s') : Trip C (.block id c) s Q := fun Z β w a hr => by
  refine wp_block (wp_mono (h Z β w a hr) ?_)
  rintro e a' w' ⟨Z', β', s', h1, h2⟩
  cases e with
  | exit j =>
    simp only [Exit.inBlock]
    cases hb : Nat.beq j id with
    | true => simp only [hb, cond_true] at h1; rw [if_pos (beq_eq hb)]; exact ⟨Z', β', s', h1, h2⟩
    | false => simp only [hb, cond_false] at h1; rw [if_neg (fun e => by rw [e, Nat.beq_refl] at hb; cases hb)]; exact ⟨Z', β', s', h1, h2⟩
  | _ => exact ⟨Z', β', s', h1, h2⟩

/-- So many rounds of a loop. -/
def TripN (C : Cfg) (c : Code) (n : Nat) (s : St) (Q : Exit → St → Prop) : Prop :=
  ∀ Z β w a, RelM C Z β w a s → Code.rounds C.P c (fun e a' w' => ∃ Z' β' s', Q e s' ∧ s'.m = s.m ∧ RelM C Z' β' w' a' s' ∧ Ext s.m Z β s.boxes w Z' β' s'.boxes w') n a w

theorem Trip.loop {C : Cfg} {c : Code} {s : St} {Q : Exit → St → Prop} (n : Nat) (h : TripN C c n s Q) : Trip C (.loop c) s Q :=
  fun Z β w a hr => wp_loop_rounds n (h Z β w a hr)

theorem rounds_mono {P : Program} {c : Code} {Q Q' : Exit → Act → World → Prop} (hq : ∀ e a w, Q e a w → Q' e a w) : ∀ (n : Nat) (a : Act) (w : World), Code.rounds P c Q n a w → Code.rounds P c Q' n a w
  | 0, _, _, h => h
  | n + 1, a, w, h => by
    rw [rounds_succ] at h ⊢
    refine wp_mono h fun e a' w' he => ?_
    cases e with
    | normal => exact rounds_mono hq n a' w' he
    | _ => exact hq _ _ _ he

theorem TripN.succ {C : Cfg} {c : Code} {n : Nat} {s : St} {Q : Exit → St → Prop} (h : Trip C c s fun e s' => match e with | .normal => TripN C c n s' Q | e => Q e s') : TripN C c (n + 1) s Q := fun Z β w a hr => by
  rw [rounds_succ]
  refine wp_mono (h Z β w a hr) ?_
  rintro e a' w' ⟨Z', β', s', h1, h2, h3, h4⟩
  cases e with
  | normal =>
    refine rounds_mono ?_ n a' w' (h1 Z' β' w' a' h3)
    rintro e a2 w2 ⟨Z2, β2, s2, k1, k2, k3, k4⟩
    rw [h2] at k4
    exact ⟨Z2, β2, s2, k1, k2.trans h2, k3, h4.trans k4⟩
  | _ => exact ⟨Z', β', s', h1, h2, h3, h4⟩

end Go.Proofs.YtllannmegnklmaaE
