/- Reading and writing parts of typed data. -/
import Derived.Test.YtllannmegnklmaaE1
set_option linter.unusedVariables false
set_option linter.unusedSimpArgs false
set_option linter.unnecessarySimpa false
namespace Go.Proofs.YtllannmegnklmaaE
open Go

def splitP : List Piece → Nat → Option (List Piece × List Piece)
  | ps, 0 => some ([], ps)
  | [], _ + 1 => none
  | p :: ps, n + 1 => bif Nat.ble p.size (n + 1) then (match splitP ps (n + 1 - p.size) with | some (a, b) => some (p :: a, b) | none => none) else none

theorem psize_append : ∀ (ps qs : List Piece), psize (ps ++ qs) = psize ps + psize qs
  | [], qs => by simp [psize]
  | p :: ps, qs => by simp [psize, psize_append ps qs, Nat.add_assoc]

theorem splitP_spec : ∀ {ps : List Piece} {n : Nat} {a b : List Piece}, splitP ps n = some (a, b) → ps = a ++ b ∧ psize a = n
  | ps, 0, a, b, h => by
    have h : some (([] : List Piece), ps) = some (a, b) := by cases ps <;> exact h
    cases h; exact ⟨rfl, rfl⟩
  | [], _ + 1, _, _, h => by simp [splitP] at h
  | p :: ps, n + 1, a, b, h => by
    simp only [splitP] at h
    cases hb : Nat.ble p.size (n + 1) with
    | false => simp [hb] at h
    | true =>
      simp only [hb, cond_true] at h
      cases hr : splitP ps (n + 1 - p.size) with
      | none => simp [hr] at h
      | some q =>
        obtain ⟨a', b'⟩ := q
        simp only [hr] at h
        obtain ⟨h1, h2⟩ := splitP_spec hr
        cases h
        have := Nat.le_of_ble_eq_true hb
        exact ⟨by rw [h1]; rfl, by simp only [psize, h2]; omega⟩

def unT : (t : Ty) → t.T → List Piece
  | .int k, n => [.c (.sc (.int k n))]
  | .bool, b => [.c (.sc (.bool b))]
  | .str, s => [.c (.sc (.string s))]
  | .pair a b, x => unT a x.1 ++ unT b x.2
  | .arr n t, l => [.row n t l]
  | .sl t, l => [.c (.fs t l false)]

def mkT : (t : Ty) → List Piece → Option (t.T × List Piece)
  | .int k, ps => match ps with
    | .c (.sc (.int k' n)) :: r => if k' = k then some (n, r) else none
    | _ => none
  | .bool, ps => match ps with
    | .c (.sc (.bool b)) :: r => some (b, r)
    | _ => none
  | .str, ps => match ps with
    | .c (.sc (.string b)) :: r => some (b, r)
    | _ => none
  | .pair a b, ps => match mkT a ps with
    | some (x, r) => (match mkT b r with | some (y, q) => some ((x, y), q) | none => none)
    | none => none
  | .arr n t, ps => match ps with
    | .row m u l :: r => if m = n then (match Ty.eq? u t with | some h => some (castL h.down l, r) | none => none) else none
    | _ => none
  | .sl t, ps => match ps with
    | .c (.fs u l _) :: r => (match Ty.eq? u t with | some h => some (castL h.down l, r) | none => none)
    | .c (.sc (.slice none 0 0)) :: r => some ([], r)
    | _ => none

theorem repPs_unT {X : Cx} : ∀ (t : Ty) (x : t.T) {cs : List Value}, repT X t x cs → repPs X (unT t x) cs
  | .int k, x, cs, h => ⟨cs, [], by simp, ⟨_, h, ⟨rfl, rfl⟩, rfl⟩, rfl⟩
  | .bool, x, cs, h => ⟨cs, [], by simp, ⟨_, h, ⟨rfl, rfl⟩, rfl⟩, rfl⟩
  | .str, x, cs, h => ⟨cs, [], by simp, ⟨_, h, ⟨rfl, rfl⟩, rfl⟩, rfl⟩
  | .pair a b, x, cs, ⟨c1, c2, e, h1, h2⟩ => repPs_append.2 ⟨c1, c2, e, repPs_unT a _ h1, repPs_unT b _ h2⟩
  | .arr n t, l, cs, h => ⟨cs, [], by simp, h, rfl⟩
  | .sl t, l, cs, h => by
    obtain ⟨a, n, c, e, hh⟩ := h
    subst e
    exact ⟨_, [], rfl, ⟨_, rfl, ⟨⟨a, n, c, rfl, hh⟩, by simp⟩, rfl⟩, rfl⟩

theorem castL_rep {X : Cx} {a b : Ty} (h : a = b) {l : List a.T} {cs : List Value} (hr : rowOf (repT X a) l cs) : rowOf (repT X b) (castL h l) cs := by
  subst h; exact hr
theorem castL_length {a b : Ty} (h : a = b) (l : List a.T) : (castL h l).length = l.length := by subst h; rfl
theorem cast_sl {X : Cx} {a b : Ty} (h : a = b) {l : List a.T} {cs : List Value} (hr : repT X (.sl a) l cs) : repT X (.sl b) (castL h l) cs := by
  subst h; exact hr

theorem mkT_rep {X : Cx} : ∀ (t : Ty) {ps : List Piece} {cs : List Value} {x : t.T} {r : List Piece}, repPs X ps cs → mkT t ps = some (x, r) →
    ∃ c1 c2, cs = c1 ++ c2 ∧ repT X t x c1 ∧ repPs X r c2
  | .int k, ps, cs, x, r, h, e => by
    unfold mkT at e
    split at e
    · split at e
      · rename_i k' n r' hk
        cases e
        obtain ⟨c1, c2, e1, ⟨v, e2, ⟨e3, _⟩, _⟩, h2⟩ := h
        exact ⟨c1, c2, e1, by rw [e2, e3, hk]; rfl, h2⟩
      · cases e
    · cases e
  | .bool, ps, cs, x, r, h, e => by
    unfold mkT at e
    split at e
    · cases e
      obtain ⟨c1, c2, e1, ⟨v, e2, ⟨e3, _⟩, _⟩, h2⟩ := h
      exact ⟨c1, c2, e1, by rw [e2, e3]; rfl, h2⟩
    · cases e
  | .str, ps, cs, x, r, h, e => by
    unfold mkT at e
    split at e
    · cases e
      obtain ⟨c1, c2, e1, ⟨v, e2, ⟨e3, _⟩, _⟩, h2⟩ := h
      exact ⟨c1, c2, e1, by rw [e2, e3]; rfl, h2⟩
    · cases e
  | .pair a b, ps, cs, x, r, h, e => by
    unfold mkT at e
    split at e
    · rename_i x1 r1 ha
      split at e
      · rename_i y q hb
        cases e
        obtain ⟨c1, c2, e1, h1, h2⟩ := mkT_rep a h ha
        obtain ⟨d1, d2, e2, h3, h4⟩ := mkT_rep b h2 hb
        exact ⟨c1 ++ d1, d2, by rw [e1, e2, List.append_assoc], ⟨c1, d1, rfl, h1, h3⟩, h4⟩
      · cases e
    · cases e
  | .arr n t, ps, cs, x, r, h, e => by
    unfold mkT at e
    split at e
    · split at e
      · split at e
        · cases e
          obtain ⟨c1, c2, e1, ⟨h1, h2⟩, h3⟩ := h
          exact ⟨c1, c2, e1, ⟨by rw [castL_length, h1]; assumption, castL_rep _ h2⟩, h3⟩
        · cases e
      · cases e
    · cases e
  | .sl t, ps, cs, x, r, h, e => by
    unfold mkT at e
    split at e
    · split at e
      · cases e
        obtain ⟨c1, c2, e1, ⟨v, e2, ⟨h1, _⟩, _⟩, h3⟩ := h
        exact ⟨c1, c2, e1, by rw [e2]; exact cast_sl _ h1, h3⟩
      · cases e
    · cases e
      obtain ⟨c1, c2, e1, ⟨v, e2, ⟨e3, _⟩, _⟩, h2⟩ := h
      exact ⟨c1, c2, e1, by rw [e2, e3]; exact ⟨none, 0, 0, rfl, rfl, Nat.le_refl _, fun hn => absurd hn (by simp)⟩, h2⟩
    · cases e

/-! ### Reading -/
def asAV (agg : Bool) (qs : List Piece) : Option AV :=
  bif agg then some (.agg qs) else match qs with
    | [.c x] => some (.one x)
    | _ => none

/-- What cells are, read as a value. -/
def repCs (X : Cx) (agg : Bool) (cs : List Value) (x : AV) : Prop := bif agg then repAV X (.agg cs.toArray) x else ∃ v, cs = [v] ∧ repAV X v x

theorem asAV_rep {X : Cx} {agg : Bool} {qs : List Piece} {x : AV} {cs : List Value} (h : asAV agg qs = some x) (hr : repPs X qs cs) : repCs X agg cs x := by
  cases agg with
  | true => simp only [asAV, cond_true, Option.some.injEq] at h; subst h; exact ⟨cs, rfl, hr⟩
  | false =>
    simp only [asAV, cond_false] at h
    split at h
    · cases h
      obtain ⟨c1, c2, e, ⟨v, e1, h1, h2⟩, h3⟩ := hr
      rw [show c2 = [] from h3, List.append_nil] at e
      exact ⟨v, by rw [e, e1], h1, h2⟩
    · cases h

def readAt (ps : List Piece) (o : Off) (n : Nat) (agg : Bool) : Option (Prop × AV) :=
  bif Nat.beq o.sz 0 then
    match splitP ps (o.base + o.sub) with
    | none => none
    | some (_, q) => match splitP q n with
      | some (r, _) => (match asAV agg r with | some x => some (True, x) | none => none)
      | none => match q with
        | .row m t l :: _ => bif agg && Nat.beq (n / t.size * t.size) n then some (n / t.size ≤ m, .agg [.row (n / t.size) t (l.take (n / t.size))]) else none
        | _ => none
  else match splitP ps o.base with
    | some (_, .row m t l :: _) =>
      bif Nat.beq o.sz t.size then
        bif Nat.ble (o.sub + n) t.size then
          match splitP (unT t (l.getD o.idx t.dflt)) o.sub with
          | some (_, q) => (match splitP q n with
            | some (r, _) => (match asAV agg r with | some x => some (o.idx < m, x) | none => none)
            | none => none)
          | none => none
        else bif agg && Nat.beq o.sub 0 && Nat.beq (n / t.size * t.size) n then some (o.idx + n / t.size ≤ m, .agg [.row (n / t.size) t ((l.drop o.idx).take (n / t.size))]) else none
      else none
    | _ => none

theorem beq_eq {a b : Nat} (h : Nat.beq a b = true) : a = b := Nat.eq_of_beq_eq_true h

theorem readAt_rep {X : Cx} {ps : List Piece} {o : Off} {n : Nat} {agg : Bool} {φ : Prop} {x : AV} {cs : List Value}
    (h : readAt ps o n agg = some (φ, x)) (hφ : φ) (hr : repPs X ps cs) :
    ∃ c1 c2 c3, cs = c1 ++ (c2 ++ c3) ∧ c1.length = o.val ∧ c2.length = n ∧ repCs X agg c2 x := by
  unfold readAt at h
  cases hz : Nat.beq o.sz 0 with
  | true =>
    have hz0 := beq_eq hz
    have hv : o.val = o.base + o.sub := by unfold Off.val; rw [hz0]; simp
    simp only [hz, cond_true] at h
    split at h
    · cases h
    · rename_i p q hs
      obtain ⟨e, hp⟩ := splitP_spec hs
      subst e
      obtain ⟨c1, c4, e1, h1, h4⟩ := repPs_append.1 hr
      split at h
      · rename_i r r2 hs2
        obtain ⟨e2, hp2⟩ := splitP_spec hs2
        subst e2
        obtain ⟨c2, c3, e3, h2, h3⟩ := repPs_append.1 h4
        split at h
        · rename_i y hy
          cases h
          exact ⟨c1, c2, c3, by rw [e1, e3], by rw [repPs_length h1, hp, hv], by rw [repPs_length h2, hp2], asAV_rep hy h2⟩
        · cases h
      · split at h
        · rename_i m t l rest _
          cases hb : (agg && Nat.beq (n / t.size * t.size) n) with
          | false => simp [hb] at h
          | true =>
            simp only [hb, cond_true, Option.some.injEq, Prod.mk.injEq] at h
            obtain ⟨e5, e6⟩ := h
            subst e5; subst e6
            simp only [Bool.and_eq_true] at hb
            obtain ⟨ha, hn⟩ := hb
            have hn := beq_eq hn
            obtain ⟨d1, d2, e7, ⟨h7, h8⟩, h9⟩ := h4
            obtain ⟨f1, f2, f3, e10, hf1, hf2, h11, _, _⟩ := rowOf_part h8 0 (n / t.size) (by omega)
            simp at hf1
            subst hf1
            refine ⟨c1, f2, f3 ++ d2, by rw [e1, e7, e10]; simp, by rw [repPs_length h1, hp, hv], by rw [hf2, hn], ?_⟩
            subst ha
            refine ⟨f2, rfl, f2, [], by simp, ⟨?_, by simpa using h11⟩, rfl⟩
            simp; omega
        · cases h
  | false =>
    simp only [hz, cond_false] at h
    split at h
    · rename_i p m t l rest hs
      obtain ⟨e, hp⟩ := splitP_spec hs
      subst e
      obtain ⟨c1, c4, e1, h1, d1, d2, e2, ⟨hl, hrow⟩, h2⟩ := repPs_append.1 hr
      cases hsz : Nat.beq o.sz t.size with
      | false => simp [hsz] at h
      | true =>
        have hsz0 := beq_eq hsz
        simp only [hsz, cond_true] at h
        cases hle : Nat.ble (o.sub + n) t.size with
        | true =>
          have hle0 := Nat.le_of_ble_eq_true hle
          simp only [hle, cond_true] at h
          split at h
          · rename_i p3 q hs3
            split at h
            · rename_i r r3 hs4
              split at h
              · rename_i y hy
                cases h
                obtain ⟨f1, f2, f3, e3, hf1, h4, _, _⟩ := rowOf_at hrow (i := o.idx) (by omega)
                have h5 := repPs_unT t _ h4
                obtain ⟨e6, hp6⟩ := splitP_spec hs3
                rw [e6] at h5
                obtain ⟨g1, g2, e7, h7, h8⟩ := repPs_append.1 h5
                obtain ⟨e9, hp9⟩ := splitP_spec hs4
                rw [e9] at h8
                obtain ⟨k1, k2, e10, h10, h11⟩ := repPs_append.1 h8
                refine ⟨c1 ++ f1 ++ g1, k1, k2 ++ f3 ++ d2, by rw [e1, e2, e3, e7, e10]; simp [List.append_assoc], ?_, by rw [repPs_length h10, hp9], asAV_rep hy h10⟩
                simp only [List.length_append, repPs_length h1, hp, hf1, repPs_length h7, hp6, Off.val, hsz0]
              · cases h
            · cases h
          · cases h
        | false =>
          simp only [hle, cond_false] at h
          cases hb : (agg && Nat.beq o.sub 0 && Nat.beq (n / t.size * t.size) n) with
          | false => simp [hb] at h
          | true =>
            simp only [hb, cond_true, Option.some.injEq, Prod.mk.injEq] at h
            obtain ⟨e5, e6⟩ := h
            subst e5; subst e6
            simp only [Bool.and_eq_true] at hb
            obtain ⟨⟨ha, hs0⟩, hn⟩ := hb
            have hn := beq_eq hn
            have hs0 := beq_eq hs0
            obtain ⟨f1, f2, f3, e10, hf1, hf2, h11, _, _⟩ := rowOf_part hrow o.idx (n / t.size) (by omega)
            refine ⟨c1 ++ f1, f2, f3 ++ d2, by rw [e1, e2, e10]; simp, ?_, by rw [hf2, hn], ?_⟩
            · simp only [List.length_append, repPs_length h1, hp, hf1, Off.val, hsz0, hs0, Nat.add_zero]
            · subst ha
              refine ⟨f2, rfl, f2, [], by simp, ⟨?_, h11⟩, rfl⟩
              simp; omega
    · cases h

/-! ### Writing -/
def writeAt (ps : List Piece) (o : Off) (n : Nat) (new : List Piece) : Option (Prop × List Piece) :=
  bif Nat.beq o.sz 0 then
    match splitP ps (o.base + o.sub) with
    | none => none
    | some (p, q) => match splitP q n with
      | some (_, r) => some (True, p ++ (new ++ r))
      | none => none
  else match splitP ps o.base with
    | some (p, .row m t l :: r) =>
      bif Nat.beq o.sz t.size then
        match splitP (unT t (l.getD o.idx t.dflt)) o.sub with
        | some (e1, q) => (match splitP q n with
          | some (_, e3) => (match mkT t (e1 ++ (new ++ e3)) with
            | some (x, []) => some (o.idx < m, p ++ (.row m t (l.set o.idx x) :: r))
            | _ => none)
          | none => none)
        | none => none
      else none
    | _ => none

theorem writeAt_rep {X : Cx} {ps : List Piece} {o : Off} {n : Nat} {new ps' : List Piece} {φ : Prop} {cs ns : List Value}
    (h : writeAt ps o n new = some (φ, ps')) (hφ : φ) (hr : repPs X ps cs) (hn : repPs X new ns) (hl : ns.length = n) :
    ∃ c1 c2 c3, cs = c1 ++ (c2 ++ c3) ∧ c1.length = o.val ∧ c2.length = n ∧ repPs X ps' (c1 ++ (ns ++ c3)) := by
  unfold writeAt at h
  cases hz : Nat.beq o.sz 0 with
  | true =>
    have hz0 := beq_eq hz
    have hv : o.val = o.base + o.sub := by unfold Off.val; rw [hz0]; simp
    simp only [hz, cond_true] at h
    split at h
    · cases h
    · rename_i p q hs
      obtain ⟨e, hp⟩ := splitP_spec hs
      subst e
      obtain ⟨c1, c4, e1, h1, h4⟩ := repPs_append.1 hr
      split at h
      · rename_i r r2 hs2
        obtain ⟨e2, hp2⟩ := splitP_spec hs2
        subst e2
        obtain ⟨c2, c3, e3, h2, h3⟩ := repPs_append.1 h4
        cases h
        exact ⟨c1, c2, c3, by rw [e1, e3], by rw [repPs_length h1, hp, hv], by rw [repPs_length h2, hp2],
          repPs_append.2 ⟨c1, ns ++ c3, rfl, h1, repPs_append.2 ⟨ns, c3, rfl, hn, h3⟩⟩⟩
      · cases h
  | false =>
    simp only [hz, cond_false] at h
    split at h
    · rename_i p m t l rest hs
      obtain ⟨e, hp⟩ := splitP_spec hs
      subst e
      obtain ⟨c1, c4, e1, h1, d1, d2, e2, ⟨hlen, hrow⟩, h2⟩ := repPs_append.1 hr
      cases hsz : Nat.beq o.sz t.size with
      | false => simp [hsz] at h
      | true =>
        have hsz0 := beq_eq hsz
        simp only [hsz, cond_true] at h
        split at h
        · rename_i p3 q hs3
          split at h
          · rename_i r r3 hs4
            split at h
            · rename_i x hm
              cases h
              obtain ⟨f1, f2, f3, e3, hf1, h4, hA, hB⟩ := rowOf_at hrow (i := o.idx) (by omega)
              have h5 := repPs_unT t _ h4
              obtain ⟨e6, hp6⟩ := splitP_spec hs3
              rw [e6] at h5
              obtain ⟨g1, g2, e7, h7, h8⟩ := repPs_append.1 h5
              obtain ⟨e9, hp9⟩ := splitP_spec hs4
              rw [e9] at h8
              obtain ⟨k1, k2, e10, h10, h11⟩ := repPs_append.1 h8
              have h12 : repPs X (p3 ++ (new ++ r3)) (g1 ++ (ns ++ k2)) := repPs_append.2 ⟨g1, ns ++ k2, rfl, h7, repPs_append.2 ⟨ns, k2, rfl, hn, h11⟩⟩
              obtain ⟨m1, m2, e13, h13, h14⟩ := mkT_rep t h12 hm
              rw [show m2 = [] from h14, List.append_nil] at e13
              have h15 := rowOf_set (l := l) (i := o.idx) (by omega) hA h13 hB
              refine ⟨c1 ++ f1 ++ g1, k1, k2 ++ f3 ++ d2, by rw [e1, e2, e3, e7, e10]; simp [List.append_assoc], ?_, by rw [repPs_length h10, hp9], ?_⟩
              · simp only [List.length_append, repPs_length h1, hp, hf1, repPs_length h7, hp6, Off.val, hsz0]
              · refine repPs_append.2 ⟨c1, f1 ++ (m1 ++ f3) ++ d2, ?_, h1, f1 ++ (m1 ++ f3), d2, rfl, ⟨by simpa using hlen, h15⟩, h2⟩
                rw [← e13]; simp [List.append_assoc]
            · cases h
          · cases h
        · cases h
    · cases h

end Go.Proofs.YtllannmegnklmaaE
