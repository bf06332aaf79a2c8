/- Slices read as lists; the other operations that turn nothing in memory. -/
import Derived.Test.YtllannmegnklmaaE4
import Derived.Laws.BytesArg
set_option linter.unusedVariables false
set_option linter.unusedSimpArgs false
set_option linter.unnecessarySimpa false
namespace Go.Proofs.YtllannmegnklmaaE
open Go

/-- A row inside a box, from its first cell on. -/
def rowAt? (bs : List Box) (id base : Nat) : Option (Nat × (t : Ty) × List t.T) := match bs[id]? with
  | some (.ex _ ps _) => match splitP ps base with
    | some (_, .row m t l :: _) => some (m, ⟨t, l⟩)
    | _ => none
  | some (.gro _ t l _) => bif Nat.beq base 0 then some (l.length, ⟨t, l⟩) else none
  | some (.fix _ t l _) => bif Nat.beq base 0 then some (l.length, ⟨t, l⟩) else none
  | _ => none

/-- What a slice holds, as a list. 'full': the whole row. -/
def viewS (t : Ty) (bs : List Box) (full : Bool) : Tm → Option (Prop × List t.T)
  | .v (.one (.fs u l _)) => (match Ty.eq? u t with | some h => some (True, castL h.down l) | none => none)
  | .v (.one (.sc (.slice none 0 0))) => some (True, [])
  | .v (.one (.os id base lo esz len _)) => match rowAt? bs id base with
    | some (m, ⟨u, l⟩) => (match Ty.eq? u t with
      | some h => bif Nat.beq esz u.size then
          bif full then some (lo = 0 ∧ len = l.length, castL h.down l) else some (lo + len ≤ m, castL h.down ((l.drop lo).take len))
        else none
      | none => none)
    | none => none
  | _ => none

/-- What a slice is. -/
def IsView (X : Cx) (t : Ty) (l : List t.T) (v : Value) : Prop :=
  ∃ a n c, v = .slice a n c ∧ l.length = n ∧ n ≤ c ∧ (0 < n → ∃ p ds, a = some p ∧ p.spot = none ∧ rowOf (repT X t) l ds ∧ ∀ j u, ds[j]? = some u → X.w.cell? (p.add j) = some u)

theorem IsView.cast {X : Cx} {t u : Ty} (h : t = u) {l : List t.T} {v : Value} (hv : IsView X t l v) : IsView X u (castL h l) v := by subst h; exact hv

section
variable {E : TypeId} {G : Globs} {Z : Nat → Prop} {β : Nat → Option (Nat × Nat)} {w : World} {bs : List Box}

theorem rowAt_rep (h : RelB E G Z β w bs) {id base m : Nat} {t : Ty} {l : List t.T} (hr : rowAt? bs id base = some (m, ⟨t, l⟩)) :
    bAl bs id = true ∧ l.length = m ∧ ((l = [] ∧ m = 0) ∨ ∃ b cs ty fr c1 c2 c3, β id = some (b, cs.length) ∧ w.heap[b]? = some (.cells cs.toArray ty fr) ∧ cs = c1 ++ (c2 ++ c3) ∧ c1.length = base ∧ rowOf (repT (mkX E Z β w bs) t) l c2) := by
  unfold rowAt? at hr
  split at hr
  · rename_i ro ps ty hb
    split at hr
    · rename_i p m' t' l' rest hs
      cases hr
      obtain ⟨e, hp⟩ := splitP_spec hs
      subst e
      obtain ⟨b, cs, fr, h1, h2, h3, h4⟩ := h.box id _ hb
      obtain ⟨c1, c4, e1, h5, c2, c3, e2, ⟨h6, h7⟩, h8⟩ := repPs_append.1 h4
      exact ⟨by simp [bAl, hb, Box.alive], h6, .inr ⟨b, cs, ty, fr, c1, c2, c3, h1, h2, by rw [e1, e2], by rw [repPs_length h5, hp], h7⟩⟩
    · cases hr
  · rename_i ro t' l' ty hb
    cases hz : Nat.beq base 0 with
    | false => simp [hz] at hr
    | true =>
      simp only [hz, cond_true, Option.some.injEq] at hr
      cases hr
      refine ⟨by simp [bAl, hb, Box.alive], rfl, ?_⟩
      rcases h.box id _ hb with ⟨h1, h2⟩ | ⟨b, cs, fr, c1, c2, h1, h2, h3, h4, h5, h6⟩
      · exact .inl ⟨h2, by rw [h2]; rfl⟩
      · exact .inr ⟨b, cs, ty, fr, [], c1, c2, h1, h2, h4, (beq_eq hz).symm, h5⟩
  · rename_i ro t' l' ty hb
    cases hz : Nat.beq base 0 with
    | false => simp [hz] at hr
    | true =>
      simp only [hz, cond_true, Option.some.injEq] at hr
      cases hr
      refine ⟨by simp [bAl, hb, Box.alive], rfl, ?_⟩
      rcases h.box id _ hb with ⟨h1, h2⟩ | ⟨b, cs, fr, c1, c2, h1, h2, h3, h4, h5, h6⟩
      · exact .inl ⟨h2, by rw [h2]; rfl⟩
      · exact .inr ⟨b, cs, ty, fr, [], c1, c2, h1, h2, h4, (beq_eq hz).symm, h5⟩
  · cases hr

theorem viewS_rep (h : RelB E G Z β w bs) {t : Ty} {full : Bool} {x : Tm} {φ : Prop} {l : List t.T} {v : Value} (hx : viewS t bs full x = some (φ, l)) (hφ : φ) (hv : repTm (mkX E Z β w bs) v x) : IsView (mkX E Z β w bs) t l v := by
  unfold viewS at hx
  split at hx
  · rename_i u l' tg
    split at hx
    · rename_i hh _
      cases hx
      obtain ⟨⟨⟨a, n, c, e, h1, h2, h3⟩, _⟩, _⟩ := hv
      refine IsView.cast hh.down ?_
      cases e
      exact ⟨a, n, c, rfl, h1, h2, fun hn => by
        obtain ⟨p, ds, ea, hr, hp⟩ := h3 hn
        exact ⟨p, ds, ea, hp.1, hr, hp.2.2⟩⟩
    · cases hx
  · cases hx
    obtain rfl := sc_rep hv rfl
    exact ⟨none, 0, 0, rfl, rfl, Nat.le_refl _, fun hn => absurd hn (by simp)⟩
  · rename_i id base lo esz len cap
    split at hx
    · rename_i m u l' hr
      split at hx
      · rename_i hh _
        cases hz : Nat.beq esz u.size with
        | false => simp [hz] at hx
        | true =>
          have hz0 := beq_eq hz
          simp only [hz, cond_true] at hx
          obtain ⟨ha, hl, hc⟩ := rowAt_rep h hr
          obtain ⟨⟨hn, hv⟩, _⟩ := hv
          obtain ⟨a, c, rfl, hlc, _, hcc⟩ := hv ha
          -- the list that is seen
          have key : ∀ (k n : Nat) (l2 : List u.T), k = lo → n = len → k + n ≤ l'.length → l2 = (l'.drop k).take n → IsView (mkX E Z β w bs) u l2 (.slice a len c) := by
            intro k n l2 hk hn2 hkn e2
            subst hk; subst hn2; subst e2
            refine ⟨a, n, c, rfl, by simp; omega, hlc, fun hpos => ?_⟩
            obtain ⟨b, z, hb, rfl, _⟩ := hcc (by omega)
            rcases hc with ⟨e, em⟩ | ⟨b', cs, ty, fr, c1, c2, c3, hb', hheap, e1, hc1, hrow⟩
            · subst e; simp at hkn; omega
            · have : b = b' := by have := hb.symm.trans hb'; cases this; rfl
              subst this
              obtain ⟨f1, f2, f3, e3, hf1, hf2, h11, _, _⟩ := rowOf_part hrow k n hkn
              refine ⟨_, f2, rfl, rfl, h11, fun j v hj => ?_⟩
              have e4 : cs = (c1 ++ f1) ++ (f2 ++ (f3 ++ c3)) := by rw [e1, e3]; simp [List.append_assoc]
              rw [e4] at hheap
              exact mid_cell (w := w) hheap (by rw [List.length_append, hc1, hf1, hz0]) j v hj
          cases full with
          | true =>
            simp only [cond_true, Option.some.injEq, Prod.mk.injEq] at hx
            obtain ⟨e1, e2⟩ := hx
            subst e1; subst e2
            obtain ⟨h1, h2⟩ := hφ
            exact IsView.cast _ (key 0 l'.length l' h1.symm h2.symm (by omega) (by simp))
          | false =>
            simp only [cond_false, Option.some.injEq, Prod.mk.injEq] at hx
            obtain ⟨e1, e2⟩ := hx
            subst e1; subst e2
            exact IsView.cast _ (key lo len _ rfl rfl (by omega) rfl)
      · cases hx
    · cases hx
  · cases hx
end

/-! ### Single operations -/
def qField (L : List (Nat × TI)) (s : TypeId) (x : Tm) (f : Nat) : Option (Prop × Tm) := match look L s with
  | some ⟨_, _, _, .struct fs, _, _⟩ => match fs[f]? with
    | some (off, ft) => match look L ft with
      | some fi => match x with
        | .v (.agg ps) => match splitP ps off with
          | some (_, q) => match splitP q fi.cells with
            | some (r, _) => (match asAV fi.agg r with | some y => some (True, .v y) | none => none)
            | none => none
          | none => none
        | _ => none
      | none => none
    | none => none
  | _ => none

theorem part_run {P : Program} {t : TypeId} {i : TI} (hT : TOk P t i) {w : World} {c1 c2 c3 : List Value} {off : Nat} (h1 : c1.length = off) (h2 : c2.length = i.cells) {X : Cx} {y : AV} (hy : repCs X i.agg c2 y) :
    ∃ u, (part t (c1 ++ (c2 ++ c3)).toArray off).run P w = .ok u w ∧ repAV X u y := by
  have ha := hT.isAgg w
  have hs := hT.size w
  cases hg : i.agg with
  | true =>
    rw [hg] at ha hy
    refine ⟨.agg c2.toArray, ?_, hy⟩
    have e : (c1 ++ (c2 ++ c3)).toArray.extract off (off + i.cells) = c2.toArray := by
      rw [List.extract_toArray]
      congr 1
      simp only [List.extract_eq_take_drop]
      rw [← h1, List.drop_left, show c1.length + i.cells - c1.length = c2.length by omega, List.take_left]
    unfold part
    rw [Sem.run_bind, ha]
    simp only [Result.andThen_ok, if_true, Sem.run_bind, hs, e]
    rfl
  | false =>
    rw [hg] at ha hy
    obtain ⟨v, e, hv⟩ := hy
    refine ⟨v, ?_, hv⟩
    have e2 : (c1 ++ (c2 ++ c3)).toArray[off]? = some v := by
      rw [List.getElem?_toArray, List.getElem?_append_right (by omega), e, h1]; simp
    unfold part
    rw [Sem.run_bind, ha]
    simp only [Result.andThen_ok, e2]
    rfl

theorem qField_run {C : Cfg} (hC : COk C) {w : World} {X : Cx} {s : TypeId} {x : Tm} {f : Nat} {φ : Prop} {tm : Tm} {v : Value} (h : qField C.L s x f = some (φ, tm)) (hv : repTm X v x) :
    ∃ u, (Instr.field s v f).run C.P w = .ok u w ∧ repTm X u tm := by
  unfold qField at h
  split at h
  · rename_i n1 n2 n3 fs n4 n5 hl
    obtain ⟨d, hu, hs⟩ := (hC.at hl).under
    obtain ⟨fl, rfl⟩ : ∃ fl, d = .struct fl := by cases d <;> simp [skel] at hs; exact ⟨_, rfl⟩
    simp only [skel, Sk.struct.injEq] at hs
    split at h
    · rename_i off ft hf
      rw [← hs, List.getElem?_map] at hf
      cases hq : fl.toList[f]? with
      | none => simp [hq] at hf
      | some g =>
        simp [hq] at hf
        obtain ⟨ho, ht⟩ := hf
        have hq2 : fl[f]? = some g := by simpa using hq
        split at h
        · rename_i fi hfi
          split at h
          · rename_i ps
            split at h
            · rename_i p q hs1
              split at h
              · rename_i r r2 hs2
                split at h
                · rename_i y hy
                  cases h
                  obtain ⟨cs, rfl, hr⟩ := hv
                  obtain ⟨e1, hp1⟩ := splitP_spec hs1
                  obtain ⟨e2, hp2⟩ := splitP_spec hs2
                  subst e1; subst e2
                  obtain ⟨c1, c4, e3, h1, h4⟩ := repPs_append.1 hr
                  obtain ⟨c2, c3, e4, h2, h3⟩ := repPs_append.1 h4
                  subst e3; subst e4
                  obtain ⟨u, hu1, hu2⟩ := part_run (hC.at hfi) (w := w) (c1 := c1) (c2 := c2) (c3 := c3) (off := off) (by rw [repPs_length h1, hp1]) (by rw [repPs_length h2, hp2]) (asAV_rep hy h2)
                  refine ⟨u, ?_, hu2⟩
                  unfold Instr.field
                  rw [Sem.run_bind, run_underlying hu]
                  simp only [Result.andThen_ok, hq2, asAgg, ho, ht, Sem.run_bind, Sem.run_pure]
                  exact hu1
                · cases h
              · cases h
            · cases h
          · cases h
        · cases h
    · cases h
  · cases h

def bt (s : ByteArray) (i : Int) : Int := ((s.data.toList.getD i.toNat 0).toNat : Int)

def qIndex (L : List (Nat × TI)) (t : TypeId) (x : Tm) (i : Int) : Option (Prop × Tm) := match look L t with
  | some ⟨_, _, _, .array n e, _, _⟩ => match look L e with
    | some ei => match x with
      | .v (.agg [.row m u l]) => bif Nat.beq m n && Nat.beq u.size ei.cells then (match asAV ei.agg (unT u (l.getD i.toNat u.dflt)) with | some y => some (0 ≤ i ∧ i < n, .v y) | none => none) else none
      | _ => none
    | none => none
  | some ⟨_, _, _, .str, _, _⟩ => match x with
    | .v (.one (.sc (.string s))) => some (0 ≤ i ∧ i < s.size, .v (.one (.sc (.int .u8 (bt s i)))))
    | _ => none
  | _ => none

theorem qIndex_run {C : Cfg} (hC : COk C) {w : World} {X : Cx} {t : TypeId} {x : Tm} {k : IntKind} {i : Int} {φ : Prop} {tm : Tm} {v : Value} (h : qIndex C.L t x i = some (φ, tm)) (hφ : φ) (hv : repTm X v x) :
    ∃ u, (Instr.index t v (.int k i)).run C.P w = .ok u w ∧ repTm X u tm := by
  unfold qIndex at h
  split at h
  · rename_i n1 n2 n3 n e n4 n5 hl
    obtain ⟨d, hu, hs⟩ := (hC.at hl).under
    obtain ⟨rfl⟩ : d = .array n e := by cases d <;> simp_all [skel]
    split at h
    · rename_i ei he
      have hsz := (hC.at he).size w
      split at h
      · rename_i m u l
        cases hz : (Nat.beq m n && Nat.beq u.size ei.cells) with
        | false => simp [hz] at h
        | true =>
          simp only [hz, cond_true] at h
          rw [Bool.and_eq_true] at hz
          have hm := beq_eq hz.1
          have hu0 := beq_eq hz.2
          split at h
          · rename_i y hy
            cases h
            obtain ⟨cs, rfl, c0, c9, e0, ⟨hlen, hrow⟩, e9⟩ := hv
            rw [show c9 = [] from e9, List.append_nil] at e0
            subst e0
            obtain ⟨h0, h1⟩ := hφ
            obtain ⟨c1, c2, c3, e4, hc1, hx, _, _⟩ := rowOf_at hrow (i := i.toNat) (by omega)
            subst e4
            obtain ⟨v', hv1, hv2⟩ := part_run (hC.at he) (w := w) (c1 := c1) (c2 := c2) (c3 := c3) (off := i.toNat * ei.cells) (by rw [hc1, hu0]) (by rw [repT_length X u _ _ hx, hu0]) (asAV_rep hy (repPs_unT u _ hx))
            refine ⟨v', ?_, hv2⟩
            unfold Instr.index
            simp only [asIntOf, Sem.run_bind, Sem.run_pure, Result.andThen_ok, run_underlying hu, h0, h1, and_self, if_true, hsz]
            exact hv1
          · cases h
      · cases h
    · cases h
  · rename_i n1 n2 n3 n4 n5 hl
    obtain ⟨d, hu, hs⟩ := (hC.at hl).under
    obtain ⟨rfl⟩ : d = .string := by cases d <;> simp_all [skel]
    split at h
    · rename_i s
      cases h
      obtain rfl := sc_rep hv rfl
      obtain ⟨h0, h1⟩ := hφ
      refine ⟨.int .u8 (bt s i), ?_, ⟨rfl, rfl⟩, rfl⟩
      have hlt : i.toNat < s.size := by omega
      have e : s[i.toNat]? = some (s.data.toList.getD i.toNat 0) := by
        have hl2 : i.toNat < s.data.toList.length := by rw [Array.length_toList]; exact hlt
        rw [getElem?_pos s i.toNat hlt, List.getD_eq_getElem?_getD, List.getElem?_eq_getElem hl2]
        rfl
      unfold Instr.index
      simp only [asIntOf, Sem.run_bind, Sem.run_pure, Result.andThen_ok, run_underlying hu, h0, if_true, e]
      rfl
    · cases h
  · cases h

/-! Cutting. -/
def inR (x : Option Int) (y : Nat) : Prop := match x with
  | none => True
  | some i => 0 ≤ i ∧ i ≤ (y : Int)
def toR (x : Option Int) (d : Nat) : Nat := match x with
  | none => d
  | some i => i.toNat

theorem toR_none (d : Nat) : toR none d = d := rfl
theorem toR_some (i : Int) (d : Nat) : toR (some i) d = i.toNat := rfl

def valI (x : Option Int) (k : IntKind) : Option Value := x.map (Value.int k)

theorem run_bound {P : Program} {w : World} {k : IntKind} {i : Int} {y : Nat} {code : BoundsCode} (h : 0 ≤ i ∧ i ≤ (y : Int)) : (Instr.sliceBound (.int k i) y code).run P w = .ok i.toNat w := by
  simp [Instr.sliceBound, asIntOf, h.1, h.2]

theorem run_bounds {P : Program} {w : World} {isS : Bool} {len cap : Nat} {lo hi mx : Option Int} {k1 k2 k3 : IntKind} (h3 : inR mx cap) (h2 : inR hi (toR mx cap)) (h1 : inR lo (toR hi len)) (h0 : mx.isSome = true → hi.isSome = true) :
    (Instr.sliceBounds isS len cap (valI lo k1) (valI hi k2) (valI mx k3)).run P w = .ok (toR lo 0, toR hi len, toR mx cap) w := by
  unfold Instr.sliceBounds
  cases mx with
  | none =>
    cases hi with
    | none =>
      cases lo with
      | none => simp [valI, toR]
      | some i => simp [valI, toR, run_bound (show 0 ≤ i ∧ i ≤ (len : Int) from h1)]
    | some j =>
      have hj := run_bound (P := P) (w := w) (k := k2) (code := if isS then .sliceAcap else .sliceAlen) (show 0 ≤ j ∧ j ≤ (cap : Int) from h2)
      cases lo with
      | none => simp [valI, toR, hj]
      | some i => simp [valI, toR, hj, run_bound (show 0 ≤ i ∧ i ≤ (j.toNat : Int) from h1)]
  | some m =>
    have hm := run_bound (P := P) (w := w) (k := k3) (code := if isS then .slice3Acap else .slice3Alen) (show 0 ≤ m ∧ m ≤ (cap : Int) from h3)
    cases hi with
    | none => simp at h0
    | some j =>
      have hj := run_bound (P := P) (w := w) (k := k2) (code := .slice3B) (show 0 ≤ j ∧ j ≤ (m.toNat : Int) from h2)
      cases lo with
      | none => simp [valI, toR, hm, hj]
      | some i => simp [valI, toR, hm, hj, run_bound (show 0 ≤ i ∧ i ≤ (j.toNat : Int) from h1)]

/-- 'tg': the last two bounds are one. -/
def qSlice (L : List (Nat × TI)) (t : TypeId) (x : Tm) (lo hi mx : Option Int) (tg : Bool) : Option (Prop × Tm) := match look L t with
  | some ⟨_, _, _, .str, _, _⟩ => match x with
    | .v (.one (.sc (.string s))) => bif mx.isSome then none else some (inR hi s.size ∧ inR lo (toR hi s.size), .v (.one (.sc (.string (s.extract (toR lo 0) (toR hi s.size))))))
    | _ => none
  | some ⟨_, _, _, .array n e, _, _⟩ => match look L e, x with
    | some ei, .v (.one (.ptr id o)) => bif Nat.beq o.sz 0 then
        some (inR mx n ∧ inR hi (toR mx n) ∧ inR lo (toR hi n) ∧ (mx.isSome = true → hi.isSome = true), .v (.one (.os id (o.base + o.sub) (toR lo 0) ei.cells (toR hi n - toR lo 0) (some (toR mx n - toR lo 0))))) else none
    | _, _ => none
  | some ⟨_, _, _, .slice e, _, _⟩ => match look L e, x with
    | some ei, .v (.one (.os id base l0 esz len cap)) => bif Nat.beq esz ei.cells then match mx with
        | none => some (inR hi len ∧ inR lo (toR hi len), .v (.one (.os id base (l0 + toR lo 0) esz (toR hi len - toR lo 0) (cap.map fun c => c - toR lo 0))))
        | some m => some (0 ≤ m ∧ m ≤ (len : Int) ∧ inR hi m.toNat ∧ inR lo (toR hi len) ∧ hi.isSome = true, .v (.one (.os id base (l0 + toR lo 0) esz (toR hi len - toR lo 0) (some (m.toNat - toR lo 0)))))
        else none
    | some ei, .v (.one (.fs u l t0)) => bif Nat.beq u.size ei.cells then match mx with
        | none => match lo with
          | none => some (inR hi l.length, .v (.one (.fs u (match hi with | none => l | some h => l.take h.toNat) (t0 && hi.isNone))))
          | some i => some (inR hi l.length ∧ inR lo (toR hi l.length), .v (.one (.fs u (match hi with | none => l.drop i.toNat | some h => (l.take h.toNat).drop i.toNat) (t0 && hi.isNone))))
        | some m => some (hi = some m ∧ 0 ≤ m ∧ m ≤ (l.length : Int) ∧ inR lo m.toNat, .v (.one (.fs u ((l.take m.toNat).drop (toR lo 0)) true)))
        else none
    | some ei, .v (.one (.sc (.slice none 0 0))) => (match mx with
      | none => some (inR hi 0 ∧ inR lo (toR hi 0), .v (.one (.sc (.slice none 0 0))))
      | some _ => none)
    | _, _ => none
  | _ => none

theorem slice_view {X : Cx} {t : Ty} {l l2 : List t.T} {a : Option Addr} {n c i h m : Nat} {tg : Bool} (hv : repT X (.sl t) l [.slice a n c]) (hih : i ≤ h) (hhn : h ≤ n) (hhm : h ≤ m) (hmc : m ≤ c) (e : l2 = (l.take h).drop i) (htg : tg = true → m = h) :
    repC X (.slice (if m = i then a else a.map (·.add (i * t.size))) (h - i) (m - i)) (.fs t l2 tg) := by
  subst e
  obtain ⟨a', n', c', e, hl, hnc, hr⟩ := hv
  cases e
  refine ⟨⟨_, h - i, m - i, rfl, by simp [hl]; omega, by omega, fun hpos => ?_⟩, fun ht a2 n2 c2 e2 => by cases e2; rw [htg ht]⟩
  obtain ⟨p, ds, rfl, hrow, hsp, hZ, hc⟩ := hr (by omega)
  obtain ⟨f1, f2, f3, e3, hf1, hf2, h11, _, _⟩ := rowOf_part hrow i (h - i) (by omega)
  refine ⟨p.add (i * t.size), f2, by rw [if_neg (by omega)]; rfl, ?_, add_spot p hsp _, by rw [add_block]; exact hZ, fun j v hj => ?_⟩
  · rw [List.drop_take]; exact h11
  · rw [add_add p hsp]
    refine hc _ _ ?_
    have hlt := (List.getElem?_eq_some_iff.1 hj).1
    rw [e3, List.getElem?_append_right (by omega), List.getElem?_append_left (by omega), hf1, show i * t.size + j - i * t.size = j by omega]
    exact hj

theorem qSlice_run {C : Cfg} (hC : COk C) {w : World} {X : Cx} {t : TypeId} {x : Tm} {lo hi mx : Option Int} {k1 k2 k3 : IntKind} {tg : Bool} {φ : Prop} {tm : Tm} {v : Value} (h : qSlice C.L t x lo hi mx tg = some (φ, tm)) (hφ : φ) (hv : repTm X v x)
    (hal : ∀ id, Tm.id1 x = some id → X.al id = true) (hbd : ∀ id b z, Tm.id1 x = some id → X.β id = some (b, z) → ∀ o, x = .v (.one (.ptr id o)) → ∀ n e ei, look C.L e = some ei → (look C.L t).map TI.sk = some (.array n e) → o.base + o.sub + n * ei.cells ≤ z) :
    ∃ u, (Instr.sliceAt t v (valI lo k1) (valI hi k2) (valI mx k3)).run C.P w = .ok u w ∧ repTm X u tm := by
  unfold qSlice at h
  split at h
  · rename_i n1 n2 n3 n4 n5 hl
    obtain ⟨d, hu, hs⟩ := (hC.at hl).under
    obtain ⟨rfl⟩ : d = .string := by cases d <;> simp_all [skel]
    split at h
    · rename_i s
      obtain rfl := sc_rep hv rfl
      cases mx with
      | some m => simp at h
      | none =>
        simp only [Option.isSome_none, cond_false, Option.some.injEq, Prod.mk.injEq] at h
        obtain ⟨e1, e2⟩ := h
        subst e1; subst e2
        have hb := run_bounds (P := C.P) (w := w) (isS := false) (len := s.size) (cap := s.size) (k1 := k1) (k2 := k2) (k3 := k3) (mx := none) trivial hφ.1 hφ.2 (by simp)
        refine ⟨_, ?_, ⟨rfl, rfl⟩, rfl⟩
        simp only [valI, Option.map_none] at hb ⊢
        simp [Instr.sliceAt, Instr.slice, run_underlying hu, hb]
    · cases h
  · rename_i n1 n2 n3 n e n4 n5 hl
    obtain ⟨d, hu, hs⟩ := (hC.at hl).under
    obtain ⟨rfl⟩ : d = .array n e := by cases d <;> simp_all [skel]
    split at h
    · rename_i ei id o he
      cases hz : Nat.beq o.sz 0 with
      | false => simp [hz] at h
      | true =>
        have hz0 := beq_eq hz
        simp only [hz, cond_true, Option.some.injEq, Prod.mk.injEq] at h
        obtain ⟨e1, e2⟩ := h
        subst e1; subst e2
        obtain ⟨p3, p2, p1, p0⟩ := hφ
        obtain ⟨hn, b, z, hb, rfl⟩ := ptr_rep hv (hal id rfl)
        have hroom := hbd id b z rfl hb o rfl n e ei he (by rw [hl]; rfl)
        have hbs := run_bounds (P := C.P) (w := w) (isS := false) (len := n) (cap := n) (k1 := k1) (k2 := k2) (k3 := k3) p3 p2 p1 p0
        have hsz := (hC.at he).size w
        have hv0 : o.val = o.base + o.sub := by unfold Off.val; rw [hz0]; simp
        have hm : toR mx n ≤ n := by
          cases mx with
          | none => exact Nat.le_refl _
          | some m => simp only [toR]; have := p3.2; have := p3.1; omega
        have hh : toR hi n ≤ toR mx n := by
          cases hi with
          | none => cases mx with
            | none => exact Nat.le_refl _
            | some m => simp at p0
          | some j => simp only [toR]; have := p2.2; have := p2.1; simp only [toR] at *; omega
        have hlo : toR lo 0 ≤ toR hi n := by
          cases lo with
          | none => exact Nat.zero_le _
          | some j => simp only [toR]; have := p1.2; have := p1.1; simp only [toR] at *; omega
        refine ⟨.slice (some (if toR mx n = toR lo 0 then ⟨b, o.val, none⟩ else (⟨b, o.val, none⟩ : Addr).add (toR lo 0 * ei.cells))) (toR hi n - toR lo 0) (toR mx n - toR lo 0), ?_, ⟨hn, fun _ => ⟨_, _, rfl, by omega, by simp, fun hc => ⟨b, z, hb, ?_, ?_⟩⟩⟩, rfl⟩
        · simp [Instr.sliceAt, run_underlying hu, Instr.sureAddr, hbs, hsz]
        · rw [if_neg (by omega), lookup_add, hv0]
        · have : toR lo 0 * ei.cells + (toR mx n - toR lo 0) * ei.cells ≤ n * ei.cells := by
            rw [← Nat.add_mul]; exact Nat.mul_le_mul_right _ (by omega)
          omega
    · cases h
  · rename_i n1 n2 n3 e n4 n5 hl
    obtain ⟨d, hu, hs⟩ := (hC.at hl).under
    obtain ⟨rfl⟩ : d = .slice e := by cases d <;> simp_all [skel]
    split at h
    · rename_i ei id base l0 esz len cap he
      have hsz := (hC.at he).size w
      cases hz : Nat.beq esz ei.cells with
      | false => simp [hz] at h
      | true =>
        have hz0 := beq_eq hz
        simp only [hz, cond_true] at h
        obtain ⟨⟨hn, hr⟩, _⟩ := hv
        obtain ⟨a, c, rfl, hlc, hcap, hcc⟩ := hr (hal id rfl)
        cases mx with
        | none =>
          cases h
          obtain ⟨p2, p1⟩ := hφ
          have p2' : inR hi c := by cases hi with
            | none => trivial
            | some j => exact ⟨p2.1, by have := p2.2; omega⟩
          have hbs := run_bounds (P := C.P) (w := w) (isS := true) (len := len) (cap := c) (k1 := k1) (k2 := k2) (k3 := k3) (mx := none) trivial p2' p1 (by simp)
          simp only [toR_none] at hbs
          have hh : toR hi len ≤ len := by
            cases hi with
            | none => exact Nat.le_refl _
            | some j => simp only [toR]; have := p2.2; have := p2.1; omega
          have hlo : toR lo 0 ≤ toR hi len := by
            cases lo with
            | none => exact Nat.zero_le _
            | some j => simp only [toR]; have := p1.2; have := p1.1; simp only [toR] at *; omega
          refine ⟨.slice (if c = toR lo 0 then a else a.map (·.add (toR lo 0 * ei.cells))) (toR hi len - toR lo 0) (c - toR lo 0), ?_, ⟨hn, fun _ => ⟨_, _, rfl, by omega, fun k hk => ?_, fun hc0 => ?_⟩⟩, rfl⟩
          · have hn3 : valI none k3 = none := rfl
            rw [hn3] at hbs ⊢
            simp [Instr.sliceAt, Instr.slice, run_underlying hu, hbs, hsz]
          · cases hq : cap with
            | none => rw [hq] at hk; simp at hk
            | some q => rw [hq] at hk; simp at hk; rw [hcap q hq]; exact hk
          · obtain ⟨b, z, hb, rfl, hroom⟩ := hcc (by omega)
            refine ⟨b, z, hb, ?_, ?_⟩
            · rw [if_neg (by omega)]; simp only [Option.map_some, lookup_add, hz0, Nat.add_mul, Nat.add_assoc]
            · have : (l0 + toR lo 0) * esz + (c - toR lo 0) * esz = l0 * esz + c * esz := by rw [← Nat.add_mul, ← Nat.add_mul]; congr 1; omega
              omega
        | some m =>
          cases h
          obtain ⟨p3, p4, p2, p1, p0⟩ := hφ
          obtain ⟨j, rfl⟩ := Option.isSome_iff_exists.1 p0
          have hbs := run_bounds (P := C.P) (w := w) (isS := true) (len := len) (cap := c) (k1 := k1) (k2 := k2) (k3 := k3) (mx := some m) ⟨p3, by omega⟩ p2 p1 (by simp)
          simp only [toR_some] at hbs p1
          have hj := p2.2
          have hj0 := p2.1
          have hlo : toR lo 0 ≤ j.toNat := by
            cases lo with
            | none => exact Nat.zero_le _
            | some q => simp only [toR]; have := p1.2; have := p1.1; omega
          have hq : l0 + toR lo 0 + (m.toNat - toR lo 0) ≤ l0 + c := by clear hcc hr hal hbd; omega
          refine ⟨.slice (if m.toNat = toR lo 0 then a else a.map (·.add (toR lo 0 * ei.cells))) (toR (some j) len - toR lo 0) (m.toNat - toR lo 0), ?_, ⟨hn, fun _ => ⟨_, _, rfl, by rw [toR_some]; omega, fun k hk => by cases hk; rfl, fun hc0 => ?_⟩⟩, rfl⟩
          · simp [Instr.sliceAt, Instr.slice, run_underlying hu, hbs, hsz, toR_some]
          · obtain ⟨b, z, hb, rfl, hroom⟩ := hcc (by omega)
            refine ⟨b, z, hb, ?_, ?_⟩
            · rw [if_neg (by omega)]; simp only [Option.map_some, lookup_add, hz0, Nat.add_mul, Nat.add_assoc]
            · have : (l0 + toR lo 0) * esz + (m.toNat - toR lo 0) * esz ≤ l0 * esz + c * esz := by rw [← Nat.add_mul, ← Nat.add_mul]; exact Nat.mul_le_mul_right _ hq
              rw [Nat.add_assoc]
              rw [Nat.add_assoc] at hroom
              exact Nat.le_trans (Nat.add_le_add_left this _) hroom
    · rename_i ei u l t0 he
      have hsz := (hC.at he).size w
      cases hz : Nat.beq u.size ei.cells with
      | false => simp [hz] at h
      | true =>
        have hz0 := beq_eq hz
        simp only [hz, cond_true] at h
        obtain ⟨⟨hview, htight⟩, _⟩ := hv
        have hview' := hview
        obtain ⟨a, n, c, e3, hl2, hnc, hr⟩ := hview'
        simp only [List.cons.injEq, and_true] at e3
        subst e3
        cases mx with
        | none =>
          have go : ∀ (l2 : List u.T), inR hi l.length → inR lo (toR hi l.length) → l2 = (l.take (toR hi l.length)).drop (toR lo 0) →
              ∃ u', (Instr.sliceAt t (.slice a n c) (valI lo k1) (valI hi k2) (valI none k3)).run C.P w = .ok u' w ∧ repTm X u' (.v (.one (.fs u l2 (t0 && hi.isNone)))) := by
            intro l2 p2 p1 el
            rw [hl2] at p1 p2 el
            have p2' : inR hi c := by cases hi with
              | none => trivial
              | some j => exact ⟨p2.1, by have := p2.2; omega⟩
            have hbs := run_bounds (P := C.P) (w := w) (isS := true) (len := n) (cap := c) (k1 := k1) (k2 := k2) (k3 := k3) (mx := none) trivial p2' p1 (by simp)
            have hh : toR hi n ≤ n := by
              cases hi with
              | none => exact Nat.le_refl _
              | some j => simp only [toR]; have := p2.2; have := p2.1; omega
            have hlo : toR lo 0 ≤ toR hi n := by
              cases lo with
              | none => exact Nat.zero_le _
              | some j => simp only [toR]; have := p1.2; have := p1.1; simp only [toR] at *; omega
            refine ⟨_, ?_, slice_view (X := X) (t := u) (l := l) (a := a) (n := n) (c := c) (i := toR lo 0) (h := toR hi n) (m := c) (tg := t0 && hi.isNone) hview hlo hh (by omega) (Nat.le_refl _) el (fun ht => ?_), rfl⟩
            · have hn3 : valI none k3 = none := rfl
              rw [hn3] at hbs ⊢
              simp only [toR_none] at hbs
              simp [Instr.sliceAt, Instr.slice, run_underlying hu, hbs, hsz, hz0]
            · rw [Bool.and_eq_true] at ht
              cases hi with
              | some j => simp at ht
              | none => exact htight ht.1 _ _ _ rfl
          cases lo with
          | none =>
            cases h
            exact go _ hφ trivial (by cases hi <;> simp [toR])
          | some i =>
            cases h
            exact go _ hφ.1 hφ.2 (by cases hi <;> simp [toR])
        | some m =>
          cases h
          obtain ⟨rfl, p3, p4, p1⟩ := hφ
          have hbs := run_bounds (P := C.P) (w := w) (isS := true) (len := n) (cap := c) (lo := lo) (hi := some m) (mx := some m) (k1 := k1) (k2 := k2) (k3 := k3) ⟨p3, by omega⟩ ⟨p3, by simp only [toR]; omega⟩ p1 (by simp)
          simp only [toR_some] at hbs
          have hlo : toR lo 0 ≤ m.toNat := by
            cases lo with
            | none => exact Nat.zero_le _
            | some q => simp only [toR]; have := p1.2; have := p1.1; omega
          refine ⟨_, ?_, slice_view (X := X) (t := u) (l := l) (a := a) (n := n) (c := c) (i := toR lo 0) (h := m.toNat) (m := m.toNat) (tg := true) hview hlo (by omega) (Nat.le_refl _) (by omega) rfl (fun _ => rfl), rfl⟩
          simp [Instr.sliceAt, Instr.slice, run_underlying hu, hbs, hsz, hz0]
    · rename_i ei he
      have hsz := (hC.at he).size w
      split at h
      · cases h
        obtain ⟨p2, p1⟩ := hφ
        obtain rfl := sc_rep hv rfl
        have hbs := run_bounds (P := C.P) (w := w) (isS := true) (len := 0) (cap := 0) (k1 := k1) (k2 := k2) (k3 := k3) (mx := none) trivial p2 p1 (by simp)
        have h0 : toR hi 0 = 0 := by
          cases hi with
          | none => rfl
          | some j => simp only [toR]; have := p2.2; have := p2.1; omega
        have h1 : toR lo 0 = 0 := by
          cases lo with
          | none => rfl
          | some j => simp only [toR]; have := p1.2; have := p1.1; rw [h0] at *; omega
        have hn3 : valI none k3 = none := rfl
        simp only [toR_none, h0, h1] at hbs
        refine ⟨.slice none 0 0, ?_, ⟨rfl, rfl⟩, rfl⟩
        rw [hn3] at hbs ⊢
        simp [Instr.sliceAt, Instr.slice, run_underlying hu, hbs, hsz]
      · cases h
    · cases h
  · cases h

end Go.Proofs.YtllannmegnklmaaE
