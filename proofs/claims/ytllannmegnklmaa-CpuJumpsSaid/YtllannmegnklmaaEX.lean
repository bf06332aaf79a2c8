/- Regions of open order in which a call panics. -/
import Derived.Test.YtllannmegnklmaaE14
set_option linter.unusedVariables false
set_option linter.unusedSimpArgs false
set_option linter.unnecessarySimpa false
namespace Go.Proofs.YtllannmegnklmaaE
open Go

/-- What stands ahead of the call that panics: it is waited for, or looks on. -/
def okX (C : Cfg) (ops : Array Oper) (T : Masks) (x y : Item) : Bool := waitsFor x.2.1 y.1 || (Nat.testBit (maskAt T x.1) y.1 || (Nat.beq (clsO C.L y.2.1.op y.2.2.d) 0 && y.2.1.apart ops x.2.1))

theorem lCallG_env {Pc : List AV → List Box → Prop} {env env2 : List Tm} {bs : List Box} {ts : List Tm} {full : Bool} {hs : List Ty} {σ : List Nat} {r : Tm} {bs' : List Box} {q : Out} (h : lCallG Pc env bs ts full hs σ r bs' = some q) :
    ∃ q2, lCallG Pc env2 bs ts full hs σ r bs' = some q2 ∧ q2.φ = q.φ ∧ q2.bs = q.bs := by
  unfold lCallG at h ⊢
  split at h
  · split at h
    · obtain ⟨hb, h⟩ := cond_some h
      cases h
      simp only [hb, cond_true]
      exact ⟨_, rfl, rfl, rfl⟩
    · cases h
  · cases h

theorem panE_like {C : Cfg} {o : Oper} {k : Scr} {env env2 : List Tm} {bs : List Box} {m : Nat} {X : Scr → Exit → St → Prop} (h : panE C o k ⟨env, bs, m⟩ X) (ha : Alike C.E env env2 o.op) (hl : env2.length = env.length) : panE C o k ⟨env2, bs, m⟩ X := by
  have hA : anyE env2 = anyE env := by
    unfold anyE
    apply List.ext_getElem?
    intro i
    rw [List.getElem?_map, List.getElem?_map]
    by_cases hi : i < env.length
    · rw [List.getElem?_eq_getElem hi, List.getElem?_eq_getElem (by omega)]; rfl
    · rw [List.getElem?_eq_none (by omega), List.getElem?_eq_none (by omega)]
  unfold panE at h ⊢
  split at h
  · exact h.elim
  · rename_i hg
    split at h
    · split at h
      · rename_i c ho
        obtain ⟨t, h⟩ := h
        refine ⟨t, ?_⟩
        unfold Alike at ha
        rw [ho] at ha
        dsimp only at h ⊢
        rw [← callF_like (fun x hx => ha x hx)]
        split at h
        · rename_i f ts hc
          split at h
          · rename_i r hr
            obtain ⟨q2, h1, h2, h3⟩ := lCallG_env (env2 := env2) hr
            have h1 : lCallX C env2 bs f ts _ _ _ _ _ = some q2 := h1
            simp only [hc, h1]
            have hk : q2.keeps m = r.keeps m := by unfold Out.keeps; rw [h3]
            rw [hk, h2, h3, hA]
            exact h
          · exact h.elim
        · exact h.elim
      · exact h.elim
    · split at h
      · rename_i x ho
        unfold Alike at ha
        rw [ho] at ha
        have hx := ha x (by simp [Op.operands])
        dsimp only at h ⊢
        rw [← hx, hA]
        exact h
      · exact h.elim
    · exact h.elim

theorem panE_front {C : Cfg} {ops : Array Oper} {x : Item} {kx : Scr} {X : Scr → Exit → St → Prop} : ∀ (R : List Item) {s : St}, (∀ y ∈ R, clsO C.L y.2.1.op y.2.2.d = 0 ∧ y.2.1.apart ops x.2.1 = true) → aRun C ops R s (fun s' => panE C x.2.1 kx s' X) → panE C x.2.1 kx s X
  | [], s, _, h => h
  | y :: R, s, hy, h => by
    simp only [aRun] at h
    split at h
    · rename_i φ s1 h1
      have h2 := panE_front R (fun z hz => hy z (by simp [hz])) h.2
      obtain ⟨hc, hap⟩ := hy y (by simp)
      obtain ⟨tm, l, e1, e2, _⟩ := stepD_like h1 (.inl hc)
      obtain rfl := e2 hc
      rw [e1, List.append_nil] at h2
      have hs := (sees_put hap s.env tm).1
      exact panE_like h2 (Sees.alike fun t ht => (hs t ht).symm) (by unfold putE; cases y.2.1.dst <;> simp)
    · exact h.elim

theorem aRun_anyX {C : Cfg} (hC : COk C) {ops : Array Oper} {T : Masks} (hT : MOk ops T) {Q : Exit → Act → World → Prop} {x0 : Item} {U : List Nat} {kx : Scr} (hx0 : ops[x0.1]? = some x0.2.1) (hx0i : okItem ops x0 = true) (hx0U : x0.1 ∈ U) (hx0w : ∀ u ∈ U, waitsFor x0.2.1 u = false) (hU : ∀ u ∈ U, u ≠ x0.1 → Nat.testBit (maskAt T u) x0.1 = true) : ∀ (fuel : Nat) (R : List Item) (ρ : List Nat) (listed : Array Bool) {Z : Nat → Prop} {β : Nat → Option (Nat × Nat)} {w : World} {a : Act} {s : St},
    RelM C Z β w a s →
    (∀ τ : List Nat, τ.Perm ρ → consB T τ = true → ∃ (l : List Item) (X : Scr → Exit → St → Prop), l.Perm R ∧ pushIds C l = τ ∧ aRun C ops l s (fun s' => panE C x0.2.1 kx s' X) ∧ l.Pairwise (fun x y => okPairP C ops T x y = true) ∧ (∀ k' e s', s'.m = s.m → X k' e s' → Goes C s.m Z β s.boxes w s' (Q e))) →
    (∃ τ : List Nat, τ.Perm ρ ∧ consB T τ = true) →
    (∀ x ∈ R, okItem ops x = true) → (∀ x ∈ R, ops[x.1]? = some x.2.1) → (∀ y ∈ R, okX C ops T x0 y = true ∧ (∀ u ∈ U, waitsFor y.2.1 u = false) ∧ y.1 ∉ U) →
    (∀ j, listed.getD j true = false ↔ (∃ x ∈ R, x.1 = j) ∨ j ∈ U) → listed.size = ops.size → (∀ (j : Nat) (o : Oper), ops[j]? = some o → listed.getD j false = true → ∀ e ∈ o.after, Region.binds .any e = true → listed.getD e.on false = true) → R.length < fuel →
    wpAny C.P .any ops Q fuel listed a w := by
  intro fuel
  have ready : ∀ (y : Item) (R : List Item) (listed : Array Bool), okItem ops y = true → ops[y.1]? = some y.2.1 → (∀ u ∈ U, waitsFor y.2.1 u = false) → (∀ z ∈ R, z = y ∨ waitsFor y.2.1 z.1 = false) → listed.getD y.1 true = false → (∀ j, listed.getD j true = false ↔ (∃ x ∈ R, x.1 = j) ∨ j ∈ U) → listed.size = ops.size → y.1 ∈ Region.ready .any ops listed := by
    intro y R listed hit ho hyU hyR hun hl hsz
    rw [mem_ready]
    refine ⟨hun, y.2.1, ho, fun e he hb => ?_⟩
    have hit2 := hit
    unfold okItem at hit
    rw [List.all_eq_true] at hit
    have h0 := hit e (by simpa using he)
    rw [hb] at h0
    simp only [Bool.not_true, Bool.false_or, Bool.and_eq_true] at h0
    have hlt := Nat.le_of_ble_eq_true h0.1
    rw [Array.length_toList] at hlt
    have nowait : ∀ i, waitsFor y.2.1 i = false → e.on = i → False := fun i hw ee => by
      unfold waitsFor at hw
      rw [List.any_eq_false] at hw
      have := hw e (by simpa using he)
      simp [hb, ee] at this
    cases hun2 : listed.getD e.on true with
    | true =>
      rw [Array.getD_eq_getD_getElem?] at hun2 ⊢
      rw [Array.getElem?_eq_getElem (by omega)] at hun2 ⊢
      simpa using hun2
    | false =>
      exfalso
      rcases (hl e.on).1 hun2 with ⟨z, hz, ez⟩ | hz
      · rcases hyR z hz with rfl | hw
        · rw [ez, Nat.beq_refl] at h0
          simp at h0
        · exact nowait _ hw ez.symm
      · exact nowait _ (hyU _ hz) rfl
  have memP : ∀ {l R : List Item} {listed : Array Bool}, l.Perm R → (∀ j, listed.getD j true = false ↔ (∃ x ∈ R, x.1 = j) ∨ j ∈ U) → ∀ j, listed.getD j true = false ↔ (∃ x ∈ l, x.1 = j) ∨ j ∈ U := fun {l R listed} hp h j => by
    rw [h j]
    exact ⟨fun h => h.imp (fun ⟨x, hx, e⟩ => ⟨x, hp.symm.subset hx, e⟩) id, fun h => h.imp (fun ⟨x, hx, e⟩ => ⟨x, hp.subset hx, e⟩) id⟩
  induction fuel with
  | zero =>
    intro R ρ listed Z β w a s h hfam hne hit ho hRx hl hsz hcl hlen
    exact absurd hlen (Nat.not_lt_zero _)
  | succ fuel ih =>
    intro R ρ listed Z β w a s h hfam hne hit ho hRx hl hsz hcl hlen
    obtain ⟨τ0, hτ0, hc0⟩ := hne
    refine ⟨fun hr0 => ?_, fun i hi => ?_⟩
    · exfalso
      obtain ⟨l, X, hlp, _, hr, hpw, hK⟩ := hfam τ0 hτ0 hc0
      cases l with
      | nil =>
        have := ready x0 R listed hx0i hx0 hx0w (fun z hz => by rw [← hlp.nil_eq] at hz; cases hz) ((hl _).2 (.inr hx0U)) hl hsz
        rw [hr0] at this
        cases this
      | cons y l =>
        have hyR : y ∈ R := hlp.subset (by simp)
        have := ready y R listed (hit y hyR) (ho y hyR) (hRx y hyR).2.1 (fun z hz => by
          rcases List.mem_cons.1 (hlp.symm.subset hz) with rfl | hz
          · exact .inl rfl
          · have := (List.pairwise_cons.1 hpw).1 z hz
            unfold okPairP at this
            simp only [Bool.and_eq_true, Bool.not_eq_true'] at this
            exact .inr this.2.1) ((hl _).2 (.inl ⟨y, hyR, rfl⟩)) hl hsz
        rw [hr0] at this
        cases this
    · obtain ⟨hun, o, hoi, hall⟩ := mem_ready.1 hi
      by_cases hiU : i ∈ U
      · have unlisted : ∀ j, listed.getD j true = false → listed.getD j false = true → False := fun j h0 e => by
          rw [Array.getD_eq_getD_getElem?] at h0 e
          cases hg : listed[j]? with
          | none => rw [hg] at e; cases e
          | some b => rw [hg] at h0 e; simp at h0 e; rw [h0] at e; cases e
        by_cases hix : i = x0.1
        · subst hix
          obtain rfl : x0.2.1 = o := by rw [hoi] at hx0; exact (Option.some.inj hx0).symm
          obtain ⟨l, X, hlp, _, hr, hpw, hK⟩ := hfam τ0 hτ0 hc0
          refine panE_wp hC h hoi (panE_front l (fun y hy => ?_) hr) hK
          have hyR := hlp.subset hy
          have hok := (hRx y hyR).1
          have huy := (hl y.1).2 (.inl ⟨y, hyR, rfl⟩)
          unfold okX at hok
          simp only [Bool.and_eq_true, Bool.or_eq_true] at hok
          rcases hok with hw | hw | hw
          · obtain ⟨e, he, hb, ee⟩ := waitsFor_edge hw
            have := hall e he hb
            rw [ee] at this
            exact (unlisted _ huy this).elim
          · exact (unlisted _ huy (hT.listed hcl hoi hall hw)).elim
          · exact ⟨beq_eq hw.1, hw.2⟩
        · exact (unlisted _ ((hl _).2 (.inr hx0U)) (hT.listed hcl hoi hall (hU i hiU hix))).elim
      -- whichever candidate: the operation moved ahead
      have memQ : ∀ {l : List Item}, l.Perm R → ∃ x ∈ l, x.1 = i := fun {l} hp => ((memP hp hl i).1 hun).resolve_right hiU
      have move : ∀ (l : List Item) (K : St → Prop), l.Perm R → aRun C ops l s K → l.Pairwise (fun x y => okPairP C ops T x y = true) →
          (∀ R1 R2 (x : Item), l = R1 ++ x :: R2 → x.1 = i → isPush C x = true → ∀ y ∈ R1, isPush C y = false) →
          ∃ (R1 R2 : List Item) (x : Item), l = R1 ++ x :: R2 ∧ x.1 = i ∧ x.2.1 = o ∧ aRun C ops (x :: (R1 ++ R2)) s K := by
        intro l K hlp hr hp hpush
        obtain ⟨x, hx, ex⟩ := memQ hlp
        obtain ⟨R1, R2, rfl⟩ := List.append_of_mem hx
        subst ex
        have hox := ho x (hlp.subset hx)
        obtain rfl : x.2.1 = o := by rw [hoi] at hox; exact (Option.some.inj hox).symm
        have hpx := hp
        rw [List.pairwise_append] at hpx
        obtain ⟨hp1, hp2, hp3⟩ := hpx
        have hunl : ∀ y ∈ R1, listed.getD y.1 false = true → False := fun y hy e => by
          have h0 := (memP hlp hl y.1).2 (.inl ⟨y, by simp [hy], rfl⟩)
          rw [Array.getD_eq_getD_getElem?] at h0 e
          cases hg : listed[y.1]? with
          | none => rw [hg] at e; cases e
          | some b => rw [hg] at h0 e; simp at h0 e; rw [h0] at e; cases e
        refine ⟨R1, R2, x, rfl, rfl, rfl, aRun_front R1 (fun y hy => ?_) hr⟩
        have hok := hp3 y hy x (by simp)
        unfold okPairP at hok
        simp only [Bool.and_eq_true, Bool.or_eq_true] at hok
        rcases hok.2.2 with hw | hw | hw | hw
        · obtain ⟨e, he, hb, ee⟩ := waitsFor_edge hw
          have := hall e he hb
          rw [ee] at this
          exact (hunl y hy this).elim
        · exact hw
        · exact (hunl y hy (hT.listed hcl hoi hall hw)).elim
        · have := hpush R1 R2 x rfl rfl hw.2 y hy
          rw [hw.1] at this
          cases this
      have nodupOf : ∀ {l : List Item}, l.Pairwise (fun x y => okPairP C ops T x y = true) → ∀ {R1 R2 : List Item} {x : Item}, l = R1 ++ x :: R2 → ∀ y ∈ R1 ++ R2, y.1 ≠ x.1 := fun {l} hp {R1 R2 x} e y hy e2 => by
        subst e
        rw [List.pairwise_append] at hp
        rcases List.mem_append.1 hy with hy | hy
        · exact okPairP_ne (hp.2.2 y hy x (by simp)) e2
        · exact okPairP_ne ((List.pairwise_cons.1 hp.2.1).1 y hy) e2.symm
      -- how it goes on, once the operation's answer is known
      have goOn : ∀ (x : Item) (R' : List Item) (ρ' : List Nat) (φ : Prop) (s1 : St), x.1 = i → x.2.1 = o → stepD C ops x.2.1 x.2.2 s = some (φ, s1) → φ → R.Perm (x :: R') → (∀ y ∈ R', y.1 ≠ x.1) →
          (∀ {Z1 : Nat → Prop} {β1 : Nat → Option (Nat × Nat)} {w1 : World}, Ext s.m Z β s.boxes w Z1 β1 s1.boxes w1 → ∀ τ : List Nat, τ.Perm ρ' → consB T τ = true → ∃ (l : List Item) (X : Scr → Exit → St → Prop), l.Perm R' ∧ pushIds C l = τ ∧ aRun C ops l s1 (fun s' => panE C x0.2.1 kx s' X) ∧ l.Pairwise (fun x y => okPairP C ops T x y = true) ∧ (∀ k' e s', s'.m = s1.m → X k' e s' → Goes C s1.m Z1 β1 s1.boxes w1 s' (Q e))) →
          (∃ τ : List Nat, τ.Perm ρ' ∧ consB T τ = true) → wpOp C.P ops Q i (fun a' w' => wpAny C.P .any ops Q fuel (listed.setIfInBounds i true) a' w') a w := by
        intro x R' ρ' φ s1 ei eo h1 hφ hperm hne2 hfam2 hex2
        subst ei
        subst eo
        refine (stepD_wp hC h hoi h1 hφ ?_).2
        intro Z1 β1 a1 w1 hr1 hx1
        have hm1 := stepD_m h1
        have hsub : ∀ y, y ∈ R' → y ∈ R := fun y hy => hperm.symm.subset (List.mem_cons_of_mem _ hy)
        refine ih R' ρ' (listed.setIfInBounds x.1 true) hr1 (hfam2 hx1) hex2 (fun y hy => hit y (hsub y hy)) (fun y hy => ho y (hsub y hy)) (fun y hy => hRx y (hsub y hy)) (fun j => ?_) (by simpa using hsz) (fun j oj hoj hlj e he hb => ?_) (by have := hperm.length_eq; simp at this; omega)
        · constructor
          · intro hj
            by_cases e : x.1 = j
            · subst e
              rw [Array.getD_eq_getD_getElem?, Array.getElem?_setIfInBounds] at hj
              simp at hj
              split at hj <;> simp at hj
            · rw [getD_set_ne true e] at hj
              rcases (hl j).1 hj with ⟨y, hy, ey⟩ | hj
              · refine .inl ⟨y, ?_, ey⟩
                rcases List.mem_cons.1 (hperm.subset hy) with rfl | hy
                · exact absurd ey e
                · exact hy
              · exact .inr hj
          · rintro (⟨y, hy, rfl⟩ | hj)
            · rw [getD_set_ne true (fun e => hne2 y hy e.symm)]
              exact (hl y.1).2 (.inl ⟨y, hsub y hy, rfl⟩)
            · rw [getD_set_ne true (fun e => hiU (by rw [e]; exact hj))]
              exact (hl j).2 (.inr hj)
        · by_cases e1 : x.1 = j
          · subst e1
            rw [hoi] at hoj
            cases hoj
            exact getD_set_true (hall e he hb)
          · rw [getD_set_ne false e1] at hlj
            exact getD_set_true (hcl j oj hoj hlj e he hb)
      have later : ∀ {X : Scr → Exit → St → Prop} {x : Item} {φ : Prop} {s1 : St}, stepD C ops x.2.1 x.2.2 s = some (φ, s1) → (∀ k' e s', s'.m = s.m → X k' e s' → Goes C s.m Z β s.boxes w s' (Q e)) →
          ∀ {Z1 : Nat → Prop} {β1 : Nat → Option (Nat × Nat)} {w1 : World}, Ext s.m Z β s.boxes w Z1 β1 s1.boxes w1 → ∀ k' e s', s'.m = s1.m → X k' e s' → Goes C s1.m Z1 β1 s1.boxes w1 s' (Q e) := fun {X x φ s1} h1 hK {Z1 β1 w1} hx1 k' e0 s' e hk => by
        have hm1 := stepD_m h1
        have hg := (hK k' e0 s' (e.trans hm1) hk).trans hx1
        rw [hm1]
        exact hg
      obtain ⟨l0, K0, hlp0, hpi0, hr0, hpw0, hK0⟩ := hfam τ0 hτ0 hc0
      obtain ⟨xi, hxi, exi⟩ := memQ hlp0
      cases hpsh : isPush C xi with
      | false =>
        have same : ∀ {l : List Item}, l.Perm R → l.Pairwise (fun x y => okPairP C ops T x y = true) → ∀ (R1 R2 : List Item) (x : Item), l = R1 ++ x :: R2 → x.1 = i → x = xi := fun {l} hlp hpw R1 R2 x e ex => by
          have hx : x ∈ l0 := hlp0.symm.subset (hlp.subset (by rw [e]; simp))
          obtain ⟨A, B, eAB⟩ := List.append_of_mem hxi
          rw [eAB] at hx
          rcases List.mem_append.1 hx with h1 | h1
          · exact absurd (ex.trans exi.symm) (nodupOf hpw0 eAB x (List.mem_append_left _ h1))
          · rcases List.mem_cons.1 h1 with h2 | h2
            · exact h2
            · exact absurd (ex.trans exi.symm) (nodupOf hpw0 eAB x (List.mem_append_right _ h2))
        have np : ∀ {l : List Item}, l.Perm R → l.Pairwise (fun x y => okPairP C ops T x y = true) → ∀ (R1 R2 : List Item) (x : Item), l = R1 ++ x :: R2 → x.1 = i → isPush C x = true → ∀ y ∈ R1, isPush C y = false := fun {l} hlp hpw R1 R2 x e ex hp => by
          rw [same hlp hpw R1 R2 x e ex, hpsh] at hp
          cases hp
        obtain ⟨R1, R2, x, e0, ex, eo, hfr⟩ := move l0 _ hlp0 hr0 hpw0 (np hlp0 hpw0)
        obtain rfl := same hlp0 hpw0 R1 R2 x e0 ex
        simp only [aRun] at hfr
        split at hfr
        · rename_i φ s1 h1
          obtain ⟨hφ, hfr⟩ := hfr
          refine goOn x (R1 ++ R2) ρ φ s1 ex eo h1 hφ (hlp0.symm.trans (by rw [e0]; exact List.perm_middle)) (nodupOf hpw0 e0) (fun hx1 τ hτ hcτ => ?_) ⟨τ0, hτ0, hc0⟩
          obtain ⟨l, K, hlp, hpi, hr, hpw, hK⟩ := hfam τ hτ hcτ
          obtain ⟨S1, S2, y, e1, ey, eo1, hfr1⟩ := move l _ hlp hr hpw (np hlp hpw)
          obtain rfl := same hlp hpw S1 S2 y e1 ey
          simp only [aRun, h1] at hfr1
          refine ⟨S1 ++ S2, K, ?_, ?_, hfr1.2, hpw.sublist (by rw [e1]; exact List.Sublist.append (List.Sublist.refl _) (List.sublist_cons_self ..)), later (x := y) h1 hK hx1⟩
          · have a1 : (y :: (S1 ++ S2)).Perm (y :: (R1 ++ R2)) := by
              refine (List.perm_middle.symm.trans ?_).trans List.perm_middle
              rw [← e1, ← e0]
              exact hlp.trans hlp0.symm
            exact a1.cons_inv
          · rw [← hpi, e1]
            unfold pushIds
            simp [List.filter_append, List.filter_cons, hpsh]
        · exact hfr.elim
      | true =>
        have hin : i ∈ ρ := by
          refine hτ0.subset ?_
          rw [← hpi0]
          exact List.mem_map.2 ⟨xi, List.mem_filter.2 ⟨hxi, hpsh⟩, exi⟩
        -- those orders in which it is the first one
        have hfirst : ∀ τ' : List Nat, τ'.Perm (ρ.erase i) → consB T τ' = true → (i :: τ').Perm ρ ∧ consB T (i :: τ') = true := fun τ' h1 h2 => by
          have hp : (i :: τ').Perm ρ := (h1.cons i).trans (List.perm_cons_erase hin).symm
          refine ⟨hp, ?_⟩
          rw [consB_spec, List.pairwise_cons]
          refine ⟨fun b hb => ?_, consB_spec.1 h2⟩
          cases ht : Nat.testBit (maskAt T i) b with
          | false => rfl
          | true =>
            exfalso
            have hlb := hT.listed hcl hoi hall ht
            have hbρ : b ∈ τ0 := hτ0.symm.subset (hp.subset (List.mem_cons_of_mem _ hb))
            rw [← hpi0] at hbρ
            obtain ⟨y, hy, ey⟩ := List.mem_map.1 hbρ
            have h0 := (memP hlp0 hl b).2 (.inl ⟨y, (List.mem_filter.1 hy).1, ey⟩)
            rw [Array.getD_eq_getD_getElem?] at h0 hlb
            cases hg : listed[b]? with
            | none => rw [hg] at hlb; cases hlb
            | some c => rw [hg] at h0 hlb; simp at h0 hlb; rw [h0] at hlb; cases hlb
        have headP : ∀ {l : List Item} {τ' : List Nat}, pushIds C l = i :: τ' → l.Pairwise (fun x y => okPairP C ops T x y = true) → ∀ (R1 R2 : List Item) (x : Item), l = R1 ++ x :: R2 → x.1 = i → isPush C x = true → ∀ y ∈ R1, isPush C y = false := fun {l τ'} hpi hpw R1 R2 x e ex hp y hy => by
          cases hyp : isPush C y with
          | false => rfl
          | true =>
            exfalso
            have hne := nodupOf hpw e y (List.mem_append_left _ hy)
            rw [e] at hpi
            unfold pushIds at hpi
            rw [List.filter_append, List.map_append] at hpi
            have hm : y ∈ R1.filter (isPush C) := List.mem_filter.2 ⟨hy, hyp⟩
            cases hf : R1.filter (isPush C) with
            | nil => rw [hf] at hm; cases hm
            | cons z zs =>
              rw [hf] at hpi
              simp only [List.map_cons, List.cons_append, List.cons.injEq] at hpi
              have hz : z ∈ R1 := (List.mem_filter.1 (by rw [hf]; simp : z ∈ R1.filter (isPush C))).1
              exact nodupOf hpw e z (List.mem_append_left _ hz) (hpi.1.trans ex.symm)
        have hcE : consB T (τ0.erase i) = true := consB_spec.2 ((consB_spec.1 hc0).sublist List.erase_sublist)
        have hpE : (τ0.erase i).Perm (ρ.erase i) := hτ0.erase i
        obtain ⟨g1, g2⟩ := hfirst _ hpE hcE
        obtain ⟨l1, K1, hlp1, hpi1, hr1, hpw1, hK1⟩ := hfam _ g1 g2
        obtain ⟨R1, R2, x, e0, ex, eo, hfr⟩ := move l1 _ hlp1 hr1 hpw1 (headP hpi1 hpw1)
        have same : ∀ {l : List Item}, l.Perm R → ∀ (S1 S2 : List Item) (y : Item), l = S1 ++ y :: S2 → y.1 = i → y = x := fun {l} hlp S1 S2 y e ey => by
          have hy : y ∈ l1 := hlp1.symm.subset (hlp.subset (by rw [e]; simp))
          rw [e0] at hy
          rcases List.mem_append.1 hy with h1 | h1
          · exact absurd (ey.trans ex.symm) (nodupOf hpw1 e0 y (List.mem_append_left _ h1))
          · rcases List.mem_cons.1 h1 with h2 | h2
            · exact h2
            · exact absurd (ey.trans ex.symm) (nodupOf hpw1 e0 y (List.mem_append_right _ h2))
        have hxp : isPush C x = true := by
          obtain ⟨A, B, eAB⟩ := List.append_of_mem hxi
          rw [← same hlp0 A B xi eAB exi]
          exact hpsh
        simp only [aRun] at hfr
        split at hfr
        · rename_i φ s1 h1
          obtain ⟨hφ, hfr⟩ := hfr
          refine goOn x (R1 ++ R2) (ρ.erase i) φ s1 ex eo h1 hφ (hlp1.symm.trans (by rw [e0]; exact List.perm_middle)) (nodupOf hpw1 e0) (fun hx1 τ hτ hcτ => ?_) ⟨_, hpE, hcE⟩
          obtain ⟨f1, f2⟩ := hfirst τ hτ hcτ
          obtain ⟨l, K, hlp, hpi, hr, hpw, hK⟩ := hfam _ f1 f2
          obtain ⟨S1, S2, y, e1, ey, eo1, hfr1⟩ := move l _ hlp hr hpw (headP hpi hpw)
          obtain rfl := same hlp S1 S2 y e1 ey
          simp only [aRun, h1] at hfr1
          refine ⟨S1 ++ S2, K, ?_, ?_, hfr1.2, hpw.sublist (by rw [e1]; exact List.Sublist.append (List.Sublist.refl _) (List.sublist_cons_self ..)), later (x := y) h1 hK hx1⟩
          · have a1 : (y :: (S1 ++ S2)).Perm (y :: (R1 ++ R2)) := by
              refine (List.perm_middle.symm.trans ?_).trans List.perm_middle
              rw [← e1, ← e0]
              exact hlp.trans hlp1.symm
            exact a1.cons_inv
          · have hno : S1.filter (isPush C) = [] := List.filter_eq_nil_iff.2 fun z hz => by
              rw [headP hpi hpw S1 S2 y e1 ey hxp z hz]; simp
            rw [e1] at hpi
            unfold pushIds at hpi ⊢
            rw [List.filter_append, List.filter_cons, hno, hxp] at hpi
            rw [List.filter_append, hno]
            simpa [ey] using hpi
        · exact hfr.elim

/-- The orders of what stands ahead. -/
def candsX (C : Cfg) (ops : Array Oper) (T : Masks) (l : List Item) (x : Item) (kx : Scr) (s : St) (X : Scr → Exit → St → Prop) : List (List Nat) → Prop
  | [] => True
  | c :: r => bif pairsP C ops T (c.filterMap (pickI l)) && Nat.beq (c.filterMap (pickI l)).length l.length then
      aRunT C ops (c.filterMap (pickI l)) s (fun s' => panE C x.2.1 kx s' X) ∧ candsX C ops T l x kx s X r else False
def coversX (C : Cfg) (T : Masks) (l : List Item) (cs : List (List Nat)) : Bool :=
  (permsL (pushIds C l)).all fun τ => !(consB T τ) || (eqL τ (pushIds C l) || cs.any (fun c => eqL τ (pushIds C (c.filterMap (pickI l)))))
def restX (T : Masks) (x : Item) (l r : List Item) : Bool := r.all fun z => Nat.testBit (maskAt T z.1) x.1 && (!(Nat.beq z.1 x.1) && (!(waitsFor x.2.1 z.1) && l.all fun y => !(Nat.beq y.1 z.1) && !(waitsFor y.2.1 z.1)))
def drawX (C : Cfg) (ops : Array Oper) (ps : List (Nat × PD)) (n : Nat) (cs : List (List Nat)) (kx : Scr) (s : St) (X : Scr → Exit → St → Prop) : Prop := match itemsOf ops.toList ps with
  | some L => (match L.drop n with
    | x :: r => bif pairsP C ops (masks L []) (L.take n) && (Nat.beq ps.length ops.toList.length && (consB (masks L []) (pushIds C (L.take n)) && (coversX C (masks L []) (L.take n) cs &&
        (okItem ops x && ((L.take n).all (fun y => okX C ops (masks L []) x y && (!(Nat.beq y.1 x.1) && !(waitsFor y.2.1 x.1))) && (!(waitsFor x.2.1 x.1) && (restX (masks L []) x (L.take n) r && distinct (L.map (·.1))))))))) then
      aRunT C ops (L.take n) s (fun s' => panE C x.2.1 kx s' X) ∧ candsX C ops (masks L []) (L.take n) x kx s X cs else False
    | [] => False)
  | none => False

theorem candsX_spec {C : Cfg} {ops : Array Oper} {T : Masks} {l : List Item} {x : Item} {kx : Scr} {s : St} {X : Scr → Exit → St → Prop} : ∀ {cs : List (List Nat)}, candsX C ops T l x kx s X cs → ∀ c ∈ cs, pairsP C ops T (c.filterMap (pickI l)) = true ∧ (c.filterMap (pickI l)).length = l.length ∧
    aRun C ops (c.filterMap (pickI l)) s (fun s' => panE C x.2.1 kx s' X)
  | [], _, _, hc => by simp at hc
  | c0 :: r, h, c, hc => by
    unfold candsX at h
    cases hb : pairsP C ops T (c0.filterMap (pickI l)) && Nat.beq (c0.filterMap (pickI l)).length l.length with
    | false => rw [hb] at h; exact h.elim
    | true =>
      rw [hb] at h
      rw [Bool.and_eq_true] at hb
      rcases List.mem_cons.1 hc with rfl | hc
      · exact ⟨hb.1, beq_eq hb.2, aRunT_run _ h.1⟩
      · exact candsX_spec h.2 c hc

theorem Trip.drawnX {C : Cfg} (hC : COk C) {id : Nat} {ops : Array Oper} {ps : List (Nat × PD)} {n : Nat} {cs : List (List Nat)} {kx : Scr} {s : St} {X : Scr → Exit → St → Prop} (h : drawX C ops ps n cs kx s X) {Q : Exit → St → Prop} (hX : ∀ k' e s', X k' e s' → Q e s') : Trip C (.region id ops true) s Q := fun Z β w a hr => by
  unfold drawX at h
  split at h
  · rename_i L hL
    split at h
    · rename_i x r hdrop
      generalize hl : L.take n = l at h
      have hsplit : L = l ++ x :: r := by rw [← hl, ← hdrop, List.take_append_drop]
      generalize hTT : masks L [] = T at h
      cases hb : pairsP C ops T l && (Nat.beq ps.length ops.toList.length && (consB T (pushIds C l) && (coversX C T l cs && (okItem ops x && (l.all (fun y => okX C ops T x y && (!(Nat.beq y.1 x.1) && !(waitsFor y.2.1 x.1))) && (!(waitsFor x.2.1 x.1) && (restX T x l r && distinct (L.map (·.1))))))))) with
      | false => rw [hb] at h; exact h.elim
      | true =>
        rw [hb] at h
        simp only [cond_true] at h
        obtain ⟨hrun, hcs⟩ := h
        simp only [Bool.and_eq_true] at hb
        obtain ⟨hb1, hb2, hb3, hb4, hb5, hb6, hb7, hb8, hb9⟩ := hb
        have hlen := beq_eq hb2
        obtain ⟨p1, p2⟩ := pairsP_spec hb1
        obtain ⟨i1, i2⟩ := itemsOf_spec hL
        have i2 : ∀ x ∈ L, ops[x.1]? = some x.2.1 := fun x hx => by simpa using i2 x hx
        have hT : MOk ops T := by rw [← hTT]; exact masks_ok L [] (fun x hx => i2 x hx) (fun i m h => by simp at h)
        have hlL : ∀ y ∈ l, y ∈ L := fun y hy => by rw [hsplit]; exact List.mem_append_left _ hy
        have hxL : x ∈ L := by rw [hsplit]; simp
        unfold restX at hb8
        rw [List.all_eq_true] at hb6 hb8
        have hxx : waitsFor x.2.1 x.1 = false := by simpa using hb7
        have hrest : ∀ z ∈ r, Nat.testBit (maskAt T z.1) x.1 = true ∧ z.1 ≠ x.1 ∧ waitsFor x.2.1 z.1 = false ∧ ∀ y ∈ l, y.1 ≠ z.1 ∧ waitsFor y.2.1 z.1 = false := fun z hz => by
          have := hb8 z hz
          simp only [Bool.and_eq_true, Bool.not_eq_true', List.all_eq_true] at this
          obtain ⟨a1, a2, a3, a4⟩ := this
          exact ⟨a1, (fun e => by rw [e, Nat.beq_refl] at a2; cases a2), a3, fun y hy => ⟨(fun e => by have := (a4 y hy).1; rw [e, Nat.beq_refl] at this; cases this), (a4 y hy).2⟩⟩
        have hpre : ∀ y ∈ l, okX C ops T x y = true ∧ y.1 ≠ x.1 ∧ waitsFor y.2.1 x.1 = false := fun y hy => by
          have := hb6 y hy
          simp only [Bool.and_eq_true, Bool.not_eq_true'] at this
          exact ⟨this.1, (fun e => by have := this.2.1; rw [e, Nat.beq_refl] at this; cases this), this.2.2⟩
        have hq := hr.1.bx.quiet (w' := { w with drawn := w.drawn + 1 }) (Nat.le_refl _) (fun _ _ => rfl)
        have hr1 : RelM C Z β { w with drawn := w.drawn + 1 } a s := ⟨⟨hr.1.defers, hr.1.env.step hq.2 fun _ _ _ _ hj => ⟨hj, fun ha => ⟨ha, rfl⟩⟩, hq.1⟩, hr.2⟩
        have hx1 : Ext s.m Z β s.boxes w Z β s.boxes { w with drawn := w.drawn + 1 } := Ext.quiet rfl rfl rfl (Nat.le_refl _) (fun _ _ => rfl)
        have hXG : ∀ k' e s', s'.m = s.m → X k' e s' → Goes C s.m Z β s.boxes { w with drawn := w.drawn + 1 } s' ((fun e a' w' => ∃ Z' β' s', Q e s' ∧ s'.m = s.m ∧ RelM C Z' β' w' a' s' ∧ Ext s.m Z β s.boxes w Z' β' s'.boxes w') e) :=
          fun k' e s' em hk Z' β' a' w' h2 h3 => ⟨Z', β', s', hX k' e s' hk, em, h2, hx1.trans h3⟩
        have fam : ∀ τ : List Nat, τ.Perm (pushIds C l) → consB T τ = true → ∃ (l' : List Item) (X' : Scr → Exit → St → Prop), l'.Perm l ∧ pushIds C l' = τ ∧ aRun C ops l' s (fun s' => panE C x.2.1 kx s' X') ∧ l'.Pairwise (fun x y => okPairP C ops T x y = true) ∧
            (∀ k' e s', s'.m = s.m → X' k' e s' → Goes C s.m Z β s.boxes { w with drawn := w.drawn + 1 } s' ((fun e a' w' => ∃ Z' β' s', Q e s' ∧ s'.m = s.m ∧ RelM C Z' β' w' a' s' ∧ Ext s.m Z β s.boxes w Z' β' s'.boxes w') e)) := by
          intro τ hτ hcτ
          have hcov := hb4
          unfold coversX at hcov
          rw [List.all_eq_true] at hcov
          have := hcov τ (permsL_mem hτ)
          simp only [hcτ, Bool.not_true, Bool.false_or, Bool.or_eq_true] at this
          rcases this with h1 | h1
          · exact ⟨l, X, .refl _, (eqL_eq h1).symm, aRunT_run l hrun, p1, hXG⟩
          · rw [List.any_eq_true] at h1
            obtain ⟨c, hc, h1⟩ := h1
            obtain ⟨g1, g2, g3⟩ := candsX_spec hcs c hc
            obtain ⟨q1, q2⟩ := pairsP_spec g1
            refine ⟨_, X, perm_of_sub ?_ (fun x hx => ?_) (by rw [g2]; exact Nat.le_refl _), (eqL_eq h1).symm, g3, q1, hXG⟩
            · exact q1.imp fun {x y} hxy (e : x = y) => okPairP_ne hxy (congrArg (·.1) e)
            · obtain ⟨i, _, hi⟩ := List.mem_filterMap.1 hx
              exact pickI_mem hi
        have hUm : ∀ u, u ∈ x.1 :: r.map (·.1) → u = x.1 ∨ ∃ z ∈ r, z.1 = u := fun u hu => by
          rcases List.mem_cons.1 hu with h | h
          · exact .inl h
          · obtain ⟨z, hz, e⟩ := List.mem_map.1 h
            exact .inr ⟨z, hz, e⟩
        have hLl : L.length = l.length + (r.length + 1) := by rw [hsplit]; simp
        have hsz : ops.size = L.length := by rw [i1, hlen, Array.length_toList]
        refine wp_region_any hC.mixed (aRun_anyX hC hT (x0 := x) (U := x.1 :: r.map (·.1)) (i2 x hxL) hb5 (by simp) (fun u hu => ?_) (fun u hu hne => ?_) ops.size l (pushIds C l) _ hr1 fam ⟨_, .refl _, hb3⟩ p2 (fun y hy => i2 y (hlL y hy)) (fun y hy => ⟨(hpre y hy).1, fun u hu => ?_, fun hm => ?_⟩) (fun j => ?_) (by simp) (fun j o hj hlj => ?_) (by omega))
        · rcases hUm u hu with rfl | ⟨z, hz, rfl⟩
          · exact hxx
          · exact (hrest z hz).2.2.1
        · rcases hUm u hu with rfl | ⟨z, hz, rfl⟩
          · exact absurd rfl hne
          · exact (hrest z hz).1
        · rcases hUm u hu with rfl | ⟨z, hz, rfl⟩
          · exact (hpre y hy).2.2
          · exact ((hrest z hz).2.2.2 y hy).2
        · rcases hUm _ hm with e | ⟨z, hz, e⟩
          · exact (hpre y hy).2.1 e
          · exact ((hrest z hz).2.2.2 y hy).1 e.symm
        · have hget : (Array.replicate ops.size false).getD j true = false ↔ j < ops.size := by
            rw [Array.getD_eq_getD_getElem?, Array.getElem?_replicate]
            by_cases e : j < ops.size <;> simp [e]
          rw [hget]
          constructor
          · intro hj
            have hm := all_below ops.size (L.map (·.1)) (by
              rw [List.pairwise_iff_getElem]
              intro a b ha hb hab e
              exact absurd (distinct_spec hb9 a b _ (List.getElem?_eq_getElem ha) (by rw [e]; exact List.getElem?_eq_getElem hb)) (by omega)) (fun x hx => by
              obtain ⟨y, hy, rfl⟩ := List.mem_map.1 hx
              exact (Array.getElem?_eq_some_iff.1 (i2 y hy)).1) (by rw [List.length_map, hsz]; exact Nat.le_refl _) j hj
            obtain ⟨y, hy, e⟩ := List.mem_map.1 hm
            rw [hsplit] at hy
            rcases List.mem_append.1 hy with hy | hy
            · exact .inl ⟨y, hy, e⟩
            · right
              rcases List.mem_cons.1 hy with rfl | hy
              · rw [← e]; simp
              · rw [← e]; exact List.mem_cons_of_mem _ (List.mem_map.2 ⟨y, hy, rfl⟩)
          · have key : ∀ y ∈ L, y.1 < ops.size := fun y hy => (Array.getElem?_eq_some_iff.1 (i2 y hy)).1
            rintro (⟨y, hy, rfl⟩ | hj)
            · exact key y (hlL y hy)
            · rcases hUm j hj with rfl | ⟨z, hz, rfl⟩
              · exact key x hxL
              · exact key z (by rw [hsplit]; exact List.mem_append_right _ (List.mem_cons_of_mem _ hz))
        · exfalso
          rw [Array.getD_eq_getD_getElem?, Array.getElem?_replicate] at hlj
          split at hlj <;> simp at hlj
    · exact h.elim
  · exact h.elim

def drawS (C : Cfg) (ops : Array Oper) (X : Scr → Exit → St → Prop) : Scr → St → (Scr → St → Prop) → Prop
  | .emb b k1 k2, s, K => (b = true → drawS C ops X k1 s K) ∧ (b = false → drawS C ops X k2 s K)
  | .ex T k, s, K => ∃ t : T, drawS C ops X (k t) s K
  | .alt k1 k2, s, K => drawS C ops X k1 s K ∨ drawS C ops X k2 s K
  | .drP ps cs s1 k, s, K => drawP C ops ps cs s1 s (K k)
  | .dr ps k, s, K => drawE C ops ps s (K k)
  | .drX ps n cs k, s, _ => drawX C ops ps n cs k s X
  | _, _, _ => False

theorem drawS_trip {C : Cfg} (hC : COk C) {id : Nat} {ops : Array Oper} {s : St} {X : Scr → Exit → St → Prop} {K : Scr → St → Prop} {Q : Exit → St → Prop} (hX : ∀ k' e s', X k' e s' → Q e s') (hK : ∀ k' s', K k' s' → Q .normal s') : ∀ (k : Scr), drawS C ops X k s K → Trip C (.region id ops true) s Q := by
  intro k
  induction k with
  | emb b k1 k2 h1 h2 =>
    intro h
    cases b with
    | true => exact h1 (h.1 rfl)
    | false => exact h2 (h.2 rfl)
  | ex T k ih =>
    intro h
    obtain ⟨t, h⟩ := h
    exact ih t h
  | alt k1 k2 h1 h2 =>
    intro h
    rcases h with h | h
    · exact h1 h
    · exact h2 h
  | dr ps k ih => exact fun h => Trip.drawn hC h fun s' => hK k s'
  | drP ps cs s1 k ih => exact fun h => Trip.drawnP hC h fun s' => hK k s'
  | drX ps n cs k ih => exact fun h => Trip.drawnX hC h hX
  | _ => exact fun h => h.elim

end Go.Proofs.YtllannmegnklmaaE
