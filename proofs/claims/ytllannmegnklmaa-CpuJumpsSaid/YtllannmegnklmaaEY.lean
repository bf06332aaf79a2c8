/- A function that defers a call; the call that is deferred and recovers. -/
import Derived.Test.YtllannmegnklmaaE15
import Derived.Recover
set_option linter.unusedVariables false
set_option linter.unusedSimpArgs false
set_option linter.unnecessarySimpa false
namespace Go.Proofs.YtllannmegnklmaaE
open Go

/-- How the frame leaves: by a panic with that, or by none. -/
def modeOf : Option Value → FrameMode
  | none => .returning
  | some p => .panicking [⟨p, false, false⟩]

/-- Called as the frame leaves, it returns, and no panic is left. -/
def FunD (C : Cfg) (f : FuncId) (as : List AV) (bs : List Box) (u : Option Value) (bs' : List Box) : Prop :=
  ∀ Z β w vs, RelB C.E C.G Z β w bs → repAVs (mkX C.E Z β w bs) as vs →
    (callFunc f vs.toArray).run C.P w = .ok (.enter f vs.toArray) w ∧
      CallsD C.P f vs.toArray (modeOf u) w fun e u' w' => ∃ v, e = .returned v ∧ settle u' = .returning ∧ Post C Z β w bs (.tup []) bs' v w'

theorem enter_rel {C : Cfg} {Z : Nat → Prop} {β : Nat → Option (Nat × Nat)} {w : World} {as : List AV} {vs : List Value} {bs : List Box} {n nt : Nat} (hnt : n = nt) (hB : RelB C.E C.G Z β w bs) (hvs : repAVs (mkX C.E Z β w bs) as vs) :
    RelM C Z β w { tmps := vs.toArray ++ Array.replicate (n - vs.toArray.size) undef, defers := [] } ⟨as.map .v ++ List.replicate (nt - as.length) .any, bs, bs.length⟩ := by
  have key : ∀ (xs : List AV) (us : List Value), repAVs (mkX C.E Z β w bs) xs us → All2 (fun v t => repTm (mkX C.E Z β w bs) v t) us (xs.map .v) := by
    intro xs
    induction xs with
    | nil => intro us h; rw [show us = [] from h]; exact .nil
    | cons x xs ih =>
      rintro us ⟨v, us', e, h0, h⟩
      rw [e]
      exact .cons h0 (ih us' h)
  have h1 : RelE (mkX C.E Z β w bs) vs.toArray (as.map .v) := All2.toE (key as vs hvs)
  have hlen : vs.length = as.length := by have := h1.1; simpa using this
  refine ⟨⟨rfl, ⟨by simp [hlen, hnt], fun i v t h2 h3 => ?_⟩, hB⟩, Nat.le_refl _⟩
  by_cases hi : i < as.length
  · rw [Array.getElem?_append_left (by simp [hlen, hi])] at h2
    rw [List.getElem?_append_left (by simp [hi])] at h3
    exact h1.2 i v t h2 h3
  · rw [List.getElem?_append_right (by simp; omega)] at h3
    rw [List.getElem?_replicate] at h3
    split at h3
    · cases h3; trivial
    · cases h3

/-- What recover gives. -/
def recT : Option Value → Tm
  | none => .v (.one (.err none))
  | some p => .v (.one (.sc p))
def recV : Option Value → Value
  | none => .nilIface
  | some p => p
def modeR : Option Value → FrameMode
  | none => .returning
  | some p => .panicking [⟨p, true, false⟩]

theorem funD_of_run {C : Cfg} (hC : COk C) {f : FuncId} {fn : Func} {c2 : Code} {i : Nat} {o : Oper} (hf : C.P.funcs[f]? = some fn) (hb : fn.body = some (.seq (.region i #[o] false) c2)) (hname : (fn.name == "runtime.NumGoroutine") = false) {as : List AV} {bs bs' : List Box} {k : Scr}
    {u : Option Value} {d : Tmp} (ho : o.op = .call ⟨.builtin .recover, #[], #[]⟩) (hd : o.dst = some d) (hg : o.guard = none) (hrs : fn.results.toList = []) {nt : Nat} (hnt : fn.ntmps = nt) {l : Scr → List Adj} (hu : ∀ p, u = some p → p.oneCell' = true)
    (h : runE C c2 k ⟨putE (as.map .v ++ List.replicate (nt - as.length) .any) (some d) (recT u), bs, bs.length⟩ fun k' e s' => match e with
      | .normal => finE C [] (l k') s' (.tup []) bs'
      | .ret => finE C [] (l k') s' (.tup []) bs'
      | _ => False) : FunD C f as bs u bs' := by
  intro Z β w vs hB hvs
  refine ⟨?_, callsD_of_wpS hf hb fun c₀ cs hc₀ => ?_⟩
  · unfold callFunc
    rw [Sem.run_bind]
    show ((match C.P.funcs[f]? with | none => _ | some fn => _) : Sem Next).run C.P w = _
    rw [hf]
    simp [hname, hb]
  · have hR := enter_rel (n := fn.ntmps) hnt hB hvs
    generalize hA : ({ tmps := vs.toArray ++ Array.replicate (fn.ntmps - vs.toArray.size) undef, defers := [] } : Act) = a at hR ⊢
    have hrec : recoverD (c₀ :: cs) = u.map fun p => (p, { c₀ with mode := .panicking [⟨p, true, false⟩] } :: cs) := by
      obtain ⟨a1, a2, a3, a4, a5, a6, a7⟩ := c₀
      have hc₀ : a5 = modeOf u := hc₀
      subst hc₀
      cases u <;> rfl
    have hexec : (execOp a.eval o).run C.P w = .ok .recover w := by
      unfold execOp; rw [ho]; rfl
    have hw : Region.wanted o (yielded #[o] a.tmps) = true := by unfold Region.wanted; rw [hg]
    refine wpS_seq (wpS_region ?_)
    show wpOpsS C.P #[o] _ [0] a (c₀ :: cs) w
    simp only [wpOpsS]
    rw [show (#[o] : Array Oper)[0]? = some o from rfl]
    simp only [hw, if_true, hexec, hrec]
    have go : ∀ c₁ : Frame, c₁ = { c₀ with mode := modeR u } → Code.wpS C.P c2 (bodyPostS C.P fn c₀ cs fun e u' w' => ∃ v, e = .returned v ∧ settle u' = .returning ∧ Post C Z β w bs (.tup []) bs' v w') (a.put o.dst (recV u)) (c₁ :: cs) w := by
      intro c₁ hc₁
      refine wpS_of_wp ?_
      have hrep : repTm (mkX C.E Z β w bs) (recV u) (recT u) := by
        cases u with
        | none => exact ⟨rfl, rfl⟩
        | some p => exact ⟨⟨rfl, hu p rfl⟩, hu p rfl⟩
      have hR2 : RelM C Z β w (a.put o.dst (recV u)) ⟨putE (as.map .v ++ List.replicate (nt - as.length) .any) (some d) (recT u), bs, bs.length⟩ :=
        ⟨⟨by rw [put_defers]; exact hR.1.defers, by rw [← hd]; exact RelE.putE hR.1.env hrep, hR.1.bx⟩, hR.2⟩
      refine wp_mono (runE_trip hC c2 h Z β w _ hR2) ?_
      rintro e a' w' ⟨Z1, β1, s1, ⟨k', hk⟩, hm, hr1, hx1⟩
      have fin : finE C [] (l k') s1 (.tup []) bs' → a'.defers = [] ∧ ∃ u', c₁ :: cs = { c₀ with mode := u' } :: cs ∧ ∃ v, (results fn a'.tmps).run C.P w' = .ok v w' ∧ ∃ v', Ending.returned v = .returned v' ∧ settle u' = .returning ∧ Post C Z β w bs (.tup []) bs' v' w' := fun hfin => by
        obtain ⟨g1, v, g2, v', e2, g3⟩ := finE_post hC hrs hr1 hm hx1 hfin
        refine ⟨g1, modeR u, by rw [hc₁], v, g2, v', e2, ?_, g3⟩
        cases u <;> rfl
      cases e with
      | normal => exact fin hk
      | ret => exact fin hk
      | _ => exact hk.elim
    cases u with
    | none => exact go c₀ (by cases c₀; cases hc₀; rfl)
    | some p => exact go _ rfl

/-- A region's operation. -/
def opAt : Code → Nat → Oper
  | .region _ ops _, i => ops.getD i ⟨none, .move (.const .nilIface), 0, "", #[], none⟩
  | _, _ => ⟨none, .move (.const .nilIface), 0, "", #[], none⟩

/-! ### Codes one behind the other, by the script; then another -/
def seqs : List Code → Code → Code
  | [], y => y
  | x :: r, y => .seq x (seqs r y)
def runs (C : Cfg) : List Code → Scr → St → (Scr → Exit → St → Prop) → Prop
  | [], k, s, K => K k .normal s
  | x :: r, k, s, K => runE C x k s fun k e s => match e with
    | .normal => runs C r k s K
    | e => K k e s

theorem runs_wp {C : Cfg} (hC : COk C) {y : Code} {Q : Exit → Act → World → Prop} : ∀ (L : List Code) {k : Scr} {s : St} {K : Scr → Exit → St → Prop}, runs C L k s K → ∀ {Z : Nat → Prop} {β : Nat → Option (Nat × Nat)} {w : World} {a : Act}, RelM C Z β w a s →
    (∀ k' e s' Z' β' a' w', K k' e s' → s'.m = s.m → RelM C Z' β' w' a' s' → Ext s.m Z β s.boxes w Z' β' s'.boxes w' → Exit.then (y.wp C.P Q) Q e a' w') → (seqs L y).wp C.P Q a w
  | [], k, s, K, h, Z, β, w, a, hr, hK => hK k .normal s Z β a w h rfl hr (Ext.refl ..)
  | x :: r, k, s, K, h, Z, β, w, a, hr, hK => by
    refine wp_seq (wp_mono (runE_trip hC x h Z β w a hr) ?_)
    rintro e a' w' ⟨Z', β', s', ⟨k', hk⟩, hm, hr', hx⟩
    cases e with
    | normal =>
      refine runs_wp hC r hk hr' fun k2 e2 s2 Z2 β2 a2 w2 h2 hm2 hr2 hx2 => ?_
      rw [hm] at hx2
      exact hK k2 e2 s2 Z2 β2 a2 w2 h2 (hm2.trans hm) hr2 (hx.trans hx2)
    | _ => exact hK k' _ s' Z' β' a' w' hk hm hr' hx

/-! ### The frame leaves -/
def defC (C : Cfg) (x : Operand) (u : Option Value) (rs : List ResultVar) (l : Scr → List Adj) (k : Scr) (s : St) (r : Tm) (bs' : List Box) : Prop := match k with
  | .callR full hs σ T _ sb k' => ∃ t : T, (match fnOf (evalO C.E s.env x) with
    | some (fd, ts) => (match lCallG (fun as b => FunD C fd as b u (sb t)) s.env s.boxes ts full hs σ (.tup []) (sb t) with
      | some r5 => r5.keeps s.m = true ∧ r5.φ ∧ finE C rs (l (k' t)) ⟨r5.env, r5.bs, s.m⟩ r bs'
      | none => False)
    | none => False)
  | _ => False

theorem defC_leaves {C : Cfg} (hC : COk C) {fn : Func} {rs : List ResultVar} (hrs : fn.results.toList = rs) {l : Scr → List Adj} {x : Operand} {u : Option Value} {k : Scr} {s : St} {r : Tm} {bs0 bs' : List Box} (h : defC C x u rs l k s r bs')
    {Z0 Z : Nat → Prop} {β0 β : Nat → Option (Nat × Nat)} {w0 w : World} {a : Act} (hB : RelB C.E C.G Z β w s.boxes) (hE : RelE (mkX C.E Z β w s.boxes) a.tmps s.env) (hm : s.m ≤ s.boxes.length) (hm0 : s.m = bs0.length) (hx : Ext bs0.length Z0 β0 bs0 w0 Z β s.boxes w)
    {d : Deferred} (hd : ∀ f cap, a.eval x = .func (.func f) #[] cap → d = { target := .fn (.func f) cap, args := #[] }) :
    Leaves C.P fn a.tmps (fun e w' => ∃ v, e = .returned v ∧ Post C Z0 β0 w0 bs0 r bs' v w') [d] (modeOf u) w := by
  unfold defC at h
  split at h
  · rename_i full hs σ T sh sb k'
    obtain ⟨t, h⟩ := h
    split at h
    · rename_i fd ts hfn
      split at h
      · rename_i r5 hr5
        obtain ⟨hk, hφ, hfin⟩ := h
        obtain ⟨us, hv, hall⟩ := fnOf_rep hfn (evalO_rep hE x)
        rw [hd fd us.toArray hv]
        refine lCallG_core hm hB hE hall hr5 hφ (N := fun _ w' => ∃ v, (results fn a.tmps).run C.P w' = .ok v w' ∧ ∃ v', Ending.returned v = .returned v' ∧ Post C Z0 β0 w0 bs0 r bs' v' w') (fun v Z' β' w' _ h2 h3 h4 => ?_) fun as b Zc βc hp hBc hvc after => ?_
        · rw [hm0] at h4
          exact (finE_post hC (Z := Z0) (β := β0) (w := w0) (a' := ⟨a.tmps, []⟩) (s1 := ⟨r5.env, r5.bs, s.m⟩) hrs ⟨⟨rfl, h2, h3⟩, Nat.le_of_ble_eq_true hk⟩ hm0 (hx.trans h4) hfin).2
        · obtain ⟨g1, g2⟩ := hp Zc βc w us hBc hvc
          refine leaves_cons (f := fd) (args := us.toArray) (by cases u <;> simp [modeOf]) ?_ (CallsD.mono g2 ?_)
          · show (callFunc fd (#[] ++ us.toArray)).run C.P w = _
            rw [show #[] ++ us.toArray = us.toArray by simp]
            exact g1
          · rintro e u' w' ⟨v, rfl, hs, hpost⟩
            show Leaves C.P fn a.tmps _ [] (settle u') w'
            rw [hs]
            exact after v w' hpost
      · exact h.elim
    · exact h.elim
  · exact h.elim

def retC (C : Cfg) (x : Operand) (o4 : Oper) (f4 : FuncId) (ts4 : List Tm) (rs : List ResultVar) (l : Scr → List Adj) (k : Scr) (s : St) (r : Tm) (bs' : List Box) : Prop := match k with
  | .callR full hs σ T sh sb k' => ∃ t : T, (match lCallR C s.env s.boxes f4 ts4 full hs σ (sh t) (sb t) with
    | some r4 => r4.keeps s.m = true ∧ r4.φ ∧ defC C x none rs l (k' t) ⟨putE r4.env o4.dst r4.tm, r4.bs, s.m⟩ r bs'
    | none => False)
  | _ => False
def panC (C : Cfg) (x : Operand) (f4 : FuncId) (ts4 : List Tm) (rs : List ResultVar) (l : Scr → List Adj) (k : Scr) (s : St) (r : Tm) (bs' : List Box) : Prop := match k with
  | .callX full hs σ T sv sb k' => ∃ t : T, (match lCallX C s.env s.boxes f4 ts4 full hs σ (sv t) (sb t) with
    | some r4 => r4.keeps s.m = true ∧ r4.φ ∧ defC C x (some (sv t)) rs l (k' t) ⟨r4.env, r4.bs, s.m⟩ r bs'
    | none => False)
  | _ => False
def callE (C : Cfg) (x : Operand) (o4 : Oper) (rs : List ResultVar) (l : Scr → List Adj) (k : Scr) (s : St) (r : Tm) (bs' : List Box) : Prop := match o4.op with
  | .call c => (match callF C s.env c with
    | some (f4, ts4) => (match k with
      | .orx k1 k2 => panC C x f4 ts4 rs l k1 s r bs' ∨ retC C x o4 f4 ts4 rs l k2 s r bs'
      | k => retC C x o4 f4 ts4 rs l k s r bs')
    | none => False)
  | _ => False
def isTmp (t : Tmp) : Option Tmp → Bool
  | some d => Nat.beq d t
  | none => false
def deferE (C : Cfg) (o1 o2 o3 o4 : Oper) (rs : List ResultVar) (l : Scr → List Adj) (k : Scr) (s : St) (r : Tm) (bs' : List Box) : Prop := match stepO C s.env s.boxes o1.op .no with
  | some r1 => r1.keeps s.m = true ∧ r1.φ ∧ (match o2.op with
    | .defer ⟨.value (.tmp t), args, _⟩ => (match fnOf (evalO C.E (putE r1.env o1.dst r1.tm) (.tmp t)), args.toList.isEmpty, isTmp t o2.dst || isTmp t o3.dst || isTmp t o4.dst with
      | some _, true, false => (match stepO C (putE (putE r1.env o1.dst r1.tm) o2.dst .any) r1.bs o3.op .no with
        | some r3 => r3.keeps s.m = true ∧ r3.φ ∧ callE C (.tmp t) o4 rs l k ⟨putE r3.env o3.dst r3.tm, r3.bs, s.m⟩ r bs'
        | none => False)
      | _, _, _ => False)
    | _ => False)
  | none => False

theorem put_eval {a : Act} {dst : Option Tmp} {v : Value} {t : Tmp} (h : isTmp t dst = false) : (a.put dst v).eval (.tmp t) = a.eval (.tmp t) := by
  cases dst with
  | none => rfl
  | some d =>
    have hne : d ≠ t := fun e => by
      have h : Nat.beq d t = false := h
      rw [e, Nat.beq_refl] at h
      cases h
    show (a.tmps.setIfInBounds d v).getD t undef = a.tmps.getD t undef
    rw [Array.getD_eq_getD_getElem?, Array.getD_eq_getD_getElem?, Array.getElem?_setIfInBounds_ne hne]
theorem wpOp_free {P : Program} {ops : Array Oper} {Q : Exit → Act → World → Prop} {i : Nat} {o : Oper} {K : Act → World → Prop} {a : Act} {w : World} (hi : ops[i]? = some o) (hg : o.guard = none) (h : o.wp P a w K Q) : wpOp P ops Q i K a w := by
  unfold wpOp
  simp only [hi]
  have hw : Region.wanted o (yielded ops a.tmps) = true := by unfold Region.wanted; rw [hg]
  rw [if_pos hw]
  exact .inl h

theorem funS_of_run {C : Cfg} (hC : COk C) {f : FuncId} {fn : Func} {L : List Code} {i3 i4 : Nat} {o1 o2 o3 o4 : Oper} (hf : C.P.funcs[f]? = some fn) (hb : fn.body = some (seqs L (.seq (.region i3 #[o1, o2] false) (.seq (.region i4 #[o3, o4] false) .ret)))) (hname : (fn.name == "runtime.NumGoroutine") = false)
    {as : List AV} {bs bs' : List Box} {r : Tm} {k : Scr} {rs : List ResultVar} (hrs : fn.results.toList = rs) {nt : Nat} (hnt : fn.ntmps = nt) {l : Scr → List Adj} (hg1 : o1.guard = none) (hg2 : o2.guard = none) (hg3 : o3.guard = none) (hg4 : o4.guard = none)
    (h : runs C L k ⟨as.map .v ++ List.replicate (nt - as.length) .any, bs, bs.length⟩ fun k' e s' => match e with
      | .normal => deferE C o1 o2 o3 o4 rs l k' s' r bs'
      | .ret => finE C rs (l k') s' r bs'
      | _ => False) : Fun C f as bs r bs' := by
  intro Z β w vs hB hvs
  refine .inr ⟨?_, calls_of_wp_defers hf hb ?_⟩
  · unfold callFunc
    rw [Sem.run_bind]
    show ((match C.P.funcs[f]? with | none => _ | some fn => _) : Sem Next).run C.P w = _
    rw [hf]
    simp [hname, hb]
  · have hR := enter_rel (n := fn.ntmps) hnt hB hvs
    refine runs_wp hC L h hR fun k' e s' Z1 β1 a1 w1 hk hm hr1 hx1 => ?_
    have hm : s'.m = bs.length := hm
    have hx1 : Ext bs.length Z β bs w Z1 β1 s'.boxes w1 := hx1
    cases e with
    | ret =>
      show Leaves C.P fn a1.tmps _ a1.defers .returning w1
      rw [hr1.1.defers]
      exact (finE_post hC hrs hr1 hm hx1 hk).2
    | normal =>
      have hk : deferE C o1 o2 o3 o4 rs l k' s' r bs' := hk
      unfold deferE at hk
      split at hk
      · rename_i r1 hq1
        obtain ⟨hk1, hφ1, hk⟩ := hk
        split at hk
        · rename_i t dargs ats ho2
          split at hk
          · rename_i ft hfn hargs hdst
            obtain rfl : dargs = #[] := by
              apply Array.ext'
              simpa using hargs
            split at hk
            · rename_i r3 hq3
              obtain ⟨hk3, hφ3, hk⟩ := hk
              simp only [Bool.or_eq_false_iff] at hdst
              obtain ⟨⟨hd2, hd3⟩, hd4⟩ := hdst
              obtain ⟨fd, ts⟩ := ft
              show (Code.seq (.region i3 #[o1, o2] false) (.seq (.region i4 #[o3, o4] false) .ret)).wp C.P _ a1 w1
              refine wp_seq (wp_region ?_)
              show wpOps C.P #[o1, o2] _ [0, 1] a1 w1
              rw [wpOps_cons]
              refine wpOp_free (o := o1) rfl hg1 (stepO_wp hC hr1.2 hr1.1.bx hr1.1.env hq1 hφ1 fun v1 Z2 β2 w2 p1 p2 p3 p4 => ?_)
              show wpOps C.P #[o1, o2] _ [1] (a1.put o1.dst v1) w2
              rw [wpOps_cons]
              refine wpOp_free (o := o2) rfl hg2 ?_
              have hE2 := p2.putE (dst := o1.dst) p1
              obtain ⟨us, hv, _⟩ := fnOf_rep hfn (evalO_rep hE2 (.tmp t))
              have hexec : (execOp (a1.put o1.dst v1).eval o2).run C.P w2 = .ok (.defer { target := .fn (.func fd) us.toArray, args := #[] }) w2 := by
                unfold execOp; rw [ho2]
                simp only [resolve, hv, Deferred.ofValue, Sem.run_bind, Sem.run_pure, Result.andThen_ok]
                simp
              unfold Oper.wp
              rw [hexec, Oper.upon_defer]
              generalize hA2 : ({ (a1.put o1.dst v1) with defers := { target := .fn (.func fd) us.toArray, args := #[] } :: (a1.put o1.dst v1).defers } : Act).put o2.dst undef = a2
              have ht2 : a2.tmps = ((a1.put o1.dst v1).put o2.dst undef).tmps := by rw [← hA2]; cases o2.dst <;> rfl
              have hdf2 : a2.defers = [{ target := .fn (.func fd) us.toArray, args := #[] }] := by rw [← hA2, put_defers]; show _ :: (a1.put o1.dst v1).defers = _; rw [put_defers, hr1.1.defers]
              have hE2' : RelE (mkX C.E Z2 β2 w2 r1.bs) a2.tmps (putE (putE r1.env o1.dst r1.tm) o2.dst .any) := by
                rw [ht2]
                exact RelE.putE (a := a1.put o1.dst v1) hE2 trivial
              have hev2 : a2.eval (.tmp t) = .func (.func fd) #[] us.toArray := by
                have : a2.eval (.tmp t) = ((a1.put o1.dst v1).put o2.dst undef).eval (.tmp t) := by show a2.tmps.getD t undef = _; rw [ht2]; rfl
                rw [this, put_eval hd2, hv]
              have hm2 : s'.m ≤ r1.bs.length := Nat.le_of_ble_eq_true hk1
              have hx2 : Ext bs.length Z β bs w Z2 β2 r1.bs w2 := by rw [hm] at p4; exact hx1.trans p4
              show (Code.seq (.region i4 #[o3, o4] false) .ret).wp C.P _ a2 w2
              refine wp_seq (wp_region ?_)
              show wpOps C.P #[o3, o4] _ [0, 1] a2 w2
              rw [wpOps_cons]
              refine wpOp_free (o := o3) rfl hg3 (stepO_wp hC hm2 p3 hE2' hq3 hφ3 fun v3 Z3 β3 w3 q1 q2 q3 q4 => ?_)
              show wpOps C.P #[o3, o4] _ [1] (a2.put o3.dst v3) w3
              rw [wpOps_cons]
              have hE3 := q2.putE (dst := o3.dst) q1
              have hm3 : s'.m ≤ r3.bs.length := Nat.le_of_ble_eq_true hk3
              have hx3 : Ext bs.length Z β bs w Z3 β3 r3.bs w3 := by rw [hm] at q4; exact hx2.trans q4
              have hev3 : (a2.put o3.dst v3).eval (.tmp t) = .func (.func fd) #[] us.toArray := by rw [put_eval hd3, hev2]
              have hdf3 : (a2.put o3.dst v3).defers = [{ target := .fn (.func fd) us.toArray, args := #[] }] := by rw [put_defers, hdf2]
              refine wpOp_free (o := o4) rfl hg4 ?_
              unfold callE at hk
              split at hk
              · rename_i c ho4
                split at hk
                · rename_i f4 ts4 hcal
                  have ret : ∀ k2, retC C (.tmp t) o4 f4 ts4 rs l k2 ⟨putE r3.env o3.dst r3.tm, r3.bs, s'.m⟩ r bs' → o4.wp C.P (a2.put o3.dst v3) w3 (wpOps C.P #[o3, o4] (Exit.then (Code.ret.wp C.P (bodyPostD C.P fn fun e w' => ∃ v, e = .returned v ∧ Post C Z β w bs r bs' v w')) (bodyPostD C.P fn fun e w' => ∃ v, e = .returned v ∧ Post C Z β w bs r bs' v w')) []) (Exit.then (Code.ret.wp C.P (bodyPostD C.P fn fun e w' => ∃ v, e = .returned v ∧ Post C Z β w bs r bs' v w')) (bodyPostD C.P fn fun e w' => ∃ v, e = .returned v ∧ Post C Z β w bs r bs' v w')) := fun k2 hk2 => by
                    unfold retC at hk2
                    split at hk2
                    · rename_i full hs σ T sh sb k3
                      obtain ⟨tt, hk2⟩ := hk2
                      split at hk2
                      · rename_i r4 hq4
                        obtain ⟨hk4, hφ4, hdef⟩ := hk2
                        refine lCallR_wp hC hm3 q3 hE3 ho4 hcal hq4 hφ4 fun v4 Z4 β4 w4 y1 y2 y3 y4 => ?_
                        show Code.ret.wp C.P _ ((a2.put o3.dst v3).put o4.dst v4) w4
                        refine wp_ret ?_
                        show Leaves C.P fn ((a2.put o3.dst v3).put o4.dst v4).tmps _ ((a2.put o3.dst v3).put o4.dst v4).defers .returning w4
                        rw [put_defers, hdf3]
                        rw [hm] at y4
                        refine defC_leaves hC hrs hdef y3 (y2.putE y1) (Nat.le_of_ble_eq_true hk4) hm (hx3.trans y4) fun f' cap he => ?_
                        rw [put_eval hd4, hev3] at he
                        cases he
                        rfl
                      · exact hk2.elim
                    · exact hk2.elim
                  split at hk
                  · rename_i k1 k2 _
                    rcases hk with hk | hk
                    · unfold panC at hk
                      split at hk
                      · rename_i full hs σ T sv sb k3 _
                        obtain ⟨tt, hk⟩ := hk
                        split at hk
                        · rename_i r4 hq4
                          obtain ⟨hk4, hφ4, hdef⟩ := hk
                          refine lCallX_wp hC hm3 q3 hE3 ho4 hcal hq4 hφ4 fun v4 Z4 β4 w4 y1 y2 y3 y4 => ?_
                          show Leaves C.P fn (a2.put o3.dst v3).tmps _ (a2.put o3.dst v3).defers (modeOf (some (sv tt))) w4
                          rw [hdf3]
                          rw [hm] at y4
                          refine defC_leaves hC hrs hdef y3 y2 (Nat.le_of_ble_eq_true hk4) hm (hx3.trans y4) fun f' cap he => ?_
                          rw [hev3] at he
                          cases he
                          rfl
                        · exact hk.elim
                      · exact hk.elim
                    · exact ret k2 hk
                  · exact ret _ hk
                · exact hk.elim
              · exact hk.elim
            · exact hk.elim
          · exact hk.elim
        · exact hk.elim
      · exact hk.elim
    | _ => exact hk.elim

end Go.Proofs.YtllannmegnklmaaE
