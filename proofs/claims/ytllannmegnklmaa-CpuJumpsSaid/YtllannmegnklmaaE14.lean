/- Regions whose order is drawn. -/
import Derived.Test.YtllannmegnklmaaE13
set_option linter.unusedVariables false
set_option linter.unusedSimpArgs false
set_option linter.unnecessarySimpa false
namespace Go.Proofs.YtllannmegnklmaaE
open Go

/-! ### What an operation looks at -/
def Alike (E : TypeId) (env env' : List Tm) (op : Op) : Prop := ∀ x ∈ op.operands.toList, evalO E env x = evalO E env' x

theorem optI_congr {E : TypeId} {env env' : List Tm} {x : Option Operand} (h : ∀ y, x = some y → evalO E env y = evalO E env' y) : optI E env x = optI E env' x := by
  cases x with
  | none => rfl
  | some y => simp only [optI, h y rfl]

theorem partsA_congr {E : TypeId} {env env' : List Tm} : ∀ {l : List (Nat × Operand)}, (∀ x ∈ l.map (·.2), evalO E env x = evalO E env' x) → partsA E env l = partsA E env' l
  | [], _ => rfl
  | (i, x) :: r, h => by
    simp only [partsA]
    rw [h x (by simp), partsA_congr (l := r) fun y hy => h y (by simp only [List.map_cons, List.mem_cons]; exact .inr hy)]

theorem qCall_congr {E : TypeId} {L : List (Nat × TI)} {env env' : List Tm} {bs : List Box} {c : Call} (h : ∀ x ∈ c.args.toList, evalO E env x = evalO E env' x) : qCall E L env bs c = qCall E L env' bs c := by
  unfold qCall
  split
  · rename_i x t _ h2 _
    rw [h x (by rw [h2]; simp)]
  · rename_i x t _ h2 _
    rw [h x (by rw [h2]; simp)]
  · rename_i x y _ h2
    rw [h x (by rw [h2]; simp), h y (by rw [h2]; simp)]
  · rename_i x y _ h2
    rw [h x (by rw [h2]; simp), h y (by rw [h2]; simp)]
  · rfl

theorem qOp_congr {E : TypeId} {L : List (Nat × TI)} {env env' : List Tm} {bs : List Box} {op : Op} {d : OD} (h : Alike E env env' op) : qOp E L env bs op d = qOp E L env' bs op d := by
  unfold Alike at h
  cases op <;> first | (simp only [qOp]; done) | rfl | skip
  case build t parts =>
    have h : ∀ x ∈ parts.toList.map (·.2), evalO E env x = evalO E env' x := by simpa [Op.operands] using h
    simp only [qOp, qBuildA, qBuildS, partsA_congr h]
  case slice t x lo hi mx =>
    have h1 := optI_congr (E := E) (env := env) (env' := env') (x := lo) fun y hy => h y (by rw [hy]; simp [Op.operands])
    have h2 := optI_congr (E := E) (env := env) (env' := env') (x := hi) fun y hy => h y (by rw [hy]; simp [Op.operands])
    have h3 := optI_congr (E := E) (env := env) (env' := env') (x := mx) fun y hy => h y (by rw [hy]; simp [Op.operands])
    have h4 := h x (by simp [Op.operands])
    simp only [qOp, h1, h2, h3, h4]
  case call c =>
    simp only [qOp]
    exact qCall_congr fun x hx => h x (by simp only [Op.operands, Call.operands, Array.toList_append, List.mem_append]; exact .inr hx)
  case makeFunc fn first captured =>
    have hc : partsC E env captured.toList = partsC E env' captured.toList := by
      have h : ∀ x ∈ captured.toList, evalO E env x = evalO E env' x := fun x hx => h x (by simp only [Op.operands, Array.toList_append, List.mem_append]; exact .inr hx)
      generalize captured.toList = l at h
      induction l with
      | nil => rfl
      | cons x l ih => simp only [partsC, h x (by simp), ih fun y hy => h y (by simp [hy])]
    simp only [qOp, qFunc, hc]
  all_goals
    simp only [Op.operands, List.mem_cons, List.not_mem_nil, or_false, forall_eq_or_imp, forall_eq] at h
    simp only [qOp, qBin, h]

/-! ### More boxes -/
theorem get_more {bs l : List Box} {i : Nat} {b : Box} (h : bs[i]? = some b) : (bs ++ l)[i]? = some b := by
  rw [List.getElem?_append_left (List.getElem?_eq_some_iff.1 h).1]; exact h
theorem bAl_more {bs l : List Box} {i : Nat} (h : bAl bs i = true) : bAl (bs ++ l) i = true := by
  rw [show bAl (bs ++ l) i = bAl bs i by unfold bAl; rw [List.getElem?_append_left (bAl_lt h)]]; exact h
theorem okAl_more {bs l : List Box} {x : Tm} (h : x.okAl bs = true) : x.okAl (bs ++ l) = true := by
  cases x with
  | v x => cases x with
    | one c => cases c <;> first | rfl | exact bAl_more h
    | _ => rfl
  | _ => rfl
theorem rowAt_more {bs l : List Box} {id base : Nat} {r : Nat × (t : Ty) × List t.T} (h : rowAt? bs id base = some r) : rowAt? (bs ++ l) id base = some r := by
  unfold rowAt? at h ⊢
  split at h
  · rename_i hb; rw [get_more hb]; exact h
  · rename_i hb; rw [get_more hb]; exact h
  · rename_i hb; rw [get_more hb]; exact h
  · cases h
theorem viewS_more {u : Ty} {bs l : List Box} {full : Bool} {x : Tm} {r : Prop × List u.T} (h : viewS u bs full x = some r) : viewS u (bs ++ l) full x = some r := by
  cases x with
  | v x => cases x with
    | one c => cases c with
      | os id base lo esz len cap =>
        simp only [viewS] at h ⊢
        split at h
        · rename_i m u' l' hr
          rw [rowAt_more hr]; exact h
        · cases h
      | sc v => cases v with
        | slice a n c => cases a with
          | none => cases n with
            | zero => cases c <;> exact h
            | succ _ => exact h
          | some _ => exact h
        | _ => exact h
      | _ => exact h
    | _ => exact h
  | _ => exact h
theorem qLoad_more {L : List (Nat × TI)} {bs l : List Box} {t : TypeId} {x : Tm} {r : Prop × Tm} (h : qLoad L bs t x = some r) : qLoad L (bs ++ l) t x = some r := by
  unfold qLoad at h ⊢
  cases hl : look L t with
  | none => rw [hl] at h; cases h
  | some ti =>
    rw [hl] at h
    simp only at h ⊢
    split at h
    · rename_i id o
      split at h
      · rename_i hb; rw [get_more hb]; exact h
      · rename_i hb; rw [get_more hb]; exact h
      · rename_i hb; rw [get_more hb]; exact h
      · cases h
    · exact h
    · cases h

theorem ifc_more {bs l : List Box} {t : TypeId} {y z : Cell} (h : ifc bs t y = some z) : ifc (bs ++ l) t y = some z := by
  unfold ifc at h ⊢
  split at h
  · obtain ⟨hb, h⟩ := cond_some h
    rw [Bool.and_eq_true] at hb
    simp only [hb.1, bAl_more hb.2, Bool.and_self, cond_true]; exact h
  · exact h
theorem ifc_eq {bs bs2 : List Box} (hb : ∀ i, bAl bs2 i = bAl bs i) (t : TypeId) (y : Cell) : ifc bs2 t y = ifc bs t y := by
  unfold ifc
  split
  · rw [hb]
  · rfl
theorem qOp_more {E : TypeId} {L : List (Nat × TI)} {env : List Tm} {bs l : List Box} {op : Op} {d : OD} {r : Prop × Tm} (h : qOp E L env bs op d = some r) : qOp E L env (bs ++ l) op d = some r := by
  cases op <;> first | (exact h; done) | skip
  case load t x =>
    simp only [qOp] at h ⊢
    obtain ⟨ha, h⟩ := cond_some h
    rw [okAl_more ha, cond_true]
    exact qLoad_more h
  case nilCheck x =>
    simp only [qOp] at h ⊢
    split at h
    · rename_i id o he
      obtain ⟨ha, h⟩ := cond_some h
      simp only [bAl_more ha, cond_true]; exact h
    · exact h
    · exact h
    · cases h
  case makeInterface t x =>
    simp only [qOp] at h ⊢
    split at h
    · exact h
    · split at h
      · rename_i z hz
        rw [ifc_more hz]; exact h
      · cases h
    · exact h
    · cases h
  case binOp op t x y t2 =>
    simp only [qOp, qBin] at h ⊢
    split at h
    · exact h
    · exact h
    · split at h
      · rename_i ti hl
        obtain ⟨ha, h⟩ := cond_some h
        simp only [okAl_more ha, cond_true]; exact h
      · cases h
  case convert s t x =>
    simp only [qOp, qConvert] at h ⊢
    split at h
    · split at h
      · exact h
      · exact h
      · split at h
        · split at h
          · split at h
            · rename_i hv
              rw [viewS_more hv]; exact h
            · cases h
          · cases h
        · cases h
      · cases h
    · cases h
  case slice t x lo hi mx =>
    simp only [qOp] at h ⊢
    split at h
    · split at h
      · split at h
        · rename_i hb hl
          rw [get_more hb, hl]; exact h
        · cases h
      · obtain ⟨ha, h⟩ := cond_some h
        rw [okAl_more ha, cond_true]; exact h
    · cases h
  case fieldAddr t x f =>
    simp only [qOp] at h ⊢
    obtain ⟨ha, h⟩ := cond_some h
    rw [okAl_more ha, cond_true]; exact h
  case indexAddr t x i =>
    simp only [qOp] at h ⊢
    split at h
    · obtain ⟨ha, h⟩ := cond_some h
      simp only [okAl_more ha, cond_true]; exact h
    · cases h
  case sliceToArrayPointer t x =>
    simp only [qOp, qArrPtr] at h ⊢
    split at h
    · split at h
      · split at h
        · obtain ⟨ha, h⟩ := cond_some h
          rw [Bool.and_eq_true] at ha
          simp only [ha.1, bAl_more ha.2, Bool.and_self, cond_true]; exact h
        · exact h
        · cases h
      · cases h
    · cases h
  case call c =>
    simp only [qOp, qCall] at h ⊢
    split at h
    · obtain ⟨ha, h⟩ := cond_some h
      simp only [okAl_more ha, cond_true]; exact h
    · exact h
    · exact h
    · exact h
    · cases h

theorem coC_more {bs l : List Box} {full : Bool} {hs : List Ty} {x : Cell} {r : Co Cell} (h : coC bs full hs x = some r) : coC (bs ++ l) full hs x = some r := by
  unfold coC at h ⊢
  split at h
  · split at h
    · rename_i hrow
      rw [rowAt_more hrow]
      simp only
      split at h
      · rename_i hv
        rw [viewS_more hv]
        exact h
      · cases h
    · cases h
  · exact h
  · cases h
  · cases h
  · exact h
  · exact h
theorem coPs_more {bs l : List Box} {full : Bool} : ∀ {xs : List Piece} {hs : List Ty} {r : Co (List Piece)}, coPs bs full hs xs = some r → coPs (bs ++ l) full hs xs = some r
  | [], _, _, h => h
  | .c x :: xs, hs, r, h => by
    simp only [coPs] at h ⊢
    split at h
    · rename_i r1 h1
      rw [coC_more h1]
      simp only
      split at h
      · rename_i q hq
        rw [coPs_more hq]
        exact h
      · cases h
    · cases h
  | .row n t li :: xs, hs, r, h => by
    simp only [coPs] at h ⊢
    split at h
    · rename_i q hq
      rw [coPs_more hq]
      exact h
    · cases h
theorem coAVs_more {bs l : List Box} {full : Bool} : ∀ {xs : List Tm} {hs : List Ty} {r : Co (List AV)}, coAVs bs full hs xs = some r → coAVs (bs ++ l) full hs xs = some r
  | [], _, _, h => h
  | .v x :: xs, hs, r, h => by
    have one : ∀ {q : Co AV}, coAV bs full hs x = some q → coAV (bs ++ l) full hs x = some q := fun {q} hq => by
      cases x with
      | one c =>
        simp only [coAV] at hq ⊢
        split at hq
        · rename_i r1 h1; rw [coC_more h1]; exact hq
        · cases hq
      | agg ps =>
        simp only [coAV] at hq ⊢
        split at hq
        · rename_i r1 h1; rw [coPs_more h1]; exact hq
        · cases hq
      | clo f sh ps =>
        simp only [coAV] at hq ⊢
        split at hq
        · rename_i r1 h1; rw [coPs_more h1]; exact hq
        · cases hq
    simp only [coAVs] at h ⊢
    split at h
    · rename_i r1 h1
      rw [one h1]
      simp only
      split at h
      · rename_i q hq
        rw [coAVs_more hq]
        exact h
      · cases h
    · cases h
  | .any :: _, _, _, h => by cases h
  | .tup _ :: _, _, _, h => by cases h

/-! ### Operations that only add boxes -/
/-- 0: quiet; 1: adds boxes; 2: anything. -/
def clsO (L : List (Nat × TI)) (op : Op) (d : OD) : Nat := match op with
  | .buildSlice _ _ _ => bif odB d then 0 else 1
  | .alloc _ | .box _ _ | .makeSlice _ _ _ => 1
  | .store _ _ _ => 2
  | .convert _ t _ => (match look L t with
    | some ⟨_, _, _, .slice _, _, _⟩ => 2
    | _ => 0)
  | .call c => (match c.callee, d with
    | .builtin .cap, _ => 0
    | .builtin .len, _ => 0
    | .builtin .min, _ => 0
    | .builtin .max, _ => 0
    | .value _, .callR _ _ _ _ _ => 2
    | .value _, .callP _ _ _ => 0
    | .value _, .callQ _ _ _ => 0
    | .value _, _ => 1
    | _, _ => 2)
  | _ => 0

theorem coAVs_evals {E : TypeId} {env env' : List Tm} {l : List Operand} (h : ∀ x ∈ l, evalO E env x = evalO E env' x) : l.map (evalO E env) = l.map (evalO E env') := List.map_congr_left h

/-- What a call hands on isn't frozen by it. -/
def pushOK (C : Cfg) (env : List Tm) (bs : List Box) (op : Op) (d : OD) : Bool := match op, d with
  | .call c, .call full hs r => !r.hasFs || (match callF C env c with
    | some (_, ts) => (match coAVs bs full hs ts with
      | some q => q.ids.isEmpty
      | none => false)
    | none => false)
  | _, _ => true
theorem callF_like {C : Cfg} {env env' : List Tm} {c : Call} (h : ∀ x ∈ c.operands.toList, evalO C.E env x = evalO C.E env' x) : callF C env c = callF C env' c := by
  have h0 : c.args.toList.map (evalO C.E env) = c.args.toList.map (evalO C.E env') := List.map_congr_left fun x hx => h x (by simp only [Call.operands, Array.toList_append, List.mem_append]; exact .inr hx)
  unfold callF
  cases hk : c.callee with
  | value x =>
    have := h x (by simp [Call.operands, hk])
    simp only [this, h0]
  | invoke x n =>
    have := h x (by simp [Call.operands, hk])
    simp only [this, h0]
  | _ => rfl

theorem lOp_push {C : Cfg} {env env' : List Tm} {bs : List Box} {op : Op} {d : OD} {r : Out} (hc : clsO C.L op d = 1) (hp : pushOK C env bs op d = true) (hq : lOp C env bs op d = some r) (h : Alike C.E env env' op) :
    r.env = env ∧ (∃ l, r.bs = bs ++ l) ∧ lOp C env' bs op d = some ⟨r.φ, r.tm, env', r.bs⟩ ∧ pushOK C env' bs op d = true := by
  unfold Alike at h
  cases op <;> first | (cases hc; done) | skip
  case alloc t =>
    simp only [lOp, lAlloc] at hq ⊢
    split at hq
    · cases hq; exact ⟨rfl, ⟨_, rfl⟩, rfl, rfl⟩
    · cases hq
  case box t x =>
    have h0 := h x (by simp [Op.operands])
    simp only [lOp, lBox] at hq ⊢
    rw [← h0]
    split at hq
    · obtain ⟨hd, hq⟩ := cond_some hq
      cases hq
      rw [hd, cond_true]
      exact ⟨rfl, ⟨_, rfl⟩, rfl, rfl⟩
    · cases hq
  case buildSlice t n parts =>
    have h : ∀ x ∈ parts.toList.map (·.2), evalO C.E env x = evalO C.E env' x := by simpa [Op.operands] using h
    have hd : odB d = false := by
      cases hd : odB d with
      | false => rfl
      | true => simp [clsO, hd] at hc
    simp only [lOp, hd, cond_false] at hq ⊢
    cases hb : (Nat.beq n 0 && parts.toList.isEmpty) with
    | true =>
      simp only [hb, cond_true, lBuild0] at hq ⊢
      repeat' (first | (cases hq; done) | split at hq)
      cases hq
      exact ⟨rfl, ⟨_, rfl⟩, rfl, rfl⟩
    | false =>
      simp only [hb, cond_false, lBuildSl, ← partsA_congr h] at hq ⊢
      repeat' (first | (cases hq; done) | split at hq)
      obtain ⟨ha, hq⟩ := cond_some hq
      cases hq
      rw [ha, cond_true]
      exact ⟨rfl, ⟨_, rfl⟩, rfl, rfl⟩
  case makeSlice t l c =>
    have h1 := h l (by simp [Op.operands])
    have h2 := h c (by simp [Op.operands])
    simp only [lOp, lMake, ← h1, ← h2] at hq ⊢
    repeat' (first | (cases hq; done) | split at hq)
    · cases hq; exact ⟨rfl, ⟨_, rfl⟩, rfl, rfl⟩
    · cases hq; exact ⟨rfl, ⟨_, rfl⟩, rfl, rfl⟩
  case convert s t x =>
    exfalso
    simp only [clsO] at hc
    split at hc <;> cases hc
  case call c =>
    have h0 : ∀ x ∈ c.args.toList, evalO C.E env x = evalO C.E env' x := fun x hx => h x (by simp only [Op.operands, Call.operands, Array.toList_append, List.mem_append]; exact .inr hx)
    simp only [clsO] at hc
    obtain ⟨f, hcal⟩ : ∃ f, c.callee = .value f := by
      cases hk : c.callee with
      | value f => exact ⟨f, rfl⟩
      | builtin b => rw [hk] at hc; cases b <;> simp at hc
      | _ => rw [hk] at hc; cases hc
    have hnr : ∀ full hs σ r bs', d ≠ .callR full hs σ r bs' := fun full hs σ r bs' e => by
      rw [e, hcal] at hc
      simp at hc
    have hnp : ∀ full hs r, d ≠ .callP full hs r := fun full hs r e => by
      rw [e, hcal] at hc
      simp at hc
    have hnq : ∀ full hs r, d ≠ .callQ full hs r := fun full hs r e => by
      rw [e, hcal] at hc
      simp at hc
    have e1 : ∀ env, lOp C env bs (.call c) d = lCall C env bs c d := fun env => by
      simp only [lOp, hcal]
      try (cases d <;> first | rfl | exact absurd rfl (hnr _ _ _ _ _) | exact absurd rfl (hnp _ _ _) | exact absurd rfl (hnq _ _ _))
    rw [e1] at hq ⊢
    have hcl : callF C env c = callF C env' c := callF_like h
    have hp2 : pushOK C env' bs (.call c) d = true := by
      unfold pushOK at hp ⊢
      cases d with
      | call full hs r0 =>
        simp only [← hcl] at hp ⊢
        exact hp
      | _ => rfl
    cases d with
    | call full hs r0 =>
      simp only [pushOK] at hp
      simp only [lCall, ← hcl] at hq ⊢
      split at hq
      · rename_i f1 ts1 full1 hs1 r1 hcf heq
        cases heq
        split at hq
        · rename_i q hco hids
          cases hq
          simp only [hcf, hco] at hp
          have hb : (bif r0.hasFs then frzAll bs q.ids else bs) = bs := by
            cases hr : r0.hasFs with
            | false => rfl
            | true =>
              rw [hr] at hp
              have : q.ids = [] := by simpa using hp
              rw [this]; rfl
          rw [hb]
          exact ⟨rfl, ⟨[], by simp⟩, rfl, hp2⟩
        · cases hq
      · cases hq
    | _ =>
      unfold lCall at hq
      split at hq
      · rename_i h1; cases h1
      · cases hq

/-! ### One operation -/
/-- A quiet operation; structs held against each other, too. -/
def qOp1 (C : Cfg) (env : List Tm) (bs : List Box) (op : Op) (d : OD) : Option (Prop × Tm) := match qOp C.E C.L env bs op d with
  | some r => some r
  | none => (match op with
    | .binOp op t x y _ => (match lEq C env bs op t x y with | some r => some (r.φ, r.tm) | none => none)
    | .indexAddr t x i => (match lGlob C env bs t x i with | some r => some (r.φ, r.tm) | none => none)
    | .buildSlice t n parts => bif odB d then lBuildF C.E C.L env t n parts.toList else none
    | .call c => (match c.callee, d with | .value _, .callP full hs r => lCallP C env c full hs r | .value _, .callQ full hs r => lCallQ C env bs c full hs r | _, _ => none)
    | _ => none)

theorem lGlob_keeps {C : Cfg} {env : List Tm} {bs : List Box} {t : TypeId} {x i : Operand} {r : Out} (h : lGlob C env bs t x i = some r) : r.env = env ∧ r.bs = bs := by
  unfold lGlob at h
  split at h
  · split at h
    · obtain ⟨_, h⟩ := cond_some h
      cases h; exact ⟨rfl, rfl⟩
    · cases h
  · cases h
theorem lGlob_like {C : Cfg} {env env2 : List Tm} {bs bs2 : List Box} {t : TypeId} {x i : Operand} {r : Out} (h : lGlob C env bs t x i = some r) (hx : evalO C.E env x = evalO C.E env2 x) (hi : evalO C.E env i = evalO C.E env2 i) : lGlob C env2 bs2 t x i = some ⟨r.φ, r.tm, env2, bs2⟩ := by
  unfold lGlob at h ⊢
  rw [← hx, ← hi]
  split at h
  · rename_i e1 e2 hl
    split at h
    · obtain ⟨hb, h⟩ := cond_some h
      cases h
      simp only [hb, cond_true]
    · cases h
  · cases h

theorem lEq_keeps {C : Cfg} {env : List Tm} {bs : List Box} {op : BinOp} {t : TypeId} {x y : Operand} {r : Out} (h : lEq C env bs op t x y = some r) : r.env = env ∧ r.bs = bs := by
  unfold lEq at h
  split at h
  · obtain ⟨_, h⟩ := cond_some h
    split at h
    · cases h; exact ⟨rfl, rfl⟩
    · cases h; exact ⟨rfl, rfl⟩
    · cases h
  · cases h

theorem qOp1_step {C : Cfg} {env : List Tm} {bs : List Box} {op : Op} {d : OD} {φ : Prop} {tm : Tm} (h : qOp1 C env bs op d = some (φ, tm)) : stepO C env bs op d = some ⟨φ, tm, env, bs⟩ := by
  unfold qOp1 at h
  unfold stepO
  split at h
  · rename_i r hq
    cases h
    rw [hq]
  · rename_i hq
    rw [hq]
    split at h
    · split at h
      · rename_i r hr
        cases h
        obtain ⟨e1, e2⟩ := lEq_keeps hr
        simp only [lOp, hr]
        cases r; simp at e1 e2; rw [e1, e2]
      · cases h
    · split at h
      · rename_i r hr
        cases h
        obtain ⟨e1, e2⟩ := lGlob_keeps hr
        simp only [lOp, hr]
        cases r; simp at e1 e2; rw [e1, e2]
      · cases h
    · rename_i t n parts
      obtain ⟨hd, h⟩ := cond_some h
      simp only [lOp, hd, cond_true, h]
    · split at h
      · rename_i f full hs r hcal
        unfold lOp
        simp only [hcal, h]
      · rename_i f full hs r hcal
        unfold lOp
        simp only [hcal, h]
      · cases h
    · cases h

theorem qOp1_like {C : Cfg} {env env2 : List Tm} {bs l : List Box} {op : Op} {d : OD} {r : Prop × Tm} (h : qOp1 C env bs op d = some r) (ha : Alike C.E env env2 op) : qOp1 C env2 (bs ++ l) op d = some r := by
  unfold qOp1 at h
  split at h
  · rename_i r0 hq
    cases h
    unfold qOp1
    rw [← qOp_congr ha, qOp_more hq]
  · rename_i hq
    split at h
    · rename_i op2 t x y t2
      split at h
      · rename_i r1 hr
        cases h
        have hx := ha x (by simp [Op.operands])
        have hy := ha y (by simp [Op.operands])
        have hn : qOp C.E C.L env2 (bs ++ l) (.binOp op2 t x y t2) d = none := by
          rw [← qOp_congr ha]
          unfold lEq at hr
          split at hr
          · rename_i ps qs e1 e2
            simp only [qOp, qBin, e1, e2, eqPlain] at hq ⊢
            split
            · rename_i ti hti
              rw [hti] at hq
              simp only [Tm.okAl, cond_true] at hq ⊢
              exact hq
            · rfl
          · cases hr
        have hl : lEq C env2 (bs ++ l) op2 t x y = some ⟨r1.φ, r1.tm, env2, bs ++ l⟩ := by
          unfold lEq at hr ⊢
          rw [← hx, ← hy]
          split at hr
          · rename_i ps qs e1 e2
            obtain ⟨hb, hr⟩ := cond_some hr
            simp only [hb, cond_true]
            split at hr
            · rename_i hh; cases hr; simp only [hh]
            · rename_i hh; cases hr; simp only [hh]
            · cases hr
          · cases hr
        unfold qOp1
        rw [hn]
        simp only [hl]
      · cases h
    · rename_i t x i
      split at h
      · rename_i r1 hr
        cases h
        have hx := ha x (by simp [Op.operands])
        have hi := ha i (by simp [Op.operands])
        have hn : qOp C.E C.L env2 (bs ++ l) (.indexAddr t x i) d = none := by
          rw [← qOp_congr ha]
          unfold lGlob at hr
          split at hr
          · rename_i e1 e2 hl
            simp only [qOp, e1, e2, qIndexAddr, hl] at hq ⊢
            exact hq
          · cases hr
        have hl := lGlob_like (bs2 := bs ++ l) hr hx hi
        unfold qOp1
        rw [hn]
        simp only [hl]
      · cases h
    · rename_i t n parts
      have hev : ∀ x ∈ parts.toList.map (·.2), evalO C.E env x = evalO C.E env2 x := fun x hx => ha x (by simpa [Op.operands] using hx)
      unfold qOp1
      have hn : qOp C.E C.L env2 (bs ++ l) (.buildSlice t n parts) d = none := rfl
      rw [hn]
      simp only [lBuildF, ← partsA_congr hev] at h ⊢
      exact h
    · rename_i c
      have hev : ∀ x ∈ c.args.toList, evalO C.E env x = evalO C.E env2 x := fun x hx => ha x (by simp only [Op.operands, Call.operands, Array.toList_append, List.mem_append]; exact .inr hx)
      split at h
      · rename_i f full hs r0 hcal
        have hn : qOp C.E C.L env2 (bs ++ l) (.call c) (.callP full hs r0) = none := by
          simp only [qOp, qCall, hcal]
        unfold qOp1
        rw [hn]
        simp only [hcal]
        unfold lCallP at h ⊢
        rw [← callF_like (fun x hx => ha x hx)]
        exact h
      · rename_i f full hs r0 hcal
        have hn : qOp C.E C.L env2 (bs ++ l) (.call c) (.callQ full hs r0) = none := by
          simp only [qOp, qCall, hcal]
        unfold qOp1
        rw [hn]
        simp only [hcal]
        unfold lCallQ at h ⊢
        rw [← callF_like (fun x hx => ha x hx)]
        split at h
        · rename_i f1 ts1 hcf
          split at h
          · rename_i q hco hids
            rw [coAVs_more hco]
            simp only [hids]
            exact h
          · cases h
        · cases h
      · cases h
    · cases h

/-- Does it look at boxes of a fixed size alone? -/
def exF (L : List (Nat × TI)) : Op → Bool
  | .fieldAddr _ _ _ | .load _ _ | .buildSlice _ _ _ | .move _ | .extract _ _ | .indexAddr _ _ _ => true
  | .convert s _ _ => (match look L s with | some ⟨_, _, _, .int _, _, _⟩ => true | _ => false)
  | .call c => (match c.callee with | .builtin .len => true | _ => false)
  | _ => false
def idsEx (bs : List Box) (t : Tm) : Bool := t.ids.all (bEx bs)
def xOK (C : Cfg) (env : List Tm) (bs : List Box) (op : Op) (d : OD) (tm : Tm) : Bool := (!(odX d) || (exF C.L op && (op.operands.toList.all (fun x => idsEx bs (evalO C.E env x)) && idsEx bs tm))) && (!(odN d) || (op.operands.toList.all (fun x => (evalO C.E env x).ids.isEmpty) && tm.ids.isEmpty))
theorem odN_X {d : OD} (h : odN d = true) : odX d = true := by
  cases d <;> first | rfl | cases h
def qOp2 (C : Cfg) (env : List Tm) (bs : List Box) (op : Op) (d : OD) : Option (Prop × Tm) := match qOp1 C env bs op d with
  | some (φ, tm) => bif xOK C env bs op d tm then some (φ, tm) else none
  | none => none
theorem qOp2_of {C : Cfg} {env : List Tm} {bs : List Box} {op : Op} {d : OD} {r : Prop × Tm} (h : qOp2 C env bs op d = some r) : qOp1 C env bs op d = some r ∧ xOK C env bs op d r.2 = true := by
  unfold qOp2 at h
  split at h
  · rename_i φ tm hq
    obtain ⟨hx, h⟩ := cond_some h
    cases h
    exact ⟨hq, hx⟩
  · cases h
theorem qOp2_mk {C : Cfg} {env : List Tm} {bs : List Box} {op : Op} {d : OD} {r : Prop × Tm} (h : qOp1 C env bs op d = some r) (hx : xOK C env bs op d r.2 = true) : qOp2 C env bs op d = some r := by
  unfold qOp2
  obtain ⟨φ, tm⟩ := r
  rw [h]
  simp only at hx
  simp only [hx, cond_true]
theorem qOp2_step {C : Cfg} {env : List Tm} {bs : List Box} {op : Op} {d : OD} {φ : Prop} {tm : Tm} (h : qOp2 C env bs op d = some (φ, tm)) : stepO C env bs op d = some ⟨φ, tm, env, bs⟩ := qOp1_step (qOp2_of h).1
theorem bEx_more {bs l : List Box} {i : Nat} (h : bEx bs i = true) : bEx (bs ++ l) i = true := by
  unfold bEx at h ⊢
  cases hb : bs[i]? with
  | none => rw [hb] at h; cases h
  | some b => rw [hb] at h; rw [List.getElem?_append_left (List.getElem?_eq_some_iff.1 hb).1, hb]; exact h
theorem idsEx_more {bs l : List Box} {t : Tm} (h : idsEx bs t = true) : idsEx (bs ++ l) t = true := by
  unfold idsEx at h ⊢
  rw [List.all_eq_true] at h ⊢
  exact fun i hi => bEx_more (h i hi)
theorem xOK_like {C : Cfg} {env env2 : List Tm} {bs l : List Box} {op : Op} {d : OD} {tm : Tm} (h : xOK C env bs op d tm = true) (ha : Alike C.E env env2 op) : xOK C env2 (bs ++ l) op d tm = true := by
  unfold xOK at h ⊢
  rw [Bool.and_eq_true] at h ⊢
  obtain ⟨h, hn⟩ := h
  refine ⟨?_, ?_⟩
  · cases hd : odX d with
    | false => rfl
    | true =>
      rw [hd] at h
      simp only [Bool.not_true, Bool.false_or, Bool.and_eq_true, List.all_eq_true] at h ⊢
      exact ⟨h.1, fun x hx => by rw [← ha x hx]; exact idsEx_more (h.2.1 x hx), idsEx_more h.2.2⟩
  · cases hd : odN d with
    | false => rfl
    | true =>
      rw [hd] at hn
      simp only [Bool.not_true, Bool.false_or, Bool.and_eq_true, List.all_eq_true] at hn ⊢
      exact ⟨fun x hx => by rw [← ha x hx]; exact hn.1 x hx, hn.2⟩
theorem qOp2_like {C : Cfg} {env env2 : List Tm} {bs l : List Box} {op : Op} {d : OD} {r : Prop × Tm} (h : qOp2 C env bs op d = some r) (ha : Alike C.E env env2 op) : qOp2 C env2 (bs ++ l) op d = some r :=
  qOp2_mk (qOp1_like (qOp2_of h).1 ha) (xOK_like (qOp2_of h).2 ha)

/-- The boxes that something leads to, one behind the other. -/
def reachB (bs : List Box) : Nat → List Nat → List Nat → List Nat
  | 0, _, seen => seen
  | _ + 1, [], seen => seen
  | n + 1, i :: r, seen => bif seen.any (Nat.beq i) then reachB bs n r seen else reachB bs n ((match bs[i]? with | some b => b.ids | none => []) ++ r) (seen ++ [i])
/-- A call whose boxes are not told by number is handed those that its arguments lead to. -/
def resD (C : Cfg) (env : List Tm) (bs : List Box) (op : Op) (d : OD) : OD := match op, d with
  | .call c, .callR full hs [n] r b => bif Nat.ble 1000000 n && !(Nat.beq b.length 1) then .callR full hs (match callF C env c with | some (_, ts) => reachB bs 1000 (ts.flatMap Tm.ids) [] | none => []) r b else d
  | _, d => d
theorem resD_st {C : Cfg} {env : List Tm} {bs : List Box} {op : Op} {full : Bool} {hs : List Ty} {σ : List Nat} {r : Tm} {b : List Box} (h : b.length = σ.length) : resD C env bs op (.callR full hs σ r b) = .callR full hs σ r b := by
  cases op <;> first | rfl | skip
  cases σ with
  | nil => rfl
  | cons n q => cases q with
    | nil =>
      have e : b.length = 1 := h
      simp [resD, e]
    | cons m q => rfl

def stepS (C : Cfg) (o : Oper) (d : OD) (s : St) : Option (Prop × St) := match clsO C.L o.op d with
  | 0 => (match qOp2 C s.env s.boxes o.op d with | some (φ, tm) => some (φ, ⟨putE s.env o.dst tm, s.boxes, s.m⟩) | none => none)
  | 1 => (match qOp C.E C.L s.env s.boxes o.op d, (bif pushOK C s.env s.boxes o.op d then lOp C s.env s.boxes o.op d else none) with | none, some r => some (r.φ, ⟨putE r.env o.dst r.tm, r.bs, s.m⟩) | _, _ => none)
  | _ => (match stepO C s.env s.boxes o.op (resD C s.env s.boxes o.op d) with | some r => bif r.keeps s.m then some (r.φ, ⟨putE r.env o.dst r.tm, r.bs, s.m⟩) else none | none => none)

def stepD (C : Cfg) (ops : Array Oper) (o : Oper) (p : PD) (s : St) : Option (Prop × St) := match o.guard, p.g with
  | none, none => stepS C o p.d s
  | some (j, want), some q => (match (ops.toList[j]?).bind (·.dst) with
    | some t => (match s.env.getD t .any with
      | .v (.one (.sc (.bool b))) => (match q == want with
        | true => (match stepS C o p.d s with | some (φ, s') => some (b = q ∧ φ, s') | none => none)
        | false => some (b = q, ⟨putE s.env o.dst (.tup []), s.boxes, s.m⟩))
      | .tup [] => some (True, ⟨putE s.env o.dst (.tup []), s.boxes, s.m⟩)
      | _ => none)
    | none => none)
  | _, _ => none

theorem putE_get {env : List Tm} {dst : Option Tmp} {tm : Tm} {t : Tmp} (h : ∀ d, dst = some d → d ≠ t) : (putE env dst tm).getD t .any = env.getD t .any := by
  cases dst with
  | none => rfl
  | some d =>
    simp only [putE, List.getD_eq_getElem?_getD]
    rw [List.getElem?_set, if_neg (h d rfl)]

theorem putE_comm {env : List Tm} {x y : Option Tmp} {u v : Tm} (h : ∀ d, x = some d → y ≠ some d) : putE (putE env x u) y v = putE (putE env y v) x u := by
  cases x with
  | none => rfl
  | some a => cases y with
    | none => rfl
    | some b =>
      simp only [putE]
      exact List.set_comm u v fun e => h a rfl (by rw [e])

/-- Two environments in which an operation sees the same. -/
def Sees (ops : Array Oper) (o : Oper) (env env' : List Tm) : Prop := ∀ t ∈ o.looksAt ops, env.getD t .any = env'.getD t .any

theorem Sees.alike {E : TypeId} {ops : Array Oper} {o : Oper} {env env' : List Tm} (h : Sees ops o env env') : Alike E env env' o.op := fun x hx => evalO_congr' x fun t e => h t (by
    unfold Oper.looksAt
    rw [List.mem_append]
    exact .inl (List.mem_filterMap.2 ⟨x, hx, by rw [e]⟩))
where
  evalO_congr' {E : TypeId} {env env' : List Tm} (x : Operand) (h : ∀ t, x = .tmp t → env.getD t .any = env'.getD t .any) : evalO E env x = evalO E env' x := by
    cases x <;> first | exact h _ rfl | rfl

theorem Sees.guard {ops : Array Oper} {o : Oper} {env env' : List Tm} (h : Sees ops o env env') {j : Nat} {want : Bool} (hg : o.guard = some (j, want)) {t : Tmp} (ht : (ops.toList[j]?).bind (·.dst) = some t) : env.getD t .any = env'.getD t .any := h t (by
  unfold Oper.looksAt
  rw [List.mem_append]
  refine .inr ?_
  rw [hg]
  have ht2 : (ops[j]?).bind (·.dst) = some t := by simpa using ht
  simp [ht2])

/-- What a step is like whose class is quiet, or adds boxes. -/
theorem stepS_like {C : Cfg} {ops : Array Oper} {o : Oper} {d : OD} {s : St} {φ : Prop} {s' : St} (h : stepS C o d s = some (φ, s')) (hc : clsO C.L o.op d = 0 ∨ clsO C.L o.op d = 1) :
    ∃ tm l, s' = ⟨putE s.env o.dst tm, s.boxes ++ l, s.m⟩ ∧ (clsO C.L o.op d = 0 → l = []) ∧
      ∀ env2 l2, Sees ops o s.env env2 → (clsO C.L o.op d = 1 → l2 = []) → stepS C o d ⟨env2, s.boxes ++ l2, s.m⟩ = some (φ, ⟨putE env2 o.dst tm, s.boxes ++ l2 ++ l, s.m⟩) := by
  unfold stepS at h ⊢
  rcases hc with hc | hc
  · rw [hc] at h ⊢
    simp only at h ⊢
    split at h
    · rename_i φ1 tm hq
      cases h
      refine ⟨tm, [], by simp, fun _ => rfl, fun env2 l2 hs _ => ?_⟩
      rw [qOp2_like hq hs.alike]
      simp
    · cases h
  · rw [hc] at h ⊢
    simp only at h ⊢
    split at h
    · rename_i r hq hl
      cases h
      obtain ⟨hpk, hl⟩ := cond_some hl
      obtain ⟨e1, ⟨l, e2⟩, _⟩ := lOp_push (env' := s.env) hc hpk hl fun _ _ => rfl
      refine ⟨r.tm, l, by rw [e1, e2], fun e => (by cases e), fun env2 l2 hs h2 => ?_⟩
      obtain rfl := h2 trivial
      obtain ⟨_, _, e3, e4⟩ := lOp_push hc hpk hl hs.alike
      simp only [List.append_nil]
      rw [← qOp_congr hs.alike, hq, e4, cond_true, e3, e2]
    · cases h

theorem stepD_like {C : Cfg} {ops : Array Oper} {o : Oper} {p : PD} {s : St} {φ : Prop} {s' : St} (h : stepD C ops o p s = some (φ, s')) (hc : clsO C.L o.op p.d = 0 ∨ clsO C.L o.op p.d = 1) :
    ∃ tm l, s' = ⟨putE s.env o.dst tm, s.boxes ++ l, s.m⟩ ∧ (clsO C.L o.op p.d = 0 → l = []) ∧
      ∀ env2 l2, Sees ops o s.env env2 → (clsO C.L o.op p.d = 1 → l2 = []) → stepD C ops o p ⟨env2, s.boxes ++ l2, s.m⟩ = some (φ, ⟨putE env2 o.dst tm, s.boxes ++ l2 ++ l, s.m⟩) := by
  unfold stepD at h ⊢
  split at h
  · exact stepS_like h hc
  · rename_i j want q hg hp
    split at h
    · rename_i t ht
      split at h
      · rename_i b hb
        split at h
        · rename_i hqw
          split at h
          · rename_i φ1 s1 h1
            cases h
            obtain ⟨tm, l, e1, e2, e3⟩ := stepS_like (ops := ops) h1 hc
            refine ⟨tm, l, e1, e2, fun env2 l2 hs h2 => ?_⟩
            simp only [ht, ← hs.guard hg ht, hb, hqw, e3 env2 l2 hs h2]
          · cases h
        · rename_i hqw
          cases h
          refine ⟨.tup [], [], by simp, fun _ => rfl, fun env2 l2 hs h2 => ?_⟩
          simp only [ht, ← hs.guard hg ht, hb, hqw]
          simp
      · rename_i hb
        cases h
        refine ⟨.tup [], [], by simp, fun _ => rfl, fun env2 l2 hs h2 => ?_⟩
        simp only [ht, ← hs.guard hg ht, hb]
        simp
      · cases h
    · cases h
  · cases h

/-! ### Whichever order -/
abbrev Item := Nat × Oper × PD

def aRun (C : Cfg) (ops : Array Oper) : List Item → St → (St → Prop) → Prop
  | [], s, K => K s
  | x :: r, s, K => match stepD C ops x.2.1 x.2.2 s with
    | some (φ, s') => φ ∧ aRun C ops r s' K
    | none => False

/-- Operations that look at no box. -/
def memF (L : List (Nat × TI)) (op : Op) (d : OD) : Bool := match op with
  | .move _ | .assign _ | .pick _ _ _ | .unOp _ _ _ | .makeInterface _ _ | .field _ _ _ | .index _ _ _ | .extract _ _ | .build _ _ => true
  | .fieldAddr _ _ _ | .indexAddr _ _ _ | .nilCheck _ => true
  | .binOp _ _ _ _ _ => true
  | .convert s _ _ => (match look L s with | some ⟨_, _, _, .int _, _, _⟩ => true | _ => false)
  | .call c => (match c.callee, d with | .builtin .len, _ => true | .builtin .min, _ => true | .builtin .max, _ => true | .value _, .callP _ _ _ => true | _, _ => false)
  | _ => false
def isStore : Op → Bool
  | .store _ _ _ => true
  | _ => false
/-- A store; or a call that may turn what it is handed, and adds no box. -/
def isSt : Op → OD → Bool
  | .store _ _ _, _ => true
  | .call ⟨.value _, _, _⟩, .callR _ _ σ _ bs' => Nat.beq bs'.length σ.length && bs'.all Box.isEx
  | _, _ => false

def memG (L : List (Nat × TI)) (op : Op) (d : OD) : Bool := memF L op d && (!(odX d) || odN d)
/-- Something appended, as ever. -/
def isApp (L : List (Nat × TI)) : Op → OD → Bool
  | .call c, .b _ => (match c.callee, c.args.toList, c.argTypes.toList with
    | .builtin .append, [_, _], [_, xT] => !(intT L xT)
    | _, _, _ => false)
  | _, _ => false
def exApp (C : Cfg) (x y : Item) : Bool := odX x.2.2.d && (x.2.1.guard.isNone && (isApp C.L y.2.1.op y.2.2.d && y.2.1.guard.isNone))
def swapC (C : Cfg) (x y : Item) : Bool := match clsO C.L x.2.1.op x.2.2.d, clsO C.L y.2.1.op y.2.2.d with
  | 0, 0 => true
  | 0, 1 => true
  | 1, 0 => odN y.2.2.d && y.2.1.guard.isNone
  | 0, _ => (memG C.L x.2.1.op x.2.2.d && isSt y.2.1.op y.2.2.d) || exApp C x y
  | _, 0 => isSt x.2.1.op x.2.2.d && memG C.L y.2.1.op y.2.2.d
  | _, _ => false

theorem okAl_eq {bs bs2 : List Box} (hb : ∀ i, bAl bs2 i = bAl bs i) (x : Tm) : x.okAl bs2 = x.okAl bs := by
  cases x with
  | v x => cases x with
    | one c => cases c <;> first | rfl | exact hb _
    | _ => rfl
  | _ => rfl
theorem qOp_mem {C : Cfg} {env : List Tm} {bs bs2 : List Box} {op : Op} {d : OD} (hb : ∀ i, bAl bs2 i = bAl bs i) (h : memF C.L op d = true) : qOp C.E C.L env bs2 op d = qOp C.E C.L env bs op d := by
  cases op <;> first | (cases h; done) | rfl | skip
  case binOp op t x y t2 =>
    simp only [qOp, qBin, okAl_eq hb]
  case convert s t x =>
    simp only [qOp, qConvert]
    cases hl : look C.L s with
    | none => rfl
    | some ti =>
      obtain ⟨c, b, a, sk, z, ty⟩ := ti
      simp only [memF, hl] at h
      cases sk <;> first | (cases h; done) | skip
      cases hl2 : look C.L t with
      | none => rfl
      | some di =>
        dsimp only
  case fieldAddr t x f => simp only [qOp, okAl_eq hb]
  case indexAddr t x i => simp only [qOp, okAl_eq hb]
  case nilCheck x => simp only [qOp, hb]
  case makeInterface t x => simp only [qOp, ifc_eq hb]
  case call c => simp only [qOp, qCall, okAl_eq hb]
theorem lGlob_mem {C : Cfg} {env : List Tm} {bs bs2 : List Box} {t : TypeId} {x i : Operand} : (match lGlob C env bs2 t x i with | some r => some (r.φ, r.tm) | none => none) = (match lGlob C env bs t x i with | some r => some (r.φ, r.tm) | none => none) := by
  cases h : lGlob C env bs t x i with
  | some r => rw [lGlob_like (bs2 := bs2) h rfl rfl]
  | none =>
    cases h2 : lGlob C env bs2 t x i with
    | none => rfl
    | some r =>
      rw [lGlob_like (bs2 := bs) h2 rfl rfl] at h
      cases h
theorem lEq_mem {C : Cfg} {env : List Tm} {bs2 : List Box} {op : BinOp} {t : TypeId} {x y : Operand} (bs : List Box) : lEq C env bs2 op t x y = (lEq C env bs op t x y).map fun r => ⟨r.φ, r.tm, r.env, bs2⟩ := by
  unfold lEq
  generalize evalO C.E env x = a
  generalize evalO C.E env y = b
  split
  · cases C.Q.any (Nat.beq t) with
    | false => rfl
    | true =>
      simp only [cond_true]
      split <;> rfl
  · rfl
theorem qOp1_mem {C : Cfg} {env : List Tm} {bs bs2 : List Box} {op : Op} {d : OD} (hb : ∀ i, bAl bs2 i = bAl bs i) (h : memF C.L op d = true) : qOp1 C env bs2 op d = qOp1 C env bs op d := by
  unfold qOp1
  rw [qOp_mem (bs := bs) hb h]
  split
  · rfl
  · cases op <;> first | (cases h; done) | rfl | skip
    case indexAddr t x i => exact lGlob_mem
    case call c _ =>
      dsimp only
      cases hk : c.callee with
      | value f => cases d <;> first | rfl | (simp [memF, hk] at h)
      | _ => rfl
    case binOp op t x y t2 _ =>
      dsimp only
      rw [lEq_mem bs]
      cases lEq C env bs op t x y <;> rfl

theorem xOK_no {C : Cfg} {env : List Tm} {bs bs2 : List Box} {op : Op} {d : OD} {tm : Tm} (h : odN d = true) (hx : xOK C env bs op d tm = true) : xOK C env bs2 op d tm = true := by
  unfold xOK at hx ⊢
  rw [h, odN_X h] at hx ⊢
  simp only [Bool.not_true, Bool.false_or, Bool.and_eq_true, List.all_eq_true, idsEx, List.isEmpty_iff] at hx ⊢
  obtain ⟨⟨h1, _, _⟩, h2, h3⟩ := hx
  exact ⟨⟨h1, fun x hx i hi => (by rw [h2 x hx] at hi; exact (List.not_mem_nil hi).elim), fun i hi => (by rw [h3] at hi; exact (List.not_mem_nil hi).elim)⟩, h2, h3⟩
theorem qOp2_mem {C : Cfg} {env : List Tm} {bs bs2 : List Box} {op : Op} {d : OD} (hb : ∀ i, bAl bs2 i = bAl bs i) (h : memG C.L op d = true) : qOp2 C env bs2 op d = qOp2 C env bs op d := by
  unfold memG at h
  rw [Bool.and_eq_true, Bool.or_eq_true] at h
  unfold qOp2
  rw [qOp1_mem (bs := bs) hb h.1]
  split
  · rename_i φ tm hq
    have e : xOK C env bs2 op d tm = xOK C env bs op d tm := by
      rcases h.2 with hx | hn
      · have hx : odX d = false := by simpa using hx
        have hn : odN d = false := by
          cases hd : odN d with
          | false => rfl
          | true => rw [odN_X hd] at hx; cases hx
        unfold xOK
        rw [hx, hn]
        rfl
      · cases h1 : xOK C env bs op d tm with
        | true => exact xOK_no hn h1
        | false =>
          cases h2 : xOK C env bs2 op d tm with
          | false => rfl
          | true => rw [xOK_no hn h2] at h1; cases h1
    rw [e]
  · rfl

theorem stepS_mem {C : Cfg} {ops : Array Oper} {o : Oper} {d : OD} {s : St} {φ : Prop} {s' : St} (h : stepS C o d s = some (φ, s')) (hc : clsO C.L o.op d = 0) (hm : memG C.L o.op d = true) :
    ∃ tm, s' = ⟨putE s.env o.dst tm, s.boxes, s.m⟩ ∧ ∀ env2 bs2, (∀ i, bAl bs2 i = bAl s.boxes i) → Sees ops o s.env env2 → stepS C o d ⟨env2, bs2, s.m⟩ = some (φ, ⟨putE env2 o.dst tm, bs2, s.m⟩) := by
  unfold stepS at h ⊢
  rw [hc] at h ⊢
  simp only at h ⊢
  split at h
  · rename_i φ1 tm hq
    cases h
    refine ⟨tm, rfl, fun env2 bs2 hb hs => ?_⟩
    have := qOp2_like (l := []) hq hs.alike
    rw [qOp2_mem (bs := s.boxes ++ []) (by simpa using hb) hm, this]
  · cases h

theorem stepD_mem {C : Cfg} {ops : Array Oper} {o : Oper} {p : PD} {s : St} {φ : Prop} {s' : St} (h : stepD C ops o p s = some (φ, s')) (hc : clsO C.L o.op p.d = 0) (hm : memG C.L o.op p.d = true) :
    ∃ tm, s' = ⟨putE s.env o.dst tm, s.boxes, s.m⟩ ∧ ∀ env2 bs2, (∀ i, bAl bs2 i = bAl s.boxes i) → Sees ops o s.env env2 → stepD C ops o p ⟨env2, bs2, s.m⟩ = some (φ, ⟨putE env2 o.dst tm, bs2, s.m⟩) := by
  unfold stepD at h ⊢
  split at h
  · exact stepS_mem h hc hm
  · rename_i j want q hg hp
    split at h
    · rename_i t ht
      split at h
      · rename_i b hb
        split at h
        · rename_i hqw
          split at h
          · rename_i φ1 s1 h1
            cases h
            obtain ⟨tm, e1, e3⟩ := stepS_mem (ops := ops) h1 hc hm
            refine ⟨tm, e1, fun env2 bs2 hal hs => ?_⟩
            simp only [ht, ← hs.guard hg ht, hb, hqw, e3 env2 bs2 hal hs]
          · cases h
        · rename_i hqw
          cases h
          refine ⟨.tup [], rfl, fun env2 bs2 _ hs => ?_⟩
          simp only [ht, ← hs.guard hg ht, hb, hqw]
      · rename_i hb
        cases h
        refine ⟨.tup [], rfl, fun env2 bs2 _ hs => ?_⟩
        simp only [ht, ← hs.guard hg ht, hb]
      · cases h
    · cases h
  · cases h

theorem reBox_al {bs bs' : List Box} {id : Nat} {f : List Piece → Option (Prop × List Piece)} {φ : Prop} (h : reBox bs id f = some (φ, bs')) : ∀ i, bAl bs' i = bAl bs i := by
  have set : ∀ (b b' : Box), bs[id]? = some b → b.alive = true → b'.alive = true → ∀ i, bAl (bs.set id b') i = bAl bs i := fun b b' hb h1 h2 i => by
    unfold bAl
    rw [List.getElem?_set]
    by_cases e : id = i
    · subst e
      rw [if_pos rfl, if_pos (List.getElem?_eq_some_iff.1 hb).1, hb]
      simp [h1, h2]
    · rw [if_neg e]
  unfold reBox at h
  split at h
  · rename_i hb
    split at h <;> cases h
    exact set _ _ hb rfl rfl
  · rename_i hb
    split at h <;> cases h
    exact set _ _ hb rfl rfl
  · rename_i hb
    split at h <;> cases h
    exact set _ _ hb rfl rfl
  · cases h

theorem stepS_store {C : Cfg} {ops : Array Oper} {o : Oper} {d : OD} {s : St} {φ : Prop} {s' : St} (h : stepS C o d s = some (φ, s')) (hm : isStore o.op = true) :
    ∃ tm bs', s' = ⟨putE s.env o.dst tm, bs', s.m⟩ ∧ (∀ i, bAl bs' i = bAl s.boxes i) ∧ ∀ env2, Sees ops o s.env env2 → stepS C o d ⟨env2, s.boxes, s.m⟩ = some (φ, ⟨putE env2 o.dst tm, bs', s.m⟩) := by
  cases ho : o.op <;> rw [ho] at hm <;> first | (cases hm; done) | skip
  rename_i t p x
  have key : ∀ env2, Sees ops o s.env env2 → lStore C.E C.L env2 s.boxes t p x = (lStore C.E C.L s.env s.boxes t p x).map fun r => ⟨r.φ, r.tm, env2, r.bs⟩ := by
    intro env2 hs
    have ha := hs.alike (E := C.E)
    unfold Alike at ha
    rw [ho] at ha
    have h1 := ha p (by simp [Op.operands])
    have h2 := ha x (by simp [Op.operands])
    unfold lStore
    rw [← h1, ← h2]
    split
    · rename_i ti id off y _ _ _
      cases (y.data && Nat.beq (psize y.ps) ti.cells) with
      | false => rfl
      | true =>
        simp only [cond_true]
        split <;> rfl
    · rfl
  have e : ∀ env2, stepS C o d ⟨env2, s.boxes, s.m⟩ = match lStore C.E C.L env2 s.boxes t p x with | some r => bif r.keeps s.m then some (r.φ, ⟨putE r.env o.dst r.tm, r.bs, s.m⟩) else none | none => none := by
    intro env2
    unfold stepS stepO
    rw [ho]
    rfl
  have h0 : stepS C o d ⟨s.env, s.boxes, s.m⟩ = some (φ, s') := h
  rw [e] at h0
  cases hl : lStore C.E C.L s.env s.boxes t p x with
  | none => rw [hl] at h0; cases h0
  | some r =>
    rw [hl] at h0
    simp only at h0
    obtain ⟨hk, h0⟩ := cond_some h0
    cases h0
    have hr : r.env = s.env := by
      have := key s.env (fun _ _ => rfl)
      rw [hl] at this
      simp only [Option.map_some, Option.some.injEq] at this
      have := congrArg Out.env this
      exact this
    have hal : ∀ i, bAl r.bs i = bAl s.boxes i := by
      unfold lStore at hl
      split at hl
      · obtain ⟨_, hl⟩ := cond_some hl
        split at hl
        · rename_i hre
          cases hl
          exact reBox_al hre
        · cases hl
      · cases hl
    refine ⟨r.tm, r.bs, by rw [hr], hal, fun env2 hs => ?_⟩
    rw [e, key env2 hs, hl]
    simp only [Option.map_some]
    have : (Out.keeps ⟨r.φ, r.tm, env2, r.bs⟩ s.m) = true := hk
    rw [this]
    rfl

theorem killL_nil : ∀ (env : List Tm), env.map (Tm.killL []) = env
  | [] => rfl
  | t :: r => by
    rw [List.map_cons, killL_nil r]
    have : t.killL [] = t := by
      unfold Tm.killL
      have : (t.ids.any fun i => ([] : List Nat).any (Nat.beq i)) = false := by rw [List.any_eq_false]; intro x _; simp
      rw [this]; rfl
    rw [this]

theorem coAVsR_evals {E : TypeId} {env env' : List Tm} {l : List Operand} (h : ∀ x ∈ l, evalO E env x = evalO E env' x) : l.map (evalO E env) = l.map (evalO E env') := List.map_congr_left h

theorem isEx_alive {b : Box} (h : b.isEx = true) : b.alive = true := by cases b <;> first | rfl | cases h
theorem isEx_ren {f : Nat → Nat} {b : Box} (h : b.isEx = true) : (b.ren f).isEx = true := by rw [ren_isEx]; exact h

/-- Boxes that were handed on and came back: nothing is gone. -/
theorem putBoxes_al {bs l : List Box} {σ : List Nat} {f : Nat → Nat} (hd : distinct σ = true) (hn : l.length = σ.length) (hall : l.all Box.isEx = true) (hex : exOK bs σ l = true) :
    killsOf bs σ = [] ∧ ∀ i, bAl (putBoxes bs σ (l.map (Box.ren f))) i = bAl bs i := by
  rw [List.all_eq_true] at hall
  have at_ : ∀ id, id ∈ σ → ∃ (i : Nat) (b : Box), σ[i]? = some id ∧ l[i]? = some b ∧ b.isEx = true ∧ bEx bs id = true := fun id hid => by
    obtain ⟨i, hi, e⟩ := List.mem_iff_getElem.1 hid
    have h1 : σ[i]? = some id := by rw [List.getElem?_eq_getElem hi, e]
    have hl : i < l.length := by omega
    have h2 : l[i]? = some l[i] := List.getElem?_eq_getElem hl
    have h3 := hall _ (List.getElem_mem hl)
    exact ⟨i, l[i], h1, h2, h3, exOK_back hex i id _ h1 h2 h3⟩
  have hlt : ∀ id, id ∈ σ → id < bs.length := fun id hid => by
    obtain ⟨_, _, _, _, _, h⟩ := at_ id hid
    unfold bEx at h
    cases hb : bs[id]? with
    | none => rw [hb] at h; cases h
    | some b => exact (List.getElem?_eq_some_iff.1 hb).1
  obtain ⟨p1, p2, p3, p4⟩ := putBoxes_spec (σ := σ) (bs := bs) (l := l.map (Box.ren f)) hd hlt (by rw [List.length_map]; omega)
  refine ⟨?_, fun j => ?_⟩
  · unfold killsOf
    rw [List.filter_eq_nil_iff]
    intro id hid
    obtain ⟨_, _, _, _, _, h⟩ := at_ id hid
    simp [h]
  · by_cases hj : j ∈ σ
    · obtain ⟨i, b, h1, h2, h3, h4⟩ := at_ j hj
      have h5 := p2 i j h1
      rw [List.getElem?_map, h2] at h5
      have e1 : bAl (putBoxes bs σ (l.map (Box.ren f))) j = true := by
        unfold bAl; rw [h5]; exact isEx_alive (isEx_ren h3)
      have e2 : bAl bs j = true := by
        unfold bEx at h4
        unfold bAl
        cases hb : bs[j]? with
        | none => rw [hb] at h4; cases h4
        | some b0 => rw [hb] at h4; exact isEx_alive (by simpa using h4)
      rw [e1, e2]
    · by_cases hl : j < bs.length
      · unfold bAl; rw [p3 j hl hj]
      · have e1 : (putBoxes bs σ (l.map (Box.ren f)))[j]? = none := List.getElem?_eq_none (by rw [p1, List.length_map]; omega)
        have e2 : bs[j]? = none := List.getElem?_eq_none (by omega)
        unfold bAl; rw [e1, e2]

theorem stepS_st {C : Cfg} {ops : Array Oper} {o : Oper} {d : OD} {s : St} {φ : Prop} {s' : St} (h : stepS C o d s = some (φ, s')) (hm : isSt o.op d = true) :
    ∃ tm bs', s' = ⟨putE s.env o.dst tm, bs', s.m⟩ ∧ (∀ i, bAl bs' i = bAl s.boxes i) ∧ ∀ env2, Sees ops o s.env env2 → stepS C o d ⟨env2, s.boxes, s.m⟩ = some (φ, ⟨putE env2 o.dst tm, bs', s.m⟩) := by
  by_cases hst : isStore o.op = true
  · exact stepS_store h hst
  cases ho : o.op <;> rw [ho] at hm hst <;> first | (cases hm; done) | (exact absurd rfl hst) | skip
  rename_i c
  obtain ⟨cal, args, ats⟩ := c
  cases cal <;> first | (cases hm; done) | skip
  rename_i f0
  cases d <;> first | (cases hm; done) | skip
  rename_i full hs σ r0 bs0
  simp only [isSt, Bool.and_eq_true] at hm
  have hn := beq_eq hm.1
  have e : ∀ env2, stepS C o (.callR full hs σ r0 bs0) ⟨env2, s.boxes, s.m⟩ = match lOp C env2 s.boxes (.call ⟨.value f0, args, ats⟩) (.callR full hs σ r0 bs0) with | some r => bif r.keeps s.m then some (r.φ, ⟨putE r.env o.dst r.tm, r.bs, s.m⟩) else none | none => none := by
    intro env2
    unfold stepS stepO
    rw [ho]
    have hq : qOp C.E C.L env2 s.boxes (.call ⟨.value f0, args, ats⟩) (.callR full hs σ r0 bs0) = none := by
      simp only [qOp, qCall]
    simp only [clsO, resD_st hn, hq]
  have h0 : stepS C o (.callR full hs σ r0 bs0) ⟨s.env, s.boxes, s.m⟩ = some (φ, s') := h
  rw [e] at h0
  cases hcf : callF C s.env ⟨.value f0, args, ats⟩ with
  | some ft =>
    obtain ⟨f, ts⟩ := ft
    have eL : ∀ env2, callF C env2 ⟨.value f0, args, ats⟩ = some (f, ts) → lOp C env2 s.boxes (.call ⟨.value f0, args, ats⟩) (.callR full hs σ r0 bs0) = lCallR C env2 s.boxes f ts full hs σ r0 bs0 := fun env2 h2 => by
      unfold lOp
      simp only [h2]
    rw [eL _ hcf] at h0
    unfold lCallR lCallG at h0
    split at h0
    · rename_i r hr
      split at hr
      · rename_i q hq
        split at hr
        · rename_i p hp
          obtain ⟨hb, hr⟩ := cond_some hr
          cases hr
          obtain ⟨hk, h0⟩ := cond_some h0
          cases h0
          have hb2 := hb
          simp only [Bool.and_eq_true] at hb2
          obtain ⟨⟨⟨⟨⟨b1, b2⟩, b3⟩, b4⟩, b5⟩, b6⟩ := hb2
          obtain ⟨hkill, hal⟩ := putBoxes_al (f := renI σ s.boxes.length) b1 hn hm.2 b5
          refine ⟨_, _, by rw [hkill, killL_nil], fun i => ?_, fun env2 hs2 => ?_⟩
          · show bAl (frzAll (putBoxes s.boxes σ (bs0.map (Box.ren (renI σ s.boxes.length)))) (keepF r0 bs0 (q.ids ++ p.ids))) i = bAl s.boxes i
            rw [(frzAll_spec _ _).al i]
            exact hal i
          · have ha := hs2.alike (E := C.E)
            unfold Alike at ha
            rw [ho] at ha
            rw [e, eL env2 (by rw [← callF_like (fun x hx => ha x hx)]; exact hcf)]
            unfold lCallR lCallG
            rw [hq]
            rw [hkill] at hb
            simp only [hp, hkill, hb, cond_true, killL_nil]
            have hk2 : (Out.keeps ⟨andL (q.φ ++ (p.φ ++ [Fun C f q.v p.v r0 bs0])), r0.ren (renI σ s.boxes.length), env2, frzAll (putBoxes s.boxes σ (bs0.map (Box.ren (renI σ s.boxes.length)))) (keepF r0 bs0 (q.ids ++ p.ids))⟩ s.m) = true := hk
            rw [hk2]
            rfl
        · cases hr
      · cases hr
    · cases h0
  | none =>
    split at h0
    · rename_i r hr
      unfold lOp at hr
      simp only [hcf] at hr
      cases hr
    · cases h0

theorem stepD_store {C : Cfg} {ops : Array Oper} {o : Oper} {p : PD} {s : St} {φ : Prop} {s' : St} (h : stepD C ops o p s = some (φ, s')) (hm : isSt o.op p.d = true) :
    ∃ tm bs', s' = ⟨putE s.env o.dst tm, bs', s.m⟩ ∧ (∀ i, bAl bs' i = bAl s.boxes i) ∧ ∀ env2, Sees ops o s.env env2 → stepD C ops o p ⟨env2, s.boxes, s.m⟩ = some (φ, ⟨putE env2 o.dst tm, bs', s.m⟩) := by
  unfold stepD at h ⊢
  split at h
  · exact stepS_st h hm
  · rename_i j want q hg hp
    split at h
    · rename_i t ht
      split at h
      · rename_i b hb
        split at h
        · rename_i hqw
          split at h
          · rename_i φ1 s1 h1
            cases h
            obtain ⟨tm, bs', e1, e2, e3⟩ := stepS_st (ops := ops) h1 hm
            refine ⟨tm, bs', e1, e2, fun env2 hs => ?_⟩
            simp only [ht, ← hs.guard hg ht, hb, hqw, e3 env2 hs]
          · cases h
        · rename_i hqw
          cases h
          refine ⟨.tup [], s.boxes, rfl, fun _ => rfl, fun env2 hs => ?_⟩
          simp only [ht, ← hs.guard hg ht, hb, hqw]
      · rename_i hb
        cases h
        refine ⟨.tup [], s.boxes, rfl, fun _ => rfl, fun env2 hs => ?_⟩
        simp only [ht, ← hs.guard hg ht, hb]
      · cases h
    · cases h
  · cases h

/-! ### What looks at boxes of a fixed size, beside what is appended -/
theorem okAl_ex {bs bs2 : List Box} {x : Tm} (h : ∀ i ∈ x.ids, bs2[i]? = bs[i]?) : x.okAl bs2 = x.okAl bs := by
  cases x with
  | v x => cases x with
    | one c => cases c <;> first | rfl | (simp only [Tm.okAl, bAl]; rw [h _ (by simp [Tm.ids, AV.ids, Cell.id?])])
    | _ => rfl
  | _ => rfl
theorem qOp1_ex {C : Cfg} {env : List Tm} {bs bs2 : List Box} {op : Op} {d : OD} (hf : exF C.L op = true) (h : ∀ x ∈ op.operands.toList, ∀ i ∈ (evalO C.E env x).ids, bs2[i]? = bs[i]?) : qOp1 C env bs2 op d = qOp1 C env bs op d := by
  cases op <;> first | (cases hf; done) | rfl | skip
  case fieldAddr t x f =>
    have := okAl_ex (h x (by simp [Op.operands]))
    simp only [qOp1, qOp, this]
  case indexAddr t x i =>
    have h1 := okAl_ex (h x (by simp [Op.operands]))
    have e : qOp C.E C.L env bs2 (.indexAddr t x i) d = qOp C.E C.L env bs (.indexAddr t x i) d := by simp only [qOp, h1]
    unfold qOp1
    rw [e]
    split
    · rfl
    · exact lGlob_mem
  case load t x =>
    have hx := h x (by simp [Op.operands])
    have h1 := okAl_ex hx
    have h2 : qLoad C.L bs2 t (evalO C.E env x) = qLoad C.L bs t (evalO C.E env x) := by
      revert hx
      generalize evalO C.E env x = y
      intro hx
      unfold qLoad
      cases hl : look C.L t with
      | none => rfl
      | some ti =>
        cases y with
        | v y => cases y with
          | one c => cases c <;> first | rfl | (simp only []; rw [hx _ (by simp [Tm.ids, AV.ids, Cell.id?])])
          | _ => rfl
        | _ => rfl
    simp only [qOp1, qOp, h1, h2]
  case convert s t x =>
    have e : qOp C.E C.L env bs2 (.convert s t x) d = qOp C.E C.L env bs (.convert s t x) d := by
      simp only [qOp, qConvert]
      cases hl : look C.L s with
      | none => rfl
      | some ti =>
        obtain ⟨c, b, a, sk, z, ty⟩ := ti
        simp only [exF, hl] at hf
        cases sk <;> first | (cases hf; done) | skip
        cases hl2 : look C.L t with
        | none => rfl
        | some di =>
          dsimp only
    unfold qOp1
    rw [e]
  case call c =>
    obtain ⟨cal, args, ats⟩ := c
    cases cal <;> first | (cases hf; done) | skip
    rename_i b
    cases b <;> first | (cases hf; done) | skip
    have e : qOp C.E C.L env bs2 (.call ⟨.builtin .len, args, ats⟩) d = qOp C.E C.L env bs (.call ⟨.builtin .len, args, ats⟩) d := by
      have hx : ∀ x, args.toList = [x] → (evalO C.E env x).okAl bs2 = (evalO C.E env x).okAl bs := fun x h2 => okAl_ex (h x (by simp [Op.operands, Call.operands, h2]))
      simp only [qOp, qCall]
      generalize args.toList = l at hx
      generalize ats.toList = m
      match l, m with
      | [x], [t] => simp only [hx x rfl]
      | [], _ => rfl
      | _ :: _ :: _, _ => rfl
      | [_], [] => rfl
      | [_], _ :: _ :: _ => rfl
    unfold qOp1
    rw [e]

theorem stepS_ex {C : Cfg} {o : Oper} {d : OD} {s : St} {φ : Prop} {s' : St} (h : stepS C o d s = some (φ, s')) (hc : clsO C.L o.op d = 0) (hx : odX d = true) :
    ∃ tm, s' = ⟨putE s.env o.dst tm, s.boxes, s.m⟩ ∧ (∀ i ∈ tm.ids, bEx s.boxes i = true) ∧ (∀ x ∈ o.op.operands.toList, ∀ i ∈ (evalO C.E s.env x).ids, bEx s.boxes i = true) ∧
      ∀ env2 bs2, (∀ i, bEx s.boxes i = true → bs2[i]? = s.boxes[i]?) → Alike C.E s.env env2 o.op → stepS C o d ⟨env2, bs2, s.m⟩ = some (φ, ⟨putE env2 o.dst tm, bs2, s.m⟩) := by
  unfold stepS at h ⊢
  rw [hc] at h ⊢
  simp only at h ⊢
  split at h
  · rename_i φ1 tm hq
    cases h
    obtain ⟨h1, h2⟩ := qOp2_of hq
    unfold xOK at h2
    rw [hx] at h2
    simp only [Bool.not_true, Bool.false_or, Bool.and_eq_true, List.all_eq_true, idsEx] at h2
    obtain ⟨⟨hf, ho, ht⟩, hnn⟩ := h2
    refine ⟨tm, rfl, ht, ho, fun env2 bs2 hb ha => ?_⟩
    have h3 : qOp1 C env2 bs2 o.op d = some (φ, tm) := by
      have h4 : qOp1 C env2 (s.boxes ++ []) o.op d = some (φ, tm) := qOp1_like h1 ha
      rw [List.append_nil] at h4
      rw [qOp1_ex hf (fun x hx i hi => ?_), h4]
      rw [← ha x hx] at hi
      exact hb i (ho x hx i hi)
    have hbx : ∀ i, bEx s.boxes i = true → bEx bs2 i = true := fun i hi => by unfold bEx at hi ⊢; rw [hb i hi]; exact hi
    have h5 : xOK C env2 bs2 o.op d tm = true := by
      unfold xOK
      rw [hx]
      simp only [Bool.not_true, Bool.false_or, Bool.and_eq_true, List.all_eq_true, idsEx]
      refine ⟨⟨hf, fun x hx i hi => by rw [← ha x hx] at hi; exact hbx i (ho x hx i hi), fun i hi => hbx i (ht i hi)⟩, ?_⟩
      cases hd : odN d with
      | false => rfl
      | true =>
        rw [hd] at hnn
        simp only [Bool.not_true, Bool.false_or, Bool.and_eq_true, List.all_eq_true] at hnn ⊢
        exact ⟨fun x hx => by rw [← ha x hx]; exact hnn.1 x hx, hnn.2⟩
    rw [qOp2_mk h3 h5]
  · cases h

/-- What looks at no box at all. -/
theorem stepS_no {C : Cfg} {o : Oper} {d : OD} {s : St} {φ : Prop} {s' : St} (h : stepS C o d s = some (φ, s')) (hc : clsO C.L o.op d = 0) (hx : odN d = true) :
    ∃ tm, s' = ⟨putE s.env o.dst tm, s.boxes, s.m⟩ ∧ ∀ env2 bs2, Alike C.E s.env env2 o.op → stepS C o d ⟨env2, bs2, s.m⟩ = some (φ, ⟨putE env2 o.dst tm, bs2, s.m⟩) := by
  unfold stepS at h ⊢
  rw [hc] at h ⊢
  simp only at h ⊢
  split at h
  · rename_i φ1 tm hq
    cases h
    obtain ⟨h1, h2⟩ := qOp2_of hq
    unfold xOK at h2
    rw [hx, odN_X hx] at h2
    simp only [Bool.not_true, Bool.false_or, Bool.and_eq_true, List.all_eq_true, idsEx] at h2
    obtain ⟨⟨hf, ho, ht⟩, hnn, htn⟩ := h2
    rw [List.isEmpty_iff] at htn
    refine ⟨tm, rfl, fun env2 bs2 ha => ?_⟩
    have emp : ∀ x ∈ o.op.operands.toList, ∀ i, i ∈ (evalO C.E env2 x).ids → False := fun x hx i hi => by
      rw [← ha x hx] at hi
      have := hnn x hx
      rw [List.isEmpty_iff] at this
      rw [this] at hi
      exact List.not_mem_nil hi
    have h3 : qOp1 C env2 bs2 o.op d = some (φ, tm) := by
      have h4 : qOp1 C env2 (s.boxes ++ []) o.op d = some (φ, tm) := qOp1_like h1 ha
      rw [List.append_nil] at h4
      rw [qOp1_ex hf (fun x hx i hi => (emp x hx i hi).elim), h4]
    have h5 : xOK C env2 bs2 o.op d tm = true := by
      unfold xOK
      rw [hx, odN_X hx]
      simp only [Bool.not_true, Bool.false_or, Bool.and_eq_true, List.all_eq_true, idsEx]
      exact ⟨⟨hf, fun x hx i hi => (emp x hx i hi).elim, fun i hi => by rw [htn] at hi; exact (List.not_mem_nil hi).elim⟩, fun x hx => by rw [← ha x hx]; exact hnn x hx, by rw [htn]; rfl⟩
    rw [qOp2_mk h3 h5]
  · cases h

def kl : Option Nat → List Tm → List Tm
  | none, env => env
  | some id, env => env.map (Tm.kill id)

theorem kill_ids {id : Nat} {t : Tm} (h : ∀ i ∈ t.ids, i ≠ id) : t.kill id = t := by
  unfold Tm.kill
  have : t.ids.any (Nat.beq id) = false := by
    rw [List.any_eq_false]
    intro i hi e
    exact h i hi (beq_eq e).symm
  rw [this]
  rfl
theorem kl_put {K : Option Nat} {env : List Tm} {dst : Option Tmp} {tm : Tm} (h : ∀ id, K = some id → ∀ i ∈ tm.ids, i ≠ id) : kl K (putE env dst tm) = putE (kl K env) dst tm := by
  cases K with
  | none => rfl
  | some id => cases dst with
    | none => rfl
    | some t =>
      simp only [kl, putE, List.map_set]
      rw [kill_ids (h id rfl)]
theorem kl_eval {E : TypeId} {K : Option Nat} {env : List Tm} {x : Operand} (h : ∀ id, K = some id → ∀ i ∈ (evalO E env x).ids, i ≠ id) : evalO E (kl K env) x = evalO E env x := by
  cases K with
  | none => rfl
  | some id => cases x with
    | tmp t =>
      have hk := kill_ids (h id rfl)
      simp only [evalO, kl, List.getD_eq_getElem?_getD, List.getElem?_map] at hk ⊢
      cases he : env[t]? with
      | none => rfl
      | some y => rw [he] at hk; simpa using hk
    | _ => rfl

theorem lAppend_like {E : TypeId} {L : List (Nat × TI)} {env : List Tm} {bs : List Box} {full : Bool} {sT xT : TypeId} {s x : Operand} {r : Out} (h : lAppend E L env bs full sT xT s x = some r) :
    ∃ K, r.env = kl K env ∧ (∀ i, bEx bs i = true → r.bs[i]? = bs[i]?) ∧ (∀ id, K = some id → bEx bs id = false) ∧
      ∀ env2, evalO E env s = evalO E env2 s → evalO E env x = evalO E env2 x → lAppend E L env2 bs full sT xT s x = some ⟨r.φ, r.tm, kl K env2, r.bs⟩ := by
  have more : ∀ (b : Box) i, bEx bs i = true → (bs ++ [b])[i]? = bs[i]? := fun b i hi => by
    unfold bEx at hi
    cases hb : bs[i]? with
    | none => rw [hb] at hi; cases hi
    | some z => rw [List.getElem?_append_left (List.getElem?_eq_some_iff.1 hb).1, hb]
  unfold lAppend at h ⊢
  split at h
  · rename_i e hl
    split at h
    · rename_i ei hl2
      split at h
      · rename_i u hu
        obtain ⟨hb, h⟩ := cond_some h
        split at h
        · rename_i φ ys x0 hs hz
          have key : ∀ env2, evalO E env s = evalO E env2 s → evalO E env x = evalO E env2 x → srcS E env2 bs u full x = some (φ, ys) := fun env2 _ h2 => by
            unfold srcS at hs ⊢
            rw [← h2]
            exact hs
          split at h
          · rename_i hev
            cases h
            refine ⟨none, rfl, more _, fun _ e => (by cases e), fun env2 h1 h2 => ?_⟩
            simp only [hl, hl2, hu, hb, cond_true, key env2 h1 h2, hz, ← h1, hev]
            rfl
          · rename_i id base lo esz len cap hev
            split at h
            · rename_i t l ty hbx
              split at h
              · rename_i hh ht
                obtain ⟨hb2, h⟩ := cond_some h
                cases h
                have hne : bEx bs id = false := by unfold bEx; rw [hbx]; rfl
                refine ⟨some id, rfl, fun i hi => ?_, fun _ e => (by cases e; exact hne), fun env2 h1 h2 => ?_⟩
                · show (bs.set id _)[i]? = bs[i]?
                  rw [List.getElem?_set, if_neg (fun e => by subst e; rw [hne] at hi; cases hi)]
                · simp only [hl, hl2, hu, hb, cond_true, key env2 h1 h2, hz, ← h1, hev, hbx, ht, hb2]
                  rfl
              · cases h
            · cases h
          · rename_i t l hev
            split at h
            · rename_i hh ht
              cases h
              refine ⟨none, rfl, more _, fun _ e => (by cases e), fun env2 h1 h2 => ?_⟩
              simp only [hl, hl2, hu, hb, cond_true, key env2 h1 h2, hz, ← h1, hev, ht]
              rfl
            · cases h
          · cases h
        · cases h
      · cases h
    · cases h
  · cases h

theorem stepS_app {C : Cfg} {o : Oper} {d : OD} {s : St} {φ : Prop} {s' : St} (h : stepS C o d s = some (φ, s')) (hm : isApp C.L o.op d = true) :
    ∃ tm K bs', s' = ⟨putE (kl K s.env) o.dst tm, bs', s.m⟩ ∧ (∀ i, bEx s.boxes i = true → bs'[i]? = s.boxes[i]?) ∧ (∀ id, K = some id → bEx s.boxes id = false) ∧
      ∀ env2, Alike C.E s.env env2 o.op → stepS C o d ⟨env2, s.boxes, s.m⟩ = some (φ, ⟨putE (kl K env2) o.dst tm, bs', s.m⟩) := by
  cases ho : o.op <;> rw [ho] at hm <;> first | (cases hm; done) | skip
  rename_i c
  cases d <;> first | (cases hm; done) | skip
  rename_i q
  simp only [isApp] at hm
  split at hm
  · rename_i sv xv sT xT hcal hargs hats
    have hi : intT C.L xT = false := by simpa using hm
    have e : ∀ env2, stepS C o (.b q) ⟨env2, s.boxes, s.m⟩ = match lAppend C.E C.L env2 s.boxes q sT xT sv xv with | some r => bif r.keeps s.m then some (r.φ, ⟨putE r.env o.dst r.tm, r.bs, s.m⟩) else none | none => none := by
      intro env2
      unfold stepS stepO
      rw [ho]
      have hq : qOp C.E C.L env2 s.boxes (.call c) (.b q) = none := by
        simp only [qOp, qCall, hcal]
      have hcl : clsO C.L (.call c) (.b q) = 2 := by simp only [clsO, hcal]
      rw [hcl]
      have hres : resD C env2 s.boxes (.call c) (.b q) = .b q := rfl
      simp only [hres, hq, lOp, hcal, hargs, hats, hi, cond_false, odM, odB]
    have h0 : stepS C o (.b q) ⟨s.env, s.boxes, s.m⟩ = some (φ, s') := h
    rw [e] at h0
    cases hl : lAppend C.E C.L s.env s.boxes q sT xT sv xv with
    | none => rw [hl] at h0; cases h0
    | some r =>
      rw [hl] at h0
      simp only at h0
      obtain ⟨hk, h0⟩ := cond_some h0
      cases h0
      obtain ⟨K, h1, h2, h3, h4⟩ := lAppend_like hl
      refine ⟨r.tm, K, r.bs, by rw [h1], h2, h3, fun env2 ha => ?_⟩
      rw [e, h4 env2 (ha sv (by simp [Op.operands, Call.operands, hargs])) (ha xv (by simp [Op.operands, Call.operands, hargs]))]
      have : (Out.keeps ⟨r.φ, r.tm, kl K env2, r.bs⟩ s.m) = true := hk
      simp only [this, cond_true]
  · cases hm

theorem stepD_none {C : Cfg} {ops : Array Oper} {o : Oper} {p : PD} {s : St} {r : Prop × St} (hg : o.guard.isNone = true) (h : stepD C ops o p s = some r) : p.g = none ∧ stepS C o p.d s = some r := by
  have hg : o.guard = none := by simpa using hg
  unfold stepD at h
  rw [hg] at h
  split at h
  · rename_i hp; exact ⟨hp, h⟩
  · rename_i h1 _; cases h1
  · cases h
theorem stepD_mk {C : Cfg} {ops : Array Oper} {o : Oper} {p : PD} {s : St} {r : Prop × St} (hg : o.guard.isNone = true) (hp : p.g = none) (h : stepS C o p.d s = some r) : stepD C ops o p s = some r := by
  have hg : o.guard = none := by simpa using hg
  unfold stepD
  rw [hg, hp]
  exact h

def waitsFor (o : Oper) (i : Nat) : Bool := o.after.toList.any fun e => Region.binds .any e && Nat.beq e.on i
def waitsT (ops : Array Oper) : Nat → Oper → Nat → Bool
  | 0, _, _ => false
  | n + 1, o, i => o.after.toList.any fun e => Region.binds .any e && (Nat.beq e.on i || (match ops.toList[e.on]? with | some o' => waitsT ops n o' i | none => false))

/-- Whom each waits for, as bits; later ones ahead. -/
abbrev Masks := List (Nat × Nat)
def maskAt : Masks → Nat → Nat
  | [], _ => 0
  | (i, m) :: r, k => bif Nat.beq i k then m else maskAt r k
def maskOf (T : Masks) : List Edge → Nat
  | [] => 0
  | e :: r => bif Region.binds .any e then Nat.lor (Nat.lor (2 ^ e.on) (maskAt T e.on)) (maskOf T r) else maskOf T r
def masks : List Item → Masks → Masks
  | [], T => T
  | x :: r, T => masks r ((x.1, maskOf T x.2.1.after.toList) :: T)

def okPair (C : Cfg) (ops : Array Oper) (T : Masks) (x y : Item) : Bool := !(Nat.beq x.1 y.1) && (!(waitsFor x.2.1 y.1) && (waitsFor y.2.1 x.1 || ((x.2.1.apart ops y.2.1 && swapC C x y) || Nat.testBit (maskAt T y.1) x.1)))
def okItem (ops : Array Oper) (x : Item) : Bool := x.2.1.after.toList.all fun e => !Region.binds .any e || (Nat.ble (e.on + 1) ops.toList.length && !(Nat.beq e.on x.1))

def pairsOK (C : Cfg) (ops : Array Oper) (T : Masks) : List Item → Bool
  | [] => true
  | x :: r => r.all (okPair C ops T x) && (okItem ops x && pairsOK C ops T r)

/-- The items, in the order that is told. -/
def itemsOf (ops : List Oper) : List (Nat × PD) → Option (List Item)
  | [] => some []
  | (i, p) :: r => (match ops[i]?, itemsOf ops r with
    | some o, some l => some ((i, o, p) :: l)
    | _, _ => none)

/-- The run, told without what asks nothing. -/
def aRunT (C : Cfg) (ops : Array Oper) : List Item → St → (St → Prop) → Prop
  | [], s, K => K s
  | x :: r, s, K => match stepD C ops x.2.1 x.2.2 s with
    | some (φ, s') => bif x.2.1.guard.isNone && triv x.2.1.op then aRunT C ops r s' K else φ ∧ aRunT C ops r s' K
    | none => False

theorem stepS_triv {C : Cfg} {o : Oper} {d : OD} {s : St} {φ : Prop} {s' : St} (h : stepS C o d s = some (φ, s')) (ht : triv o.op = true) : φ := by
  unfold stepS at h
  split at h
  · split at h
    · rename_i φ1 tm hq
      cases h
      exact triv_true (C := C) (env := s.env) (bs := s.boxes) (op := o.op) (d := d) (r := ⟨φ, tm, s.env, s.boxes⟩) (qOp2_step hq) ht
    · cases h
  · split at h
    · rename_i r hq hl
      cases h
      obtain ⟨_, hl⟩ := cond_some hl
      exact triv_true (C := C) (env := s.env) (bs := s.boxes) (op := o.op) (d := d) (r := r) (by unfold stepO; rw [hq]; exact hl) ht
    · cases h
  · split at h
    · rename_i r hq
      obtain ⟨_, h⟩ := cond_some h
      cases h
      exact triv_true hq ht
    · cases h

theorem aRunT_run {C : Cfg} {ops : Array Oper} {K : St → Prop} : ∀ (l : List Item) {s : St}, aRunT C ops l s K → aRun C ops l s K
  | [], s, h => h
  | x :: r, s, h => by
    simp only [aRunT, aRun] at h ⊢
    split at h
    · rename_i φ s' hs
      cases hg : x.2.1.guard.isNone && triv x.2.1.op with
      | false => rw [hg] at h; exact ⟨h.1, aRunT_run r h.2⟩
      | true =>
        rw [hg] at h
        rw [Bool.and_eq_true] at hg
        refine ⟨?_, aRunT_run r h⟩
        have hg1 : x.2.1.guard = none := by simpa using hg.1
        unfold stepD at hs
        rw [hg1] at hs
        split at hs
        · exact stepS_triv hs hg.2
        · rename_i h1 _; cases h1
        · cases hs
    · exact h.elim

def drawE (C : Cfg) (ops : Array Oper) (ps : List (Nat × PD)) (s : St) (K : St → Prop) : Prop := match itemsOf ops.toList ps with
  | some l => bif pairsOK C ops (masks l []) l && Nat.beq ps.length ops.toList.length then aRunT C ops l s K else False
  | none => False

theorem sees_put {ops : Array Oper} {x y : Oper} (h : x.apart ops y = true) (env : List Tm) (tm : Tm) : Sees ops y env (putE env x.dst tm) ∧ Sees ops x env (putE env y.dst tm) := by
  obtain ⟨h1, h2, h3⟩ := Oper.apart_spec h
  exact ⟨fun t ht => (putE_get fun d hd e => h1 d hd (by rw [e]; exact ht)).symm, fun t ht => (putE_get fun d hd e => h3 d hd (by rw [e]; exact ht)).symm⟩

theorem aRun_swap0 {C : Cfg} {ops : Array Oper} {x y : Item} {r : List Item} {s : St} {K : St → Prop} (ha : x.2.1.apart ops y.2.1 = true) (hcx : clsO C.L x.2.1.op x.2.2.d = 0) (hcy : clsO C.L y.2.1.op y.2.2.d = 0 ∨ clsO C.L y.2.1.op y.2.2.d = 1) (h : aRun C ops (x :: y :: r) s K) : aRun C ops (y :: x :: r) s K := by
  simp only [aRun] at h ⊢
  split at h
  · rename_i φ1 s1 h1
    obtain ⟨hφ1, h⟩ := h
    split at h
    · rename_i φ2 s2 h2
      obtain ⟨hφ2, h⟩ := h
      obtain ⟨tm1, l1, e1, e2, e3⟩ := stepD_like h1 (.inl hcx)
      obtain ⟨tm2, l2, f1, f2, f3⟩ := stepD_like h2 hcy
      obtain rfl := e2 hcx
      subst e1
      have hs := sees_put ha s.env
      have hab := Oper.apart_spec ha
      have hy : stepD C ops y.2.1 y.2.2 s = some (φ2, ⟨putE s.env y.2.1.dst tm2, s.boxes ++ l2, s.m⟩) := by
        have := f3 s.env [] (fun t ht => ((hs tm1).1 t ht).symm) (fun _ => rfl)
        simpa using this
      have hx : stepD C ops x.2.1 x.2.2 ⟨putE s.env y.2.1.dst tm2, s.boxes ++ l2, s.m⟩ = some (φ1, ⟨putE (putE s.env y.2.1.dst tm2) x.2.1.dst tm1, s.boxes ++ l2, s.m⟩) := by
        have := e3 (putE s.env y.2.1.dst tm2) l2 (hs tm2).2 (fun e => by rw [hcx] at e; cases e)
        simpa using this
      rw [hy]
      simp only
      refine ⟨hφ2, ?_⟩
      rw [hx]
      refine ⟨hφ1, ?_⟩
      rw [f1] at h
      simp only [List.append_nil] at h
      rw [putE_comm hab.2.1] at h
      exact h
    · exact h.elim
  · exact h.elim

theorem aRun_swap {C : Cfg} {ops : Array Oper} {x y : Item} {r : List Item} {s : St} {K : St → Prop} (ha : x.2.1.apart ops y.2.1 = true) (hc : swapC C x y = true) (h : aRun C ops (x :: y :: r) s K) : aRun C ops (y :: x :: r) s K := by
  by_cases hN : ((odN y.2.2.d && y.2.1.guard.isNone) = true ∧ clsO C.L x.2.1.op x.2.2.d = 1) ∧ clsO C.L y.2.1.op y.2.2.d = 0
  · obtain ⟨⟨hN, hcx⟩, hcy⟩ := hN
    rw [Bool.and_eq_true] at hN
    simp only [aRun] at h ⊢
    split at h
    · rename_i φ1 s1 h1
      obtain ⟨hφ1, h⟩ := h
      split at h
      · rename_i φ2 s2 h2
        obtain ⟨hφ2, h⟩ := h
        obtain ⟨tm1, l1, e1, e2, e3⟩ := stepD_like h1 (.inr hcx)
        obtain ⟨hyp, h2⟩ := stepD_none hN.2 h2
        obtain ⟨tm2, f1, f2⟩ := stepS_no h2 hcy hN.1
        subst e1
        simp only at f1 f2
        have hab := Oper.apart_spec ha
        have hs := sees_put ha s.env
        have hy : stepD C ops y.2.1 y.2.2 s = some (φ2, ⟨putE s.env y.2.1.dst tm2, s.boxes, s.m⟩) :=
          stepD_mk hN.2 hyp (f2 s.env s.boxes fun x hx => (((hs tm1).1.alike) x hx).symm)
        have hx : stepD C ops x.2.1 x.2.2 ⟨putE s.env y.2.1.dst tm2, s.boxes, s.m⟩ = some (φ1, ⟨putE (putE s.env y.2.1.dst tm2) x.2.1.dst tm1, s.boxes ++ l1, s.m⟩) := by
          have := e3 (putE s.env y.2.1.dst tm2) [] (hs tm2).2 (fun _ => rfl)
          simpa using this
        rw [hy]
        simp only
        refine ⟨hφ2, ?_⟩
        rw [hx]
        refine ⟨hφ1, ?_⟩
        rw [f1] at h
        rw [putE_comm hab.2.1] at h
        exact h
      · exact h.elim
    · exact h.elim
  by_cases hX : exApp C x y = true ∧ clsO C.L x.2.1.op x.2.2.d = 0
  · obtain ⟨hX, hcx⟩ := hX
    unfold exApp at hX
    simp only [Bool.and_eq_true] at hX
    obtain ⟨hxd, hxg, hya, hyg⟩ := hX
    simp only [aRun] at h ⊢
    split at h
    · rename_i φ1 s1 h1
      obtain ⟨hφ1, h⟩ := h
      split at h
      · rename_i φ2 s2 h2
        obtain ⟨hφ2, h⟩ := h
        obtain ⟨hxp, h1⟩ := stepD_none hxg h1
        obtain ⟨hyp, h2⟩ := stepD_none hyg h2
        obtain ⟨tm1, e1, t1, t2, t3⟩ := stepS_ex h1 hcx hxd
        obtain ⟨tm2, K, bs', f1, f2, f3, f4⟩ := stepS_app h2 hya
        subst e1
        simp only at f1 f2 f3 f4
        have hab := Oper.apart_spec ha
        have hs := sees_put ha s.env
        have ne : ∀ id, K = some id → ∀ i, bEx s.boxes i = true → i ≠ id := fun id e i hi h => by
          subst h
          rw [f3 i e] at hi
          cases hi
        have hy : stepD C ops y.2.1 y.2.2 s = some (φ2, ⟨putE (kl K s.env) y.2.1.dst tm2, bs', s.m⟩) :=
          stepD_mk hyg hyp (f4 s.env fun x hx => (((hs tm1).1.alike) x hx).symm)
        have hx : stepD C ops x.2.1 x.2.2 ⟨putE (kl K s.env) y.2.1.dst tm2, bs', s.m⟩ = some (φ1, ⟨putE (putE (kl K s.env) y.2.1.dst tm2) x.2.1.dst tm1, bs', s.m⟩) := by
          refine stepD_mk hxg hxp (t3 _ bs' f2 fun z hz => ?_)
          rw [← ((sees_put ha (kl K s.env) tm2).2.alike) z hz]
          exact (kl_eval fun id e i hi => ne id e i (t2 z hz i hi)).symm
        rw [hy]
        simp only
        refine ⟨hφ2, ?_⟩
        rw [hx]
        refine ⟨hφ1, ?_⟩
        rw [f1, kl_put fun id e i hi => ne id e i (t1 i hi)] at h
        rw [putE_comm hab.2.1] at h
        exact h
      · exact h.elim
    · exact h.elim
  by_cases hn : (isSt x.2.1.op x.2.2.d = true ∧ memG C.L y.2.1.op y.2.2.d = true) ∧ clsO C.L y.2.1.op y.2.2.d = 0
  · obtain ⟨⟨hx0, hmy⟩, hcy⟩ := hn
    simp only [aRun] at h ⊢
    split at h
    · rename_i φ1 s1 h1
      obtain ⟨hφ1, h⟩ := h
      split at h
      · rename_i φ2 s2 h2
        obtain ⟨hφ2, h⟩ := h
        obtain ⟨tm1, bs', e1, e2, e3⟩ := stepD_store h1 hx0
        subst e1
        obtain ⟨tm2, f1, f3⟩ := stepD_mem h2 hcy hmy
        have hs := sees_put ha s.env
        have hab := Oper.apart_spec ha
        have hy : stepD C ops y.2.1 y.2.2 s = some (φ2, ⟨putE s.env y.2.1.dst tm2, s.boxes, s.m⟩) :=
          f3 s.env s.boxes (fun i => (e2 i).symm) (fun t ht => ((hs tm1).1 t ht).symm)
        have hx : stepD C ops x.2.1 x.2.2 ⟨putE s.env y.2.1.dst tm2, s.boxes, s.m⟩ = some (φ1, ⟨putE (putE s.env y.2.1.dst tm2) x.2.1.dst tm1, bs', s.m⟩) :=
          e3 (putE s.env y.2.1.dst tm2) (hs tm2).2
        rw [hy]
        simp only
        refine ⟨hφ2, ?_⟩
        rw [hx]
        refine ⟨hφ1, ?_⟩
        rw [f1] at h
        rw [putE_comm hab.2.1] at h
        exact h
      · exact h.elim
    · exact h.elim
  by_cases hm : memG C.L x.2.1.op x.2.2.d = true ∧ isSt y.2.1.op y.2.2.d = true
  · have hcx : clsO C.L x.2.1.op x.2.2.d = 0 := by
      unfold swapC at hc
      split at hc <;> simp_all
    simp only [aRun] at h ⊢
    split at h
    · rename_i φ1 s1 h1
      obtain ⟨hφ1, h⟩ := h
      split at h
      · rename_i φ2 s2 h2
        obtain ⟨hφ2, h⟩ := h
        obtain ⟨tm1, e1, e3⟩ := stepD_mem h1 hcx hm.1
        obtain ⟨tm2, bs', f1, f2, f3⟩ := stepD_store h2 hm.2
        subst e1
        have hs := sees_put ha s.env
        have hab := Oper.apart_spec ha
        have hy : stepD C ops y.2.1 y.2.2 s = some (φ2, ⟨putE s.env y.2.1.dst tm2, bs', s.m⟩) :=
          f3 s.env (fun t ht => ((hs tm1).1 t ht).symm)
        have hx : stepD C ops x.2.1 x.2.2 ⟨putE s.env y.2.1.dst tm2, bs', s.m⟩ = some (φ1, ⟨putE (putE s.env y.2.1.dst tm2) x.2.1.dst tm1, bs', s.m⟩) :=
          e3 (putE s.env y.2.1.dst tm2) bs' f2 (hs tm2).2
        rw [hy]
        simp only
        refine ⟨hφ2, ?_⟩
        rw [hx]
        refine ⟨hφ1, ?_⟩
        rw [f1] at h
        rw [putE_comm hab.2.1] at h
        exact h
      · exact h.elim
    · exact h.elim
  · have hcx : clsO C.L x.2.1.op x.2.2.d = 0 := by
      unfold swapC at hc
      split at hc <;> simp_all
    have hcy : clsO C.L y.2.1.op y.2.2.d = 0 ∨ clsO C.L y.2.1.op y.2.2.d = 1 := by
      unfold swapC at hc
      split at hc
      · rename_i h1; exact .inl h1
      · rename_i h1; exact .inr h1
      · rename_i h0 h1; exact absurd ⟨⟨hc, h0⟩, h1⟩ hN
      · rename_i h1 _ _
        rw [Bool.or_eq_true, Bool.and_eq_true] at hc
        rcases hc with hc | hc
        · exact absurd hc hm
        · exact absurd ⟨hc, h1⟩ hX
      · rw [Bool.and_eq_true] at hc; exact absurd ⟨hc, ‹clsO C.L y.2.1.op y.2.2.d = 0›⟩ hn
      · cases hc
    exact aRun_swap0 ha hcx hcy h

theorem aRun_front {C : Cfg} {ops : Array Oper} {x : Item} {r : List Item} {K : St → Prop} : ∀ (r1 : List Item) {s : St}, (∀ y ∈ r1, y.2.1.apart ops x.2.1 = true ∧ swapC C y x = true) → aRun C ops (r1 ++ x :: r) s K → aRun C ops (x :: (r1 ++ r)) s K
  | [], s, _, h => h
  | y :: r1, s, hy, h => by
    refine aRun_swap (hy y (by simp)).1 (hy y (by simp)).2 ?_
    simp only [List.cons_append, aRun] at h ⊢
    split at h
    · obtain ⟨h1, h2⟩ := h
      exact ⟨h1, aRun_front r1 (fun z hz => hy z (by simp [hz])) h2⟩
    · exact h.elim

theorem pairsOK_spec {C : Cfg} {ops : Array Oper} {T : Masks} : ∀ {l : List Item}, pairsOK C ops T l = true → l.Pairwise (fun x y => okPair C ops T x y = true) ∧ ∀ x ∈ l, okItem ops x = true
  | [], _ => ⟨.nil, fun _ h => by simp at h⟩
  | x :: r, h => by
    simp only [pairsOK, Bool.and_eq_true, List.all_eq_true] at h
    obtain ⟨h1, h2, h3⟩ := h
    obtain ⟨i1, i2⟩ := pairsOK_spec h3
    refine ⟨.cons h1 i1, fun y hy => ?_⟩
    rcases List.mem_cons.1 hy with rfl | hy
    · exact h2
    · exact i2 y hy

theorem stepD_wp {C : Cfg} (hC : COk C) {Z : Nat → Prop} {β : Nat → Option (Nat × Nat)} {w : World} {a : Act} {s s' : St} (h : RelM C Z β w a s) {ops : Array Oper} {i : Nat} {o : Oper} (hi : ops[i]? = some o) {p : PD} {φ : Prop} (hq : stepD C ops o p s = some (φ, s')) (hφ : φ)
    {N : Act → World → Prop} {Q : Exit → Act → World → Prop} (hN : Goes C s.m Z β s.boxes w s' N) : s'.m = s.m ∧ wpOp C.P ops Q i N a w := by
  have core : ∀ {d : OD} {φ : Prop} {s' : St}, stepS C o d s = some (φ, s') → φ → Goes C s.m Z β s.boxes w s' N → s'.m = s.m ∧ o.wp C.P a w N Q := by
    intro d φ s' hq hφ hN
    unfold stepS at hq
    split at hq
    · split at hq
      · rename_i φ1 tm h1
        cases hq
        have h2 : stepO C s.env s.boxes o.op d = some ⟨φ, tm, s.env, s.boxes⟩ := qOp2_step h1
        exact ⟨rfl, stepO_goes hC h h2 hφ (by show Nat.ble s.m s.boxes.length = true; exact Nat.ble_eq_true_of_le h.2) hN⟩
      · cases hq
    · rename_i hc
      split at hq
      · rename_i r h1 h2
        cases hq
        obtain ⟨hpk, h2⟩ := cond_some h2
        have h3 : stepO C s.env s.boxes o.op d = some r := by unfold stepO; rw [h1]; exact h2
        obtain ⟨_, ⟨l, e⟩, _⟩ := lOp_push (env' := s.env) hc hpk h2 fun _ _ => rfl
        exact ⟨rfl, stepO_goes hC h h3 hφ (by show Nat.ble s.m r.bs.length = true; rw [e]; exact Nat.ble_eq_true_of_le (by have := h.2; simp; omega)) hN⟩
      · cases hq
    · split at hq
      · rename_i r h1
        obtain ⟨hk, hq⟩ := cond_some hq
        cases hq
        exact ⟨rfl, stepO_goes hC h h1 hφ hk hN⟩
      · cases hq
  unfold wpOp
  simp only [hi]
  unfold stepD at hq
  split at hq
  · rename_i hg hp
    obtain ⟨e, hw⟩ := core hq hφ hN
    have hw' : Region.wanted o (yielded ops a.tmps) = true := by unfold Region.wanted; rw [hg]
    rw [if_pos hw']
    exact ⟨e, .inl hw⟩
  · rename_i j want q hg hp
    split at hq
    · rename_i t ht
      split at hq
      · rename_i b hb
        have hy := yielded_eq h ht hb
        have hw : Region.wanted o (yielded ops a.tmps) = (b == want) := by
          unfold Region.wanted; rw [hg]; simp only [hy]; cases b <;> cases want <;> rfl
        rw [hw]
        split at hq
        · rename_i hqw
          split at hq
          · rename_i φ1 s1 h1
            cases hq
            obtain ⟨rfl, hφ⟩ := hφ
            rw [hqw, if_pos rfl]
            obtain ⟨e, hw⟩ := core h1 hφ hN
            exact ⟨e, .inl hw⟩
          · cases hq
        · rename_i hqw
          cases hq
          subst hφ
          rw [hqw, if_neg (by simp)]
          exact ⟨rfl, hN Z β _ w (skip_rel h o.dst) (Ext.refl ..)⟩
      · rename_i hb
        cases hq
        have hy := yielded_none h ht hb
        have hw : Region.wanted o (yielded ops a.tmps) = false := by
          unfold Region.wanted; rw [hg]; simp only [hy]; cases want <;> rfl
        rw [hw, if_neg (by simp)]
        exact ⟨rfl, hN Z β _ w (skip_rel h o.dst) (Ext.refl ..)⟩
      · cases hq
    · cases hq
  · cases hq

theorem stepD_m {C : Cfg} {ops : Array Oper} {o : Oper} {p : PD} {s s' : St} {φ : Prop} (h : stepD C ops o p s = some (φ, s')) : s'.m = s.m := by
  have core : ∀ {d : OD} {φ : Prop} {s' : St}, stepS C o d s = some (φ, s') → s'.m = s.m := by
    intro d φ s' h
    unfold stepS at h
    split at h
    · split at h
      · cases h; rfl
      · cases h
    · split at h
      · cases h; rfl
      · cases h
    · split at h
      · obtain ⟨_, h⟩ := cond_some h
        cases h; rfl
      · cases h
  unfold stepD at h
  split at h
  · exact core h
  · split at h
    · split at h
      · split at h
        · split at h
          · rename_i h1
            cases h
            exact core h1
          · cases h
        · cases h; rfl
      · cases h; rfl
      · cases h
    · cases h
  · cases h

theorem waitsFor_edge {o : Oper} {i : Nat} (h : waitsFor o i = true) : ∃ e ∈ o.after, Region.binds .any e = true ∧ e.on = i := by
  unfold waitsFor at h
  rw [List.any_eq_true] at h
  obtain ⟨e, he, h⟩ := h
  simp only [Bool.and_eq_true] at h
  exact ⟨e, by simpa using he, h.1, beq_eq h.2⟩

theorem waitsT_listed {ops : Array Oper} {listed : Array Bool} (hcl : ∀ (j : Nat) (o : Oper), ops[j]? = some o → listed.getD j false = true → ∀ e ∈ o.after, Region.binds .any e = true → listed.getD e.on false = true) :
    ∀ (n : Nat) (o : Oper) (i : Nat), (∀ e ∈ o.after, Region.binds .any e = true → listed.getD e.on false = true) → waitsT ops n o i = true → listed.getD i false = true
  | 0, _, _, _, h => by cases h
  | n + 1, o, i, ho, h => by
    unfold waitsT at h
    rw [List.any_eq_true] at h
    obtain ⟨e, he, h⟩ := h
    simp only [Bool.and_eq_true, Bool.or_eq_true] at h
    have hl := ho e (by simpa using he) h.1
    rcases h.2 with h2 | h2
    · rw [← beq_eq h2]; exact hl
    · split at h2
      · rename_i o' ho'
        exact waitsT_listed hcl n o' i (hcl e.on o' (by simpa using ho') hl) h2
      · cases h2

/-- One waits for another one, maybe by others. -/
inductive Before (ops : Array Oper) : Nat → Nat → Prop where
  | one {i j : Nat} {o : Oper} {e : Edge} (h : ops[i]? = some o) (he : e ∈ o.after) (hb : Region.binds .any e = true) (hj : e.on = j) : Before ops i j
  | more {i j : Nat} {o : Oper} {e : Edge} (h : ops[i]? = some o) (he : e ∈ o.after) (hb : Region.binds .any e = true) (hj : Before ops e.on j) : Before ops i j

/-- All that the bits say is so. -/
def MOk (ops : Array Oper) (T : Masks) : Prop := ∀ i m, (i, m) ∈ T → ∀ j, Nat.testBit m j = true → Before ops i j

theorem MOk.at {ops : Array Oper} : ∀ {T : Masks}, MOk ops T → ∀ {i j : Nat}, Nat.testBit (maskAt T i) j = true → Before ops i j
  | [], _, i, j, h => by simp [maskAt] at h
  | (k, m) :: r, hT, i, j, h => by
    unfold maskAt at h
    cases hb : Nat.beq k i with
    | true =>
      rw [hb] at h
      obtain rfl := beq_eq hb
      exact hT k m (by simp) j h
    | false =>
      rw [hb] at h
      exact MOk.at (T := r) (fun a b hm => hT a b (by simp [hm])) h

theorem maskOf_before {ops : Array Oper} {T : Masks} (hT : MOk ops T) {i : Nat} {o : Oper} (h : ops[i]? = some o) : ∀ (l : List Edge), (∀ e ∈ l, e ∈ o.after) → ∀ {j : Nat}, Nat.testBit (maskOf T l) j = true → Before ops i j
  | [], _, j, hj => by simp [maskOf] at hj
  | e :: r, hl, j, hj => by
    unfold maskOf at hj
    cases hb : Region.binds .any e with
    | false =>
      rw [hb] at hj
      exact maskOf_before hT h r (fun e he => hl e (by simp [he])) hj
    | true =>
      rw [hb, cond_true] at hj
      have hj : Nat.testBit ((2 ^ e.on ||| maskAt T e.on) ||| maskOf T r) j = true := hj
      rw [Nat.testBit_or, Nat.testBit_or, Bool.or_eq_true, Bool.or_eq_true] at hj
      rcases hj with (hj | hj) | hj
      · rw [Nat.testBit_two_pow] at hj
        exact .one h (hl e (by simp)) hb (of_decide_eq_true hj)
      · exact .more h (hl e (by simp)) hb (hT.at hj)
      · exact maskOf_before hT h r (fun e he => hl e (by simp [he])) hj

theorem masks_ok {ops : Array Oper} : ∀ (l : List Item) (T : Masks), (∀ x ∈ l, ops[x.1]? = some x.2.1) → MOk ops T → MOk ops (masks l T)
  | [], T, _, hT => hT
  | x :: r, T, hl, hT => by
    unfold masks
    refine masks_ok r _ (fun y hy => hl y (by simp [hy])) fun i m hm j hj => ?_
    rcases List.mem_cons.1 hm with e | hm
    · cases e
      exact maskOf_before hT (hl x (by simp)) _ (fun e he => by simpa using he) hj
    · exact hT i m hm j hj

theorem Before.listed {ops : Array Oper} {listed : Array Bool} (hcl : ∀ (j : Nat) (o : Oper), ops[j]? = some o → listed.getD j false = true → ∀ e ∈ o.after, Region.binds .any e = true → listed.getD e.on false = true) {i j : Nat} (h : Before ops i j) :
    ∀ {o : Oper}, ops[i]? = some o → (∀ e ∈ o.after, Region.binds .any e = true → listed.getD e.on false = true) → listed.getD j false = true := by
  induction h with
  | one h he hb hj =>
    intro o ho ha
    rw [h] at ho
    cases ho
    rw [← hj]; exact ha _ he hb
  | @more i j o' e h he hb hj ih =>
    intro o ho ha
    rw [h] at ho
    cases ho
    have hl := ha _ he hb
    cases hk : ops[e.on]? with
    | none =>
      cases hj with
      | one h2 _ _ _ => rw [hk] at h2; cases h2
      | more h2 _ _ _ => rw [hk] at h2; cases h2
    | some o2 => exact ih hk fun e2 he2 hb2 => hcl _ o2 hk hl e2 he2 hb2

theorem MOk.listed {ops : Array Oper} {T : Masks} {listed : Array Bool} (hT : MOk ops T) (hcl : ∀ (j : Nat) (o : Oper), ops[j]? = some o → listed.getD j false = true → ∀ e ∈ o.after, Region.binds .any e = true → listed.getD e.on false = true) {i j : Nat} {o : Oper} (ho : ops[i]? = some o)
    (ha : ∀ e ∈ o.after, Region.binds .any e = true → listed.getD e.on false = true) (h : Nat.testBit (maskAt T i) j = true) : listed.getD j false = true := (hT.at h).listed hcl ho ha

theorem aRun_any {C : Cfg} (hC : COk C) {ops : Array Oper} {T : Masks} (hT : MOk ops T) {Q : Exit → Act → World → Prop} {K : St → Prop} : ∀ (fuel : Nat) (R : List Item) (listed : Array Bool) {Z : Nat → Prop} {β : Nat → Option (Nat × Nat)} {w : World} {a : Act} {s : St},
    RelM C Z β w a s → aRun C ops R s K → R.Pairwise (fun x y => okPair C ops T x y = true) → (∀ x ∈ R, okItem ops x = true) → (∀ x ∈ R, ops[x.1]? = some x.2.1) →
    (∀ j, listed.getD j true = false ↔ ∃ x ∈ R, x.1 = j) → listed.size = ops.size → (∀ (j : Nat) (o : Oper), ops[j]? = some o → listed.getD j false = true → ∀ e ∈ o.after, Region.binds .any e = true → listed.getD e.on false = true) → R.length ≤ fuel →
    (∀ s', s'.m = s.m → K s' → Goes C s.m Z β s.boxes w s' (Q .normal)) → wpAny C.P .any ops Q fuel listed a w := by
  intro fuel
  have nil : ∀ (R : List Item) (listed : Array Bool), R.Pairwise (fun x y => okPair C ops T x y = true) → (∀ x ∈ R, okItem ops x = true) → (∀ x ∈ R, ops[x.1]? = some x.2.1) → (∀ j, listed.getD j true = false ↔ ∃ x ∈ R, x.1 = j) → listed.size = ops.size → Region.ready .any ops listed = [] → R = [] := by
    intro R listed hp hit ho hl hsz hr
    cases R with
    | nil => rfl
    | cons x R =>
      exfalso
      have hx : x.1 ∈ Region.ready .any ops listed := by
        rw [mem_ready]
        refine ⟨(hl x.1).2 ⟨x, by simp, rfl⟩, x.2.1, ho x (by simp), fun e he hb => ?_⟩
        have hlt : e.on < ops.size := by
          have := hit x (by simp)
          unfold okItem at this
          rw [List.all_eq_true] at this
          have := this e (by simpa using he)
          rw [hb] at this
          simp only [Bool.not_true, Bool.false_or, Bool.and_eq_true] at this
          have := Nat.le_of_ble_eq_true this.1
          rw [Array.length_toList] at this
          exact this
        cases hun : listed.getD e.on true with
        | true =>
          rw [Array.getD_eq_getD_getElem?] at hun ⊢
          rw [Array.getElem?_eq_getElem (by omega)] at hun ⊢
          simpa using hun
        | false =>
          obtain ⟨y, hy, ey⟩ := (hl e.on).1 hun
          rcases List.mem_cons.1 hy with rfl | hy
          · have := hit y (by simp)
            unfold okItem at this
            rw [List.all_eq_true] at this
            have := this e (by simpa using he)
            rw [hb, ey, Nat.beq_refl] at this
            simp at this
          · have := (List.pairwise_cons.1 hp).1 y hy
            unfold okPair at this
            simp only [Bool.and_eq_true, Bool.not_eq_true'] at this
            have h2 := this.2.1
            unfold waitsFor at h2
            rw [List.any_eq_false] at h2
            have := h2 e (by simpa using he)
            simp [hb, ey] at this
      rw [hr] at hx
      cases hx
  induction fuel with
  | zero =>
    intro R listed Z β w a s h hr hp hit ho hl hsz hcl hlen hK
    obtain rfl : R = [] := by
      cases R with
      | nil => rfl
      | cons x R => simp at hlen
    refine ⟨List.eq_nil_iff_forall_not_mem.2 fun j hj => ?_, hK s rfl hr Z β a w h (Ext.refl ..)⟩
    rw [mem_ready] at hj
    obtain ⟨x, hx, _⟩ := (hl j).1 hj.1
    simp at hx
  | succ fuel ih =>
    intro R listed Z β w a s h hr hp hit ho hl hsz hcl hlen hK
    refine ⟨fun hr0 => ?_, fun i hi => ?_⟩
    · obtain rfl := nil R listed hp hit ho hl hsz hr0
      exact hK s rfl hr Z β a w h (Ext.refl ..)
    · obtain ⟨hun, o, hoi, hall⟩ := mem_ready.1 hi
      obtain ⟨x, hx, ex⟩ := (hl i).1 hun
      obtain ⟨R1, R2, rfl⟩ := List.append_of_mem hx
      subst ex
      have hox := ho x hx
      obtain rfl : x.2.1 = o := by rw [hoi] at hox; exact (Option.some.inj hox).symm
      have hpx := hp
      rw [List.pairwise_append] at hpx
      obtain ⟨hp1, hp2, hp3⟩ := hpx
      have hunl : ∀ y ∈ R1, listed.getD y.1 false = true → False := fun y hy e => by
        have h0 := (hl y.1).2 ⟨y, by simp [hy], rfl⟩
        rw [Array.getD_eq_getD_getElem?] at h0 e
        cases hg : listed[y.1]? with
        | none => rw [hg] at e; cases e
        | some b => rw [hg] at h0 e; simp at h0 e; rw [h0] at e; cases e
      have hfr : aRun C ops (x :: (R1 ++ R2)) s K := aRun_front R1 (fun y hy => by
        have hok := hp3 y hy x (by simp)
        unfold okPair at hok
        simp only [Bool.and_eq_true, Bool.or_eq_true] at hok
        rcases hok.2.2 with hw | hw | hw
        · obtain ⟨e, he, hb, ee⟩ := waitsFor_edge hw
          have := hall e he hb
          rw [ee] at this
          exact (hunl y hy this).elim
        · exact hw
        · exact (hunl y hy (hT.listed hcl hoi hall hw)).elim) hr
      simp only [aRun] at hfr
      split at hfr
      · rename_i φ s1 h1
        obtain ⟨hφ, hfr⟩ := hfr
        have hm1 := stepD_m h1
        refine (stepD_wp hC h hoi h1 hφ ?_).2
        intro Z1 β1 a1 w1 hr1 hx1
        have hne : ∀ y ∈ R1 ++ R2, y.1 ≠ x.1 := fun y hy e => by
          rcases List.mem_append.1 hy with hy | hy
          · have hok := hp3 y hy x (by simp)
            unfold okPair at hok
            rw [e, Nat.beq_refl] at hok
            simp at hok
          · have hok := (List.pairwise_cons.1 hp2).1 y hy
            unfold okPair at hok
            rw [e, Nat.beq_refl] at hok
            simp at hok
        have hsub : (R1 ++ R2).Sublist (R1 ++ x :: R2) := List.Sublist.append (List.Sublist.refl _) (List.sublist_cons_self ..)
        refine ih (R1 ++ R2) (listed.setIfInBounds x.1 true) hr1 hfr (hp.sublist hsub) (fun y hy => hit y (hsub.subset hy)) (fun y hy => ho y (hsub.subset hy)) (fun j => ?_) (by simpa using hsz) (fun j oj hoj hlj e he hb => ?_) (by simp at hlen ⊢; omega) (fun s' e hk => ?_)
        · constructor
          · intro hj
            by_cases e : x.1 = j
            · subst e
              rw [Array.getD_eq_getD_getElem?, Array.getElem?_setIfInBounds] at hj
              simp at hj
              split at hj <;> simp at hj
            · rw [getD_set_ne true e] at hj
              obtain ⟨y, hy, ey⟩ := (hl j).1 hj
              refine ⟨y, ?_, ey⟩
              rcases List.mem_append.1 hy with hy | hy
              · exact List.mem_append_left _ hy
              · rcases List.mem_cons.1 hy with rfl | hy
                · exact absurd ey e
                · exact List.mem_append_right _ hy
          · rintro ⟨y, hy, rfl⟩
            rw [getD_set_ne true (fun e => hne y hy e.symm)]
            exact (hl y.1).2 ⟨y, hsub.subset hy, rfl⟩
        · by_cases e1 : x.1 = j
          · subst e1
            rw [hoi] at hoj
            cases hoj
            exact getD_set_true (hall e he hb)
          · rw [getD_set_ne false e1] at hlj
            exact getD_set_true (hcl j oj hoj hlj e he hb)
        · have hx1 : Ext s.m Z β s.boxes w Z1 β1 s1.boxes w1 := hx1
          have hg := (hK s' (e.trans hm1) hk).trans hx1
          rw [hm1]
          exact hg
      · exact hfr.elim


/-! ### Pushes whose order is open: each order is run by itself, and what comes is the same but for the boxes' numbers -/
/-- What is run in every order: what makes a box, and what is marked. -/
def isPush (C : Cfg) (x : Item) : Bool := Nat.beq (clsO C.L x.2.1.op x.2.2.d) 1 || x.2.2.m
def okPairP (C : Cfg) (ops : Array Oper) (T : Masks) (x y : Item) : Bool := !(Nat.beq x.1 y.1) && (!(waitsFor x.2.1 y.1) && (waitsFor y.2.1 x.1 || ((x.2.1.apart ops y.2.1 && swapC C x y) || (Nat.testBit (maskAt T y.1) x.1 || (isPush C x && isPush C y)))))
def pairsP (C : Cfg) (ops : Array Oper) (T : Masks) : List Item → Bool
  | [] => true
  | x :: r => r.all (okPairP C ops T x) && (okItem ops x && pairsP C ops T r)
def pushIds (C : Cfg) (l : List Item) : List Nat := (l.filter (isPush C)).map (·.1)
def insAll (a : Nat) : List Nat → List (List Nat)
  | [] => [[a]]
  | b :: r => (a :: b :: r) :: (insAll a r).map (b :: ·)
def permsL : List Nat → List (List Nat)
  | [] => [[]]
  | a :: r => (permsL r).flatMap (insAll a)
def consB (T : Masks) : List Nat → Bool
  | [] => true
  | a :: r => r.all (fun b => !(Nat.testBit (maskAt T a) b)) && consB T r
def eqL : List Nat → List Nat → Bool
  | [], [] => true
  | a :: r, b :: q => Nat.beq a b && eqL r q
  | _, _ => false
def pickI (l : List Item) (i : Nat) : Option Item := l.find? fun x => Nat.beq x.1 i

theorem eqL_eq : ∀ {a b : List Nat}, eqL a b = true → a = b
  | [], [], _ => rfl
  | a :: r, b :: q, h => by
    simp only [eqL, Bool.and_eq_true] at h
    rw [beq_eq h.1, eqL_eq h.2]
  | [], _ :: _, h => by cases h
  | _ :: _, [], h => by cases h
theorem insAll_mem (a : Nat) : ∀ (x y : List Nat), x ++ a :: y ∈ insAll a (x ++ y)
  | [], [] => by simp [insAll]
  | [], b :: y => by simp [insAll]
  | b :: x, y => by
    simp only [List.cons_append, insAll, List.mem_cons, List.mem_map]
    exact .inr ⟨_, insAll_mem a x y, rfl⟩
theorem permsL_mem : ∀ {ρ τ : List Nat}, τ.Perm ρ → τ ∈ permsL ρ
  | [], τ, h => by rw [h.eq_nil]; simp [permsL]
  | a :: r, τ, h => by
    have ha : a ∈ τ := h.symm.subset (by simp)
    obtain ⟨x, y, rfl⟩ := List.append_of_mem ha
    have h2 : (x ++ y).Perm r := by
      have := (List.perm_middle (a := a) (l₁ := x) (l₂ := y)).symm.trans h
      exact List.Perm.cons_inv this
    simp only [permsL, List.mem_flatMap]
    exact ⟨x ++ y, permsL_mem h2, insAll_mem a x y⟩
theorem consB_spec {T : Masks} : ∀ {τ : List Nat}, consB T τ = true ↔ τ.Pairwise (fun a b => Nat.testBit (maskAt T a) b = false)
  | [] => by simp [consB]
  | a :: r => by
    simp only [consB, Bool.and_eq_true, List.all_eq_true, Bool.not_eq_true', List.pairwise_cons, consB_spec (τ := r)]

theorem perm_of_sub {α : Type _} : ∀ {l' l : List α}, l'.Nodup → (∀ x, x ∈ l' → x ∈ l) → l.length ≤ l'.length → l'.Perm l
  | [], l, _, _, hl => by
    have : l = [] := List.length_eq_zero_iff.1 (by simpa using hl)
    rw [this]
  | a :: r, l, hn, hs, hl => by
    obtain ⟨x, y, rfl⟩ := List.append_of_mem (hs a (by simp))
    rw [List.nodup_cons] at hn
    have : r.Perm (x ++ y) := perm_of_sub hn.2 (fun z hz => by
      have := hs z (by simp [hz])
      rw [List.mem_append, List.mem_cons] at this
      rcases this with h | rfl | h
      · exact List.mem_append_left _ h
      · exact absurd hz hn.1
      · exact List.mem_append_right _ h) (by simp at hl ⊢; omega)
    exact (this.cons a).trans List.perm_middle.symm

theorem pairsP_spec {C : Cfg} {ops : Array Oper} {T : Masks} : ∀ {l : List Item}, pairsP C ops T l = true → l.Pairwise (fun x y => okPairP C ops T x y = true) ∧ ∀ x ∈ l, okItem ops x = true
  | [], _ => ⟨.nil, fun _ h => by simp at h⟩
  | x :: r, h => by
    simp only [pairsP, Bool.and_eq_true, List.all_eq_true] at h
    obtain ⟨h1, h2, h3⟩ := h
    obtain ⟨i1, i2⟩ := pairsP_spec h3
    refine ⟨.cons h1 i1, fun y hy => ?_⟩
    rcases List.mem_cons.1 hy with rfl | hy
    · exact h2
    · exact i2 y hy

theorem okPairP_ne {C : Cfg} {ops : Array Oper} {T : Masks} {x y : Item} (h : okPairP C ops T x y = true) : x.1 ≠ y.1 := fun e => by
  unfold okPairP at h
  rw [e, Nat.beq_refl] at h
  simp at h

theorem aRun_anyP {C : Cfg} (hC : COk C) {ops : Array Oper} {T : Masks} (hT : MOk ops T) {Q : Exit → Act → World → Prop} : ∀ (fuel : Nat) (R : List Item) (ρ : List Nat) (listed : Array Bool) {Z : Nat → Prop} {β : Nat → Option (Nat × Nat)} {w : World} {a : Act} {s : St},
    RelM C Z β w a s →
    (∀ τ : List Nat, τ.Perm ρ → consB T τ = true → ∃ (l : List Item) (K : St → Prop), l.Perm R ∧ pushIds C l = τ ∧ aRun C ops l s K ∧ l.Pairwise (fun x y => okPairP C ops T x y = true) ∧ (∀ s', s'.m = s.m → K s' → Goes C s.m Z β s.boxes w s' (Q .normal))) →
    (∃ τ : List Nat, τ.Perm ρ ∧ consB T τ = true) →
    (∀ x ∈ R, okItem ops x = true) → (∀ x ∈ R, ops[x.1]? = some x.2.1) →
    (∀ j, listed.getD j true = false ↔ ∃ x ∈ R, x.1 = j) → listed.size = ops.size → (∀ (j : Nat) (o : Oper), ops[j]? = some o → listed.getD j false = true → ∀ e ∈ o.after, Region.binds .any e = true → listed.getD e.on false = true) → R.length ≤ fuel →
    wpAny C.P .any ops Q fuel listed a w := by
  intro fuel
  have nil : ∀ (R : List Item) (listed : Array Bool), R.Pairwise (fun x y => okPairP C ops T x y = true) → (∀ x ∈ R, okItem ops x = true) → (∀ x ∈ R, ops[x.1]? = some x.2.1) → (∀ j, listed.getD j true = false ↔ ∃ x ∈ R, x.1 = j) → listed.size = ops.size → Region.ready .any ops listed = [] → R = [] := by
    intro R listed hp hit ho hl hsz hr
    cases R with
    | nil => rfl
    | cons x R =>
      exfalso
      have hx : x.1 ∈ Region.ready .any ops listed := by
        rw [mem_ready]
        refine ⟨(hl x.1).2 ⟨x, by simp, rfl⟩, x.2.1, ho x (by simp), fun e he hb => ?_⟩
        have hlt : e.on < ops.size := by
          have := hit x (by simp)
          unfold okItem at this
          rw [List.all_eq_true] at this
          have := this e (by simpa using he)
          rw [hb] at this
          simp only [Bool.not_true, Bool.false_or, Bool.and_eq_true] at this
          have := Nat.le_of_ble_eq_true this.1
          rw [Array.length_toList] at this
          exact this
        cases hun : listed.getD e.on true with
        | true =>
          rw [Array.getD_eq_getD_getElem?] at hun ⊢
          rw [Array.getElem?_eq_getElem (by omega)] at hun ⊢
          simpa using hun
        | false =>
          obtain ⟨y, hy, ey⟩ := (hl e.on).1 hun
          rcases List.mem_cons.1 hy with rfl | hy
          · have := hit y (by simp)
            unfold okItem at this
            rw [List.all_eq_true] at this
            have := this e (by simpa using he)
            rw [hb, ey, Nat.beq_refl] at this
            simp at this
          · have := (List.pairwise_cons.1 hp).1 y hy
            unfold okPairP at this
            simp only [Bool.and_eq_true, Bool.not_eq_true'] at this
            have h2 := this.2.1
            unfold waitsFor at h2
            rw [List.any_eq_false] at h2
            have := h2 e (by simpa using he)
            simp [hb, ey] at this
      rw [hr] at hx
      cases hx
  have memP : ∀ {l R : List Item} {listed : Array Bool}, l.Perm R → (∀ j, listed.getD j true = false ↔ ∃ x ∈ R, x.1 = j) → ∀ j, listed.getD j true = false ↔ ∃ x ∈ l, x.1 = j := fun {l R listed} hp h j => by
    rw [h j]
    exact ⟨fun ⟨x, hx, e⟩ => ⟨x, hp.symm.subset hx, e⟩, fun ⟨x, hx, e⟩ => ⟨x, hp.subset hx, e⟩⟩
  induction fuel with
  | zero =>
    intro R ρ listed Z β w a s h hfam ⟨τ, hτ, hcτ⟩ hit ho hl hsz hcl hlen
    obtain rfl : R = [] := by
      cases R with
      | nil => rfl
      | cons x R => simp at hlen
    obtain ⟨l, K, hlp, _, hr, _, hK⟩ := hfam τ hτ hcτ
    obtain rfl := hlp.eq_nil
    refine ⟨List.eq_nil_iff_forall_not_mem.2 fun j hj => ?_, hK s rfl hr Z β a w h (Ext.refl ..)⟩
    rw [mem_ready] at hj
    obtain ⟨x, hx, _⟩ := (hl j).1 hj.1
    simp at hx
  | succ fuel ih =>
    intro R ρ listed Z β w a s h hfam hne hit ho hl hsz hcl hlen
    obtain ⟨τ0, hτ0, hc0⟩ := hne
    refine ⟨fun hr0 => ?_, fun i hi => ?_⟩
    · obtain ⟨l, K, hlp, _, hr, hpw, hK⟩ := hfam τ0 hτ0 hc0
      obtain rfl := nil l listed hpw (fun x hx => hit x (hlp.subset hx)) (fun x hx => ho x (hlp.subset hx)) (memP hlp hl) hsz hr0
      exact hK s rfl hr Z β a w h (Ext.refl ..)
    · obtain ⟨hun, o, hoi, hall⟩ := mem_ready.1 hi
      -- whichever candidate: the operation moved ahead
      have move : ∀ (l : List Item) (K : St → Prop), l.Perm R → aRun C ops l s K → l.Pairwise (fun x y => okPairP C ops T x y = true) →
          (∀ R1 R2 (x : Item), l = R1 ++ x :: R2 → x.1 = i → isPush C x = true → ∀ y ∈ R1, isPush C y = false) →
          ∃ (R1 R2 : List Item) (x : Item), l = R1 ++ x :: R2 ∧ x.1 = i ∧ x.2.1 = o ∧ aRun C ops (x :: (R1 ++ R2)) s K := by
        intro l K hlp hr hp hpush
        obtain ⟨x, hx, ex⟩ := (memP hlp hl i).1 hun
        obtain ⟨R1, R2, rfl⟩ := List.append_of_mem hx
        subst ex
        have hox := ho x (hlp.subset hx)
        obtain rfl : x.2.1 = o := by rw [hoi] at hox; exact (Option.some.inj hox).symm
        have hpx := hp
        rw [List.pairwise_append] at hpx
        obtain ⟨hp1, hp2, hp3⟩ := hpx
        have hunl : ∀ y ∈ R1, listed.getD y.1 false = true → False := fun y hy e => by
          have h0 := (memP hlp hl y.1).2 ⟨y, by simp [hy], rfl⟩
          rw [Array.getD_eq_getD_getElem?] at h0 e
          cases hg : listed[y.1]? with
          | none => rw [hg] at e; cases e
          | some b => rw [hg] at h0 e; simp at h0 e; rw [h0] at e; cases e
        refine ⟨R1, R2, x, rfl, rfl, rfl, aRun_front R1 (fun y hy => ?_) hr⟩
        have hok := hp3 y hy x (by simp)
        unfold okPairP at hok
        simp only [Bool.and_eq_true, Bool.or_eq_true] at hok
        rcases hok.2.2 with hw | hw | hw | hw
        · obtain ⟨e, he, hb, ee⟩ := waitsFor_edge hw
          have := hall e he hb
          rw [ee] at this
          exact (hunl y hy this).elim
        · exact hw
        · exact (hunl y hy (hT.listed hcl hoi hall hw)).elim
        · have := hpush R1 R2 x rfl rfl hw.2 y hy
          rw [hw.1] at this
          cases this
      have nodupOf : ∀ {l : List Item}, l.Pairwise (fun x y => okPairP C ops T x y = true) → ∀ {R1 R2 : List Item} {x : Item}, l = R1 ++ x :: R2 → ∀ y ∈ R1 ++ R2, y.1 ≠ x.1 := fun {l} hp {R1 R2 x} e y hy e2 => by
        subst e
        rw [List.pairwise_append] at hp
        rcases List.mem_append.1 hy with hy | hy
        · exact okPairP_ne (hp.2.2 y hy x (by simp)) e2
        · exact okPairP_ne ((List.pairwise_cons.1 hp.2.1).1 y hy) e2.symm
      -- how it goes on, once the operation's answer is known
      have goOn : ∀ (x : Item) (R' : List Item) (ρ' : List Nat) (φ : Prop) (s1 : St), x.1 = i → x.2.1 = o → stepD C ops x.2.1 x.2.2 s = some (φ, s1) → φ → R.Perm (x :: R') → (∀ y ∈ R', y.1 ≠ x.1) →
          (∀ {Z1 : Nat → Prop} {β1 : Nat → Option (Nat × Nat)} {w1 : World}, Ext s.m Z β s.boxes w Z1 β1 s1.boxes w1 → ∀ τ : List Nat, τ.Perm ρ' → consB T τ = true → ∃ (l : List Item) (K : St → Prop), l.Perm R' ∧ pushIds C l = τ ∧ aRun C ops l s1 K ∧ l.Pairwise (fun x y => okPairP C ops T x y = true) ∧ (∀ s', s'.m = s1.m → K s' → Goes C s1.m Z1 β1 s1.boxes w1 s' (Q .normal))) →
          (∃ τ : List Nat, τ.Perm ρ' ∧ consB T τ = true) → wpOp C.P ops Q i (fun a' w' => wpAny C.P .any ops Q fuel (listed.setIfInBounds i true) a' w') a w := by
        intro x R' ρ' φ s1 ei eo h1 hφ hperm hne2 hfam2 hex2
        subst ei
        subst eo
        refine (stepD_wp hC h hoi h1 hφ ?_).2
        intro Z1 β1 a1 w1 hr1 hx1
        have hm1 := stepD_m h1
        have hsub : ∀ y, y ∈ R' → y ∈ R := fun y hy => hperm.symm.subset (List.mem_cons_of_mem _ hy)
        refine ih R' ρ' (listed.setIfInBounds x.1 true) hr1 (hfam2 hx1) hex2 (fun y hy => hit y (hsub y hy)) (fun y hy => ho y (hsub y hy)) (fun j => ?_) (by simpa using hsz) (fun j oj hoj hlj e he hb => ?_) (by have := hperm.length_eq; simp at this; omega)
        · constructor
          · intro hj
            by_cases e : x.1 = j
            · subst e
              rw [Array.getD_eq_getD_getElem?, Array.getElem?_setIfInBounds] at hj
              simp at hj
              split at hj <;> simp at hj
            · rw [getD_set_ne true e] at hj
              obtain ⟨y, hy, ey⟩ := (hl j).1 hj
              refine ⟨y, ?_, ey⟩
              rcases List.mem_cons.1 (hperm.subset hy) with rfl | hy
              · exact absurd ey e
              · exact hy
          · rintro ⟨y, hy, rfl⟩
            rw [getD_set_ne true (fun e => hne2 y hy e.symm)]
            exact (hl y.1).2 ⟨y, hsub y hy, rfl⟩
        · by_cases e1 : x.1 = j
          · subst e1
            rw [hoi] at hoj
            cases hoj
            exact getD_set_true (hall e he hb)
          · rw [getD_set_ne false e1] at hlj
            exact getD_set_true (hcl j oj hoj hlj e he hb)
      have later : ∀ {l : List Item} {K : St → Prop} {x : Item} {R1 R2 : List Item} {φ : Prop} {s1 : St}, stepD C ops x.2.1 x.2.2 s = some (φ, s1) → (∀ s', s'.m = s.m → K s' → Goes C s.m Z β s.boxes w s' (Q .normal)) →
          ∀ {Z1 : Nat → Prop} {β1 : Nat → Option (Nat × Nat)} {w1 : World}, Ext s.m Z β s.boxes w Z1 β1 s1.boxes w1 → ∀ s', s'.m = s1.m → K s' → Goes C s1.m Z1 β1 s1.boxes w1 s' (Q .normal) := fun {l K x R1 R2 φ s1} h1 hK {Z1 β1 w1} hx1 s' e hk => by
        have hm1 := stepD_m h1
        have hg := (hK s' (e.trans hm1) hk).trans hx1
        rw [hm1]
        exact hg
      obtain ⟨l0, K0, hlp0, hpi0, hr0, hpw0, hK0⟩ := hfam τ0 hτ0 hc0
      obtain ⟨xi, hxi, exi⟩ := (memP hlp0 hl i).1 hun
      cases hpsh : isPush C xi with
      | false =>
        have same : ∀ {l : List Item}, l.Perm R → l.Pairwise (fun x y => okPairP C ops T x y = true) → ∀ (R1 R2 : List Item) (x : Item), l = R1 ++ x :: R2 → x.1 = i → x = xi := fun {l} hlp hpw R1 R2 x e ex => by
          have hx : x ∈ l0 := hlp0.symm.subset (hlp.subset (by rw [e]; simp))
          obtain ⟨A, B, eAB⟩ := List.append_of_mem hxi
          rw [eAB] at hx
          rcases List.mem_append.1 hx with h1 | h1
          · exact absurd (ex.trans exi.symm) (nodupOf hpw0 eAB x (List.mem_append_left _ h1))
          · rcases List.mem_cons.1 h1 with h2 | h2
            · exact h2
            · exact absurd (ex.trans exi.symm) (nodupOf hpw0 eAB x (List.mem_append_right _ h2))
        have np : ∀ {l : List Item}, l.Perm R → l.Pairwise (fun x y => okPairP C ops T x y = true) → ∀ (R1 R2 : List Item) (x : Item), l = R1 ++ x :: R2 → x.1 = i → isPush C x = true → ∀ y ∈ R1, isPush C y = false := fun {l} hlp hpw R1 R2 x e ex hp => by
          rw [same hlp hpw R1 R2 x e ex, hpsh] at hp
          cases hp
        obtain ⟨R1, R2, x, e0, ex, eo, hfr⟩ := move l0 K0 hlp0 hr0 hpw0 (np hlp0 hpw0)
        obtain rfl := same hlp0 hpw0 R1 R2 x e0 ex
        simp only [aRun] at hfr
        split at hfr
        · rename_i φ s1 h1
          obtain ⟨hφ, hfr⟩ := hfr
          refine goOn x (R1 ++ R2) ρ φ s1 ex eo h1 hφ (hlp0.symm.trans (by rw [e0]; exact List.perm_middle)) (nodupOf hpw0 e0) (fun hx1 τ hτ hcτ => ?_) ⟨τ0, hτ0, hc0⟩
          obtain ⟨l, K, hlp, hpi, hr, hpw, hK⟩ := hfam τ hτ hcτ
          obtain ⟨S1, S2, y, e1, ey, eo1, hfr1⟩ := move l K hlp hr hpw (np hlp hpw)
          obtain rfl := same hlp hpw S1 S2 y e1 ey
          simp only [aRun, h1] at hfr1
          refine ⟨S1 ++ S2, K, ?_, ?_, hfr1.2, hpw.sublist (by rw [e1]; exact List.Sublist.append (List.Sublist.refl _) (List.sublist_cons_self ..)), later (l := l) (x := y) (R1 := S1) (R2 := S2) h1 hK hx1⟩
          · have a1 : (y :: (S1 ++ S2)).Perm (y :: (R1 ++ R2)) := by
              refine (List.perm_middle.symm.trans ?_).trans List.perm_middle
              rw [← e1, ← e0]
              exact hlp.trans hlp0.symm
            exact a1.cons_inv
          · rw [← hpi, e1]
            unfold pushIds
            simp [List.filter_append, List.filter_cons, hpsh]
        · exact hfr.elim
      | true =>
        have hin : i ∈ ρ := by
          refine hτ0.subset ?_
          rw [← hpi0]
          exact List.mem_map.2 ⟨xi, List.mem_filter.2 ⟨hxi, hpsh⟩, exi⟩
        -- those orders in which it is the first one
        have hfirst : ∀ τ' : List Nat, τ'.Perm (ρ.erase i) → consB T τ' = true → (i :: τ').Perm ρ ∧ consB T (i :: τ') = true := fun τ' h1 h2 => by
          have hp : (i :: τ').Perm ρ := (h1.cons i).trans (List.perm_cons_erase hin).symm
          refine ⟨hp, ?_⟩
          rw [consB_spec, List.pairwise_cons]
          refine ⟨fun b hb => ?_, consB_spec.1 h2⟩
          cases ht : Nat.testBit (maskAt T i) b with
          | false => rfl
          | true =>
            exfalso
            have hlb := hT.listed hcl hoi hall ht
            have hbρ : b ∈ τ0 := hτ0.symm.subset (hp.subset (List.mem_cons_of_mem _ hb))
            rw [← hpi0] at hbρ
            obtain ⟨y, hy, ey⟩ := List.mem_map.1 hbρ
            have h0 := (memP hlp0 hl b).2 ⟨y, (List.mem_filter.1 hy).1, ey⟩
            rw [Array.getD_eq_getD_getElem?] at h0 hlb
            cases hg : listed[b]? with
            | none => rw [hg] at hlb; cases hlb
            | some c => rw [hg] at h0 hlb; simp at h0 hlb; rw [h0] at hlb; cases hlb
        have headP : ∀ {l : List Item} {τ' : List Nat}, pushIds C l = i :: τ' → l.Pairwise (fun x y => okPairP C ops T x y = true) → ∀ (R1 R2 : List Item) (x : Item), l = R1 ++ x :: R2 → x.1 = i → isPush C x = true → ∀ y ∈ R1, isPush C y = false := fun {l τ'} hpi hpw R1 R2 x e ex hp y hy => by
          cases hyp : isPush C y with
          | false => rfl
          | true =>
            exfalso
            have hne := nodupOf hpw e y (List.mem_append_left _ hy)
            rw [e] at hpi
            unfold pushIds at hpi
            rw [List.filter_append, List.map_append] at hpi
            have hm : y ∈ R1.filter (isPush C) := List.mem_filter.2 ⟨hy, hyp⟩
            cases hf : R1.filter (isPush C) with
            | nil => rw [hf] at hm; cases hm
            | cons z zs =>
              rw [hf] at hpi
              simp only [List.map_cons, List.cons_append, List.cons.injEq] at hpi
              have hz : z ∈ R1 := (List.mem_filter.1 (by rw [hf]; simp : z ∈ R1.filter (isPush C))).1
              exact nodupOf hpw e z (List.mem_append_left _ hz) (hpi.1.trans ex.symm)
        have hcE : consB T (τ0.erase i) = true := consB_spec.2 ((consB_spec.1 hc0).sublist List.erase_sublist)
        have hpE : (τ0.erase i).Perm (ρ.erase i) := hτ0.erase i
        obtain ⟨g1, g2⟩ := hfirst _ hpE hcE
        obtain ⟨l1, K1, hlp1, hpi1, hr1, hpw1, hK1⟩ := hfam _ g1 g2
        obtain ⟨R1, R2, x, e0, ex, eo, hfr⟩ := move l1 K1 hlp1 hr1 hpw1 (headP hpi1 hpw1)
        have same : ∀ {l : List Item}, l.Perm R → ∀ (S1 S2 : List Item) (y : Item), l = S1 ++ y :: S2 → y.1 = i → y = x := fun {l} hlp S1 S2 y e ey => by
          have hy : y ∈ l1 := hlp1.symm.subset (hlp.subset (by rw [e]; simp))
          rw [e0] at hy
          rcases List.mem_append.1 hy with h1 | h1
          · exact absurd (ey.trans ex.symm) (nodupOf hpw1 e0 y (List.mem_append_left _ h1))
          · rcases List.mem_cons.1 h1 with h2 | h2
            · exact h2
            · exact absurd (ey.trans ex.symm) (nodupOf hpw1 e0 y (List.mem_append_right _ h2))
        have hxp : isPush C x = true := by
          obtain ⟨A, B, eAB⟩ := List.append_of_mem hxi
          rw [← same hlp0 A B xi eAB exi]
          exact hpsh
        simp only [aRun] at hfr
        split at hfr
        · rename_i φ s1 h1
          obtain ⟨hφ, hfr⟩ := hfr
          refine goOn x (R1 ++ R2) (ρ.erase i) φ s1 ex eo h1 hφ (hlp1.symm.trans (by rw [e0]; exact List.perm_middle)) (nodupOf hpw1 e0) (fun hx1 τ hτ hcτ => ?_) ⟨_, hpE, hcE⟩
          obtain ⟨f1, f2⟩ := hfirst τ hτ hcτ
          obtain ⟨l, K, hlp, hpi, hr, hpw, hK⟩ := hfam _ f1 f2
          obtain ⟨S1, S2, y, e1, ey, eo1, hfr1⟩ := move l K hlp hr hpw (headP hpi hpw)
          obtain rfl := same hlp S1 S2 y e1 ey
          simp only [aRun, h1] at hfr1
          refine ⟨S1 ++ S2, K, ?_, ?_, hfr1.2, hpw.sublist (by rw [e1]; exact List.Sublist.append (List.Sublist.refl _) (List.sublist_cons_self ..)), later (l := l) (x := y) (R1 := S1) (R2 := S2) h1 hK hx1⟩
          · have a1 : (y :: (S1 ++ S2)).Perm (y :: (R1 ++ R2)) := by
              refine (List.perm_middle.symm.trans ?_).trans List.perm_middle
              rw [← e1, ← e0]
              exact hlp.trans hlp1.symm
            exact a1.cons_inv
          · have hno : S1.filter (isPush C) = [] := List.filter_eq_nil_iff.2 fun z hz => by
              rw [headP hpi hpw S1 S2 y e1 ey hxp z hz]; simp
            rw [e1] at hpi
            unfold pushIds at hpi ⊢
            rw [List.filter_append, List.filter_cons, hno, hxp] at hpi
            rw [List.filter_append, hno]
            simpa [ey] using hpi
        · exact hfr.elim

theorem itemsOf_spec {ops : List Oper} : ∀ {ps : List (Nat × PD)} {l : List Item}, itemsOf ops ps = some l → l.length = ps.length ∧ ∀ x ∈ l, ops[x.1]? = some x.2.1
  | [], l, h => by cases h; exact ⟨rfl, fun x hx => by simp at hx⟩
  | (i, p) :: r, l, h => by
    simp only [itemsOf] at h
    split at h
    · rename_i o l1 h1 h2
      cases h
      obtain ⟨i1, i2⟩ := itemsOf_spec h2
      refine ⟨by simp [i1], fun x hx => ?_⟩
      rcases List.mem_cons.1 hx with rfl | hx
      · exact h1
      · exact i2 x hx
    · cases h

/-- So many numbers below n, all different: all of them. -/
theorem all_below : ∀ (n : Nat) (l : List Nat), l.Pairwise (· ≠ ·) → (∀ x ∈ l, x < n) → n ≤ l.length → ∀ j, j < n → j ∈ l
  | 0, _, _, _, _, j, hj => by omega
  | n + 1, l, hp, hb, hlen, j, hj => by
    have hne : ∀ m : Nat, (l.filter (fun x => !(x == m))).length + 1 ≥ l.length := by
      intro m
      clear hb hlen hj
      induction l with
      | nil => simp
      | cons y l ih =>
        have hp' := List.pairwise_cons.1 hp
        by_cases e : y = m
        · subst e
          have : l.filter (fun x => !(x == y)) = l := List.filter_eq_self.2 fun z hz => by
            have := hp'.1 z hz
            simpa using fun e => this e.symm
          simp [this]
        · have := ih hp'.2
          simp [e]; omega
    by_cases hn : n ∈ l
    · by_cases e : j = n
      · rw [e]; exact hn
      · have := all_below n (l.filter (fun x => !(x == n))) (hp.sublist List.filter_sublist) (fun x hx => by
          rw [List.mem_filter] at hx
          have := hb x hx.1
          have : ¬ x = n := by simpa using hx.2
          omega) (by have := hne n; omega) j (by omega)
        exact (List.mem_filter.1 this).1
    · exfalso
      have hb' : ∀ x ∈ l, x < n := fun x hx => by
        have := hb x hx
        have : x ≠ n := fun e => hn (e ▸ hx)
        omega
      have : ∀ (n : Nat) (l : List Nat), l.Pairwise (· ≠ ·) → (∀ x ∈ l, x < n) → l.length ≤ n := by
        intro n
        induction n with
        | zero =>
          intro l _ h
          cases l with
          | nil => simp
          | cons y l => exact absurd (h y (by simp)) (by omega)
        | succ n ih =>
          intro l hp hb
          have h1 := ih (l.filter (fun x => !(x == n))) (hp.sublist List.filter_sublist) (fun x hx => by
            rw [List.mem_filter] at hx
            have := hb x hx.1
            have : ¬ x = n := by simpa using hx.2
            omega)
          have h2 : (l.filter (fun x => !(x == n))).length + 1 ≥ l.length := by
            clear hb h1 ih
            induction l with
            | nil => simp
            | cons y l ih =>
              have hp' := List.pairwise_cons.1 hp
              by_cases e : y = n
              · subst e
                have : l.filter (fun x => !(x == y)) = l := List.filter_eq_self.2 fun z hz => by
                  have := hp'.1 z hz
                  simpa using fun e => this e.symm
                simp [this]
              · have := ih hp'.2
                simp [e]; omega
          omega
      have := this n l hp hb'
      omega

theorem Trip.drawn {C : Cfg} (hC : COk C) {id : Nat} {ops : Array Oper} {ps : List (Nat × PD)} {s : St} {K : St → Prop} (h : drawE C ops ps s K) {Q : Exit → St → Prop} (hK : ∀ s', K s' → Q .normal s') : Trip C (.region id ops true) s Q := fun Z β w a hr => by
  unfold drawE at h
  split at h
  · rename_i l hl
    cases hb : pairsOK C ops (masks l []) l && Nat.beq ps.length ops.toList.length with
    | false => rw [hb] at h; exact h.elim
    | true =>
      rw [hb] at h
      simp only [cond_true] at h
      rw [Bool.and_eq_true] at hb
      obtain ⟨hb1, hb2⟩ := hb
      have hlen := beq_eq hb2
      obtain ⟨p1, p2⟩ := pairsOK_spec hb1
      obtain ⟨i1, i2⟩ := itemsOf_spec hl
      have i2 : ∀ x ∈ l, ops[x.1]? = some x.2.1 := fun x hx => by simpa using i2 x hx
      have hq := hr.1.bx.quiet (w' := { w with drawn := w.drawn + 1 }) (Nat.le_refl _) (fun _ _ => rfl)
      have hr1 : RelM C Z β { w with drawn := w.drawn + 1 } a s := ⟨⟨hr.1.defers, hr.1.env.step hq.2 fun _ _ _ _ hj => ⟨hj, fun ha => ⟨ha, rfl⟩⟩, hq.1⟩, hr.2⟩
      have hx1 : Ext s.m Z β s.boxes w Z β s.boxes { w with drawn := w.drawn + 1 } := Ext.quiet rfl rfl rfl (Nat.le_refl _) (fun _ _ => rfl)
      refine wp_region_any hC.mixed (aRun_any hC (masks_ok l [] (fun x hx => i2 x hx) (fun i m h => by simp at h)) ops.size l _ hr1 (aRunT_run l h) p1 p2 i2 (fun j => ?_) (by simp) (fun j o hj hlj => ?_) (by rw [i1, hlen, Array.length_toList]; exact Nat.le_refl _) (fun s' e hk Z' β' a' w' h1 h2 => ⟨Z', β', s', hK s' hk, e, h1, hx1.trans h2⟩))
      · have hget : (Array.replicate ops.size false).getD j true = false ↔ j < ops.size := by
          rw [Array.getD_eq_getD_getElem?, Array.getElem?_replicate]
          by_cases e : j < ops.size <;> simp [e]
        rw [hget]
        constructor
        · intro hj
          have hm := all_below ops.size (l.map (·.1)) (by
            rw [List.pairwise_map]
            exact p1.imp fun {x y} hxy e => by
              unfold okPair at hxy
              rw [e, Nat.beq_refl] at hxy
              simp at hxy) (fun x hx => by
            obtain ⟨y, hy, rfl⟩ := List.mem_map.1 hx
            exact (Array.getElem?_eq_some_iff.1 (i2 y hy)).1) (by rw [List.length_map, i1, hlen, Array.length_toList]; exact Nat.le_refl _) j hj
          obtain ⟨y, hy, e⟩ := List.mem_map.1 hm
          exact ⟨y, hy, e⟩
        · rintro ⟨y, hy, rfl⟩
          exact (Array.getElem?_eq_some_iff.1 (i2 y hy)).1
      · exfalso
        rw [Array.getD_eq_getD_getElem?, Array.getElem?_replicate] at hlj
        split at hlj <;> simp at hlj
  · exact h.elim
/-! The region with its pushes in each order. -/
def candsE (C : Cfg) (ops : Array Oper) (T : Masks) (l : List Item) (s1 s : St) : List (List Nat × List Nat) → Prop
  | [] => True
  | c :: r => bif pairsP C ops T (c.1.filterMap (pickI l)) && Nat.beq (c.1.filterMap (pickI l)).length l.length then
      aRunT C ops (c.1.filterMap (pickI l)) s (fun s' => match adj1 s' (.sel c.2) with | some (φ, s'') => φ ∧ s'' = s1 | none => False) ∧ candsE C ops T l s1 s r else False
def covers (C : Cfg) (T : Masks) (l : List Item) (cs : List (List Nat × List Nat)) : Bool :=
  (permsL (pushIds C l)).all fun τ => !(consB T τ) || (eqL τ (pushIds C l) || cs.any (fun c => eqL τ (pushIds C (c.1.filterMap (pickI l)))))
def drawP (C : Cfg) (ops : Array Oper) (ps : List (Nat × PD)) (cs : List (List Nat × List Nat)) (s1 s : St) (K : St → Prop) : Prop := match itemsOf ops.toList ps with
  | some l => bif pairsP C ops (masks l []) l && (Nat.beq ps.length ops.toList.length && (consB (masks l []) (pushIds C l) && covers C (masks l []) l cs)) then
      aRunT C ops l s (fun s' => s' = s1) ∧ (candsE C ops (masks l []) l s1 s cs ∧ K s1) else False
  | none => False

theorem pickI_mem {l : List Item} {i : Nat} {x : Item} (h : pickI l i = some x) : x ∈ l := List.mem_of_find?_eq_some h
theorem candsE_spec {C : Cfg} {ops : Array Oper} {T : Masks} {l : List Item} {s1 s : St} : ∀ {cs : List (List Nat × List Nat)}, candsE C ops T l s1 s cs → ∀ c ∈ cs, pairsP C ops T (c.1.filterMap (pickI l)) = true ∧ (c.1.filterMap (pickI l)).length = l.length ∧
    aRun C ops (c.1.filterMap (pickI l)) s (fun s' => match adj1 s' (.sel c.2) with | some (φ, s'') => φ ∧ s'' = s1 | none => False)
  | [], _, _, hc => by simp at hc
  | c0 :: r, h, c, hc => by
    unfold candsE at h
    cases hb : pairsP C ops T (c0.1.filterMap (pickI l)) && Nat.beq (c0.1.filterMap (pickI l)).length l.length with
    | false => rw [hb] at h; exact h.elim
    | true =>
      rw [hb] at h
      rw [Bool.and_eq_true] at hb
      rcases List.mem_cons.1 hc with rfl | hc
      · exact ⟨hb.1, beq_eq hb.2, aRunT_run _ h.1⟩
      · exact candsE_spec h.2 c hc

theorem Trip.drawnP {C : Cfg} (hC : COk C) {id : Nat} {ops : Array Oper} {ps : List (Nat × PD)} {cs : List (List Nat × List Nat)} {s s1 : St} {K : St → Prop} (h : drawP C ops ps cs s1 s K) {Q : Exit → St → Prop} (hK : ∀ s', K s' → Q .normal s') : Trip C (.region id ops true) s Q := fun Z β w a hr => by
  unfold drawP at h
  split at h
  · rename_i l hl
    cases hb : pairsP C ops (masks l []) l && (Nat.beq ps.length ops.toList.length && (consB (masks l []) (pushIds C l) && covers C (masks l []) l cs)) with
    | false => rw [hb] at h; exact h.elim
    | true =>
      rw [hb] at h
      simp only [cond_true] at h
      obtain ⟨hrun, hcs, hk1⟩ := h
      simp only [Bool.and_eq_true] at hb
      obtain ⟨hb1, hb2, hb3, hb4⟩ := hb
      have hlen := beq_eq hb2
      obtain ⟨p1, p2⟩ := pairsP_spec hb1
      obtain ⟨i1, i2⟩ := itemsOf_spec hl
      have i2 : ∀ x ∈ l, ops[x.1]? = some x.2.1 := fun x hx => by simpa using i2 x hx
      have hq := hr.1.bx.quiet (w' := { w with drawn := w.drawn + 1 }) (Nat.le_refl _) (fun _ _ => rfl)
      have hr1 : RelM C Z β { w with drawn := w.drawn + 1 } a s := ⟨⟨hr.1.defers, hr.1.env.step hq.2 fun _ _ _ _ hj => ⟨hj, fun ha => ⟨ha, rfl⟩⟩, hq.1⟩, hr.2⟩
      have hx1 : Ext s.m Z β s.boxes w Z β s.boxes { w with drawn := w.drawn + 1 } := Ext.quiet rfl rfl rfl (Nat.le_refl _) (fun _ _ => rfl)
      have fam : ∀ τ : List Nat, τ.Perm (pushIds C l) → consB (masks l []) τ = true → ∃ (l' : List Item) (K' : St → Prop), l'.Perm l ∧ pushIds C l' = τ ∧ aRun C ops l' s K' ∧ l'.Pairwise (fun x y => okPairP C ops (masks l []) x y = true) ∧
          (∀ s', s'.m = s.m → K' s' → Goes C s.m Z β s.boxes { w with drawn := w.drawn + 1 } s' ((fun e a' w' => ∃ Z' β' s', Q e s' ∧ s'.m = s.m ∧ RelM C Z' β' w' a' s' ∧ Ext s.m Z β s.boxes w Z' β' s'.boxes w') .normal)) := by
        intro τ hτ hcτ
        have hcov := hb4
        unfold covers at hcov
        rw [List.all_eq_true] at hcov
        have := hcov τ (permsL_mem hτ)
        simp only [hcτ, Bool.not_true, Bool.false_or, Bool.or_eq_true] at this
        rcases this with h1 | h1
        · refine ⟨l, fun s' => s' = s1, .refl _, (eqL_eq h1).symm, aRunT_run l hrun, p1, ?_⟩
          rintro s' e rfl Z' β' a' w' h2 h3
          exact ⟨Z', β', s', hK s' hk1, e, h2, hx1.trans h3⟩
        · rw [List.any_eq_true] at h1
          obtain ⟨c, hc, h1⟩ := h1
          obtain ⟨g1, g2, g3⟩ := candsE_spec hcs c hc
          obtain ⟨q1, q2⟩ := pairsP_spec g1
          refine ⟨_, _, perm_of_sub ?_ (fun x hx => ?_) (by rw [g2]; exact Nat.le_refl _), (eqL_eq h1).symm, g3, q1, fun s' e hk Z' β' a' w' h2 h3 => ?_⟩
          · exact q1.imp fun {x y} hxy (e : x = y) => okPairP_ne hxy (congrArg (·.1) e)
          · obtain ⟨i, _, hi⟩ := List.mem_filterMap.1 hx
            exact pickI_mem hi
          · split at hk
            · rename_i φ s'' hs
              obtain ⟨hφ, rfl⟩ := hk
              obtain ⟨em, hless⟩ := adj1_less (C := C) hs hφ
              obtain ⟨Z2, β2, r2, x2⟩ := hless Z' β' w' a' h2
              rw [e] at x2
              exact ⟨Z2, β2, _, hK _ hk1, em.trans e, r2, (hx1.trans h3).trans x2⟩
            · exact hk.elim
      refine wp_region_any hC.mixed (aRun_anyP hC (masks_ok l [] (fun x hx => i2 x hx) (fun i m h => by simp at h)) ops.size l (pushIds C l) _ hr1 fam ⟨_, .refl _, hb3⟩ p2 i2 (fun j => ?_) (by simp) (fun j o hj hlj => ?_) (by rw [i1, hlen, Array.length_toList]; exact Nat.le_refl _))
      · have hget : (Array.replicate ops.size false).getD j true = false ↔ j < ops.size := by
          rw [Array.getD_eq_getD_getElem?, Array.getElem?_replicate]
          by_cases e : j < ops.size <;> simp [e]
        rw [hget]
        constructor
        · intro hj
          have hm := all_below ops.size (l.map (·.1)) (by
            rw [List.pairwise_map]
            exact p1.imp fun {x y} hxy => okPairP_ne hxy) (fun x hx => by
            obtain ⟨y, hy, rfl⟩ := List.mem_map.1 hx
            exact (Array.getElem?_eq_some_iff.1 (i2 y hy)).1) (by rw [List.length_map, i1, hlen, Array.length_toList]; exact Nat.le_refl _) j hj
          obtain ⟨y, hy, e⟩ := List.mem_map.1 hm
          exact ⟨y, hy, e⟩
        · rintro ⟨y, hy, rfl⟩
          exact (Array.getElem?_eq_some_iff.1 (i2 y hy)).1
      · exfalso
        rw [Array.getD_eq_getD_getElem?, Array.getElem?_replicate] at hlj
        split at hlj <;> simp at hlj
  · exact h.elim

end Go.Proofs.YtllannmegnklmaaE
