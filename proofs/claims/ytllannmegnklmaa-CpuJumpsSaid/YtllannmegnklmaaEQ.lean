/- Structs and arrays, held against each other. -/
import Derived.Test.YtllannmegnklmaaE10
import Derived.Laws.StructEq
import Derived.ChangeKeysEq
set_option linter.unusedVariables false
set_option linter.unusedSimpArgs false
set_option linter.unnecessarySimpa false
namespace Go.Proofs.YtllannmegnklmaaE
open Go

def partA (ps : List Piece) (off : Nat) (fi : TI) : Option AV := match splitP ps off with
  | some (_, q) => (match splitP q fi.cells with
    | some (r, _) => asAV fi.agg r
    | none => none)
  | none => none

def eqFs (F : TypeId → AV → AV → Option Bool) (L : List (Nat × TI)) (ps qs : List Piece) : List (Nat × TypeId) → Option Bool
  | [] => some true
  | (off, ft) :: r => match look L ft with
    | some fi => (match partA ps off fi, partA qs off fi with
      | some x, some y => (match F ft x y, eqFs F L ps qs r with
        | some a, some b => some (a && b)
        | _, _ => none)
      | _, _ => none)
    | none => none

def intsEq (a b : List Int) : Bool := a == b

def eqA (L : List (Nat × TI)) (Q : List TypeId) : Nat → TypeId → AV → AV → Option Bool
  | 0, _, _, _ => none
  | d + 1, t, x, y => match look L t with
    | some ti => (match ti.sk, x, y with
      | .bool, .one (.sc (.bool a)), .one (.sc (.bool b)) => some (a == b)
      | .int _, .one (.sc (.int k a)), .one (.sc (.int k' b)) => if k = k' then some (a == b) else none
      | .str, .one (.sc (.string a)), .one (.sc (.string b)) => some (a.toList == b.toList)
      | .array n e, .agg [.row m (.int k) l], .agg [.row m' (.int k') l'] => (match look L e with
        | some ⟨1, _, false, .int _, _, _⟩ => if k = k' ∧ m = n ∧ m' = n ∧ 1 ≤ d then some (intsEq l l') else none
        | _ => none)
      | .struct fs, .agg ps, .agg qs => bif Q.any (Nat.beq t) then eqFs (eqA L Q d) L ps qs fs else none
      | _, _, _ => none)
    | none => none

theorem rowOf_ints {X : Cx} (k : IntKind) : ∀ (l : List Int) (cs : List Value), rowOf (repT X (.int k)) l cs → cs = l.map (Value.int k)
  | [], _, h => h
  | x :: xs, _, ⟨c1, c2, e, h1, h2⟩ => by
    rw [e, show c1 = _ from h1, rowOf_ints k xs c2 h2]; rfl

section
variable {C : Cfg} {w : World}

theorem partA_run (hC : COk C) {X : Cx} {ps : List Piece} {cs : List Value} (hr : repPs X ps cs) {off : Nat} {ft : TypeId} {fi : TI} (hf : look C.L ft = some fi) {x : AV} (h : partA ps off fi = some x) :
    ∃ u, (part ft cs.toArray off).run C.P w = .ok u w ∧ repAV X u x := by
  unfold partA at h
  split at h
  · rename_i p q hs1
    split at h
    · rename_i r r2 hs2
      obtain ⟨e1, hp1⟩ := splitP_spec hs1
      obtain ⟨e2, hp2⟩ := splitP_spec hs2
      subst e1; subst e2
      obtain ⟨c1, c4, e3, h1, h4⟩ := repPs_append.1 hr
      obtain ⟨c2, c3, e4, h2, h3⟩ := repPs_append.1 h4
      subst e3; subst e4
      exact part_run (hC.at hf) (w := w) (c1 := c1) (c2 := c2) (c3 := c3) (off := off) (by rw [repPs_length h1, hp1]) (by rw [repPs_length h2, hp2]) (asAV_rep h h2)
    · cases h
  · cases h

theorem eqFs_run (hC : COk C) {X : Cx} {D : Nat} {F : TypeId → AV → AV → Option Bool} {ps qs : List Piece} {cs ds : List Value} (h1 : repPs X ps cs) (h2 : repPs X qs ds)
    (hF : ∀ t x y r u v, F t x y = some r → repAV X u x → repAV X v y → (Op.equalIn D t u v).run C.P w = .ok r w) : ∀ (fl : List Field) {r : Bool}, (∀ f ∈ fl, f.name ≠ "_") →
    eqFs F C.L ps qs (fl.map fun f => (f.offset, f.type)) = some r → (Op.eqFields D cs.toArray ds.toArray fl).run C.P w = .ok r w
  | [], r, _, h => by cases h; rfl
  | f :: fl, r, hn, h => by
    simp only [List.map_cons, eqFs] at h
    split at h
    · rename_i fi hfi
      split at h
      · rename_i x y hx hy
        split at h
        · rename_i a b ha hb
          cases h
          obtain ⟨u, hu, ru⟩ := partA_run hC (w := w) h1 hfi hx
          obtain ⟨v, hv, rv⟩ := partA_run hC (w := w) h2 hfi hy
          have hr := hF _ _ _ _ _ _ ha ru rv
          have ih := eqFs_run hC h1 h2 hF fl (fun g hg => hn g (by simp [hg])) hb
          unfold Op.eqFields
          rw [if_pos (hn f (by simp))]
          simp only [Sem.run_bind, hu, hv, hr, Result.andThen_ok]
          cases a
          · simp
          · simpa using ih
        · cases h
      · cases h
    · cases h

theorem eqItems_ints (hC : COk C) {k k' : IntKind} {e : TypeId} {ei : TI} (he : look C.L e = some ei) (hc : ei.cells = 1) (hg : ei.agg = false) (hu : C.P.underlying e = some (.int k')) (D : Nat) (w : World) : ∀ (l l' : List Int) (c1 c1' : List Value), c1.length = c1'.length → l.length = l'.length →
    (Op.eqItems (D + 1) e 1 (c1 ++ l.map (Value.int k)).toArray (c1' ++ l'.map (Value.int k)).toArray (List.range' c1.length l.length)).run C.P w = .ok (intsEq l l') w
  | [], [], _, _, _, _ => rfl
  | [], _ :: _, _, _, _, h => by simp at h
  | _ :: _, [], _, _, _, h => by simp at h
  | a :: l, b :: l', c1, c1', hcl, hl => by
    have hX : ∀ n, repCs (mkX 0 (fun _ => False) (fun _ => none) w []) ei.agg [.int k n] (.one (.sc (.int k n))) := fun n => by rw [hg]; exact ⟨_, rfl, ⟨rfl, rfl⟩, rfl⟩
    obtain ⟨u, hu1, hu2⟩ := part_run (hC.at he) (w := w) (c1 := c1) (c2 := [.int k a]) (c3 := l.map (Value.int k)) (off := c1.length) rfl (by simp [hc]) (hX a)
    obtain ⟨v, hv1, hv2⟩ := part_run (hC.at he) (w := w) (c1 := c1') (c2 := [.int k b]) (c3 := l'.map (Value.int k)) (off := c1.length) hcl.symm (by simp [hc]) (hX b)
    obtain rfl := hu2.1.1
    obtain rfl := hv2.1.1
    have ih := eqItems_ints hC (k := k) he hc hg hu D w l l' (c1 ++ [.int k a]) (c1' ++ [.int k b]) (by simp [hcl]) (by simpa using hl)
    simp only [List.length_cons, List.range'_succ, Op.eqItems, Nat.mul_one, Sem.run_bind, List.map_cons]
    simp only [List.singleton_append] at hu1 hv1
    rw [hu1, Result.andThen_ok, hv1, Result.andThen_ok, run_equalIn_int w D e k k' a b hu, Result.andThen_ok]
    unfold intsEq
    rw [List.cons_beq_cons]
    cases hab : a == b with
    | false => simp
    | true =>
      simp only [List.append_assoc, List.singleton_append, List.length_append, List.length_singleton, intsEq] at ih
      simpa using ih

theorem eqA_run (hC : COk C) {X : Cx} : ∀ (d D : Nat), d ≤ D → ∀ (t : TypeId) (x y : AV) (r : Bool) (u v : Value), eqA C.L C.Q d t x y = some r → repAV X u x → repAV X v y → (Op.equalIn D t u v).run C.P w = .ok r w := by
  intro d
  induction d with
  | zero => intro D _ t x y r u v h; cases h
  | succ d ih =>
    intro D hD t x y r u v h hu hv
    obtain ⟨D, rfl⟩ : ∃ m, D = m + 1 := ⟨D - 1, by omega⟩
    unfold eqA at h
    split at h
    · rename_i ti hti
      obtain ⟨de, hde, hsk⟩ := (hC.at hti).under
      split at h
      · rename_i a b hk
        cases h
        obtain rfl := hu.1.1
        obtain rfl := hv.1.1
        have : de = .bool := by cases de <;> simp_all [skel]
        subst this
        exact run_equalIn_bool w D t a b hde
      · rename_i k0 k a k' b hk
        split at h
        · rename_i hkk
          subst hkk
          cases h
          obtain rfl := hu.1.1
          obtain rfl := hv.1.1
          have : de = .int k0 := by cases de <;> simp_all [skel]
          subst this
          exact run_equalIn_int w D t k k0 a b hde
        · cases h
      · rename_i a b hk
        cases h
        obtain rfl := hu.1.1
        obtain rfl := hv.1.1
        have : de = .string := by cases de <;> simp_all [skel]
        subst this
        exact run_equalIn_string w D t a b hde
      · rename_i n e m k l m' k' l' hk
        split at h
        · rename_i n1 k0 n4 n5 he
          split at h
          · rename_i hc
            obtain ⟨rfl, rfl, rfl, hd1⟩ := hc
            cases h
            obtain ⟨cs, rfl, c1, c2, e1, ⟨hl1, hr1⟩, e2⟩ := hu
            obtain ⟨ds, rfl, d1, d2, e3, ⟨hl2, hr2⟩, e4⟩ := hv
            obtain rfl : c2 = [] := e2
            obtain rfl : d2 = [] := e4
            subst e1; subst e3
            rw [rowOf_ints k _ _ hr1, rowOf_ints k _ _ hr2]
            have : de = .array m' e := by
              cases de <;> simp_all [skel]
            subst this
            have hinf := (hC.at he).info
            cases hi : C.P.info? e with
            | none => rw [hi] at hinf; cases hinf
            | some i =>
              rw [hi] at hinf
              have hcell : C.P.cellsOf e = 1 := by
                have : i.size = 1 := by simpa using (congrArg (fun x => x.map Prod.fst) hinf)
                simp [Program.cellsOf, hi, this]
              rw [run_equalIn_array w D _ _ hde hi, hcell, List.range_eq_range']
              obtain ⟨dd, hdd, hsd⟩ := (hC.at he).under
              have : dd = .int k0 := by cases dd <;> simp_all [skel]
              subst this
              obtain ⟨D, rfl⟩ : ∃ m, D = m + 1 := by
                cases D with
                | zero => omega
                | succ D => exact ⟨D, rfl⟩
              have := eqItems_ints hC (k := k) he rfl rfl hdd D w l l' [] [] rfl (hl1.trans hl2.symm)
              have hl1' : @List.length Int l = m' := hl1
              rw [hl1'] at this
              rw [List.append_nil, List.append_nil]
              exact this
          · cases h
        · cases h
      · rename_i fs ps qs hk
        obtain ⟨hq, h⟩ := cond_some h
        obtain ⟨cs, rfl, hr1⟩ := hu
        obtain ⟨ds, rfl, hr2⟩ := hv
        obtain ⟨fl, rfl⟩ : ∃ fl, de = .struct fl := by rw [hk] at hsk; cases de <;> simp [skel] at hsk; exact ⟨_, rfl⟩
        rw [hk] at hsk
        simp only [skel, Sk.struct.injEq] at hsk
        have hmem : t ∈ C.Q := by
          rw [List.any_eq_true] at hq
          obtain ⟨z, hz, e⟩ := hq
          rw [beq_eq e]; exact hz
        have hpl := hC.eqs t hmem
        unfold plainQ at hpl
        simp only [Bool.and_eq_true, Bool.not_eq_true', List.all_eq_true] at hpl
        have hf : C.P.fieldsOf t = fl := by simp [Program.fieldsOf, hde]
        rw [run_equalIn_struct w D t _ _ (by rw [hf]; exact hde) hpl.1, hf]
        rw [← hsk] at h
        exact eqFs_run hC hr1 hr2 (fun t x y r u v h1 h2 h3 => ih D (by omega) t x y r u v h1 h2 h3) fl.toList (fun f hf' => by
          have := hpl.2.1 f (by rw [hf]; exact hf')
          simpa using this) h
      · cases h
    · cases h
end

def lEq (C : Cfg) (env : List Tm) (bs : List Box) (op : BinOp) (t : TypeId) (x y : Operand) : Option Out := match evalO C.E env x, evalO C.E env y with
  | .v (.agg ps), .v (.agg qs) => bif C.Q.any (Nat.beq t) then (match op, eqA C.L C.Q 50 t (.agg ps) (.agg qs) with
    | .eql, some r => some ⟨True, .v (.one (.sc (.bool r))), env, bs⟩
    | .neq, some r => some ⟨True, .v (.one (.sc (.bool (!r)))), env, bs⟩
    | _, _ => none) else none
  | _, _ => none

theorem lEq_run {C : Cfg} (hC : COk C) {X : Cx} {w : World} {env : List Tm} {bs : List Box} {op : BinOp} {t : TypeId} {x y : Operand} {u v : Value} {r : Out} (hq : lEq C env bs op t x y = some r)
    (hu : repTm X u (evalO C.E env x)) (hv : repTm X v (evalO C.E env y)) : ∃ z, ((do eqGuard op t x y u v; binOp op t u v) : Sem Value).run C.P w = .ok z w ∧ repTm X z r.tm ∧ r.env = env ∧ r.bs = bs := by
  unfold lEq at hq
  split at hq
  · rename_i ps qs e1 e2
    obtain ⟨hm, hq⟩ := cond_some hq
    rw [e1] at hu
    rw [e2] at hv
    have hmem : t ∈ C.Q := by
      rw [List.any_eq_true] at hm
      obtain ⟨z, hz, e⟩ := hm
      rw [beq_eq e]; exact hz
    have hpl := hC.eqs t hmem
    unfold plainQ at hpl
    simp only [Bool.and_eq_true, Bool.not_eq_true'] at hpl
    obtain ⟨cs, rfl, h1⟩ := id hu
    obtain ⟨ds, rfl, h2⟩ := id hv
    split at hq
    · rename_i b hb
      cases hq
      have := eqA_run hC (w := w) (X := X) 50 10000 (by omega) t (.agg ps) (.agg qs) _ _ _ (by assumption) hu hv
      exact ⟨_, by rw [Sem.run_bind, run_eqGuard_agg w _ t x y _ _ hpl.2.2, Result.andThen_ok, run_eql_struct, this]; rfl, ⟨⟨rfl, rfl⟩, rfl⟩, rfl, rfl⟩
    · rename_i b hb
      cases hq
      have := eqA_run hC (w := w) (X := X) 50 10000 (by omega) t (.agg ps) (.agg qs) _ _ _ (by assumption) hu hv
      exact ⟨_, by rw [Sem.run_bind, run_eqGuard_agg w _ t x y _ _ hpl.2.2, Result.andThen_ok, run_neq_struct, this]; rfl, ⟨⟨rfl, rfl⟩, rfl⟩, rfl, rfl⟩
    · cases hq
  · cases hq

end Go.Proofs.YtllannmegnklmaaE
