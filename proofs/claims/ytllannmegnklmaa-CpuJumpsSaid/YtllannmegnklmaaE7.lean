/- The quiet operations together. -/
import Derived.Test.YtllannmegnklmaaE6
set_option linter.unusedVariables false
set_option linter.unusedSimpArgs false
set_option linter.unnecessarySimpa false
namespace Go.Proofs.YtllannmegnklmaaE
open Go

/-- What must be told of an operation beside its text. -/
inductive OD where
  | no
  | b (q : Bool)
  | mv (q : Bool)
  | call (full : Bool) (hs : List Ty) (r : Tm)
  | callP (full : Bool) (hs : List Ty) (r : Tm)
  | callQ (full : Bool) (hs : List Ty) (r : Tm)
  | callR (full : Bool) (hs : List Ty) (σ : List Nat) (r : Tm) (bs' : List Box)
  | x (d : OD)

def qLoad (L : List (Nat × TI)) (bs : List Box) (t : TypeId) (x : Tm) : Option (Prop × Tm) := match look L t with
  | some ti => match x with
    | .v (.one (.ptr id o)) => match bs[id]? with
      | some (.ex _ ps _) => (match readAt ps o ti.cells ti.agg with | some (φ, y) => some (φ, .v y) | none => none)
      | some (.gro _ u l _) => (match readAt [.row l.length u l] o ti.cells ti.agg with | some (φ, y) => some (φ, .v y) | none => none)
      | some (.fix _ u l _) => (match readAt [.row l.length u l] o ti.cells ti.agg with | some (φ, y) => some (φ, .v y) | none => none)
      | _ => none
    | .v (.one (.fp u y sub)) => match splitP (unT u y) sub with
      | some (_, q) => (match splitP q ti.cells with
        | some (r, _) => (match asAV ti.agg r with | some z => some (True, .v z) | none => none)
        | none => none)
      | none => none
    | _ => none
  | none => none

section
variable {C : Cfg} {Z : Nat → Prop} {β : Nat → Option (Nat × Nat)} {w : World} {bs : List Box}

theorem box_cells {E : TypeId} {G : Globs} (h : RelB E G Z β w bs) {id : Nat} {bx : Box} (hb : bs[id]? = some bx) {ps : List Piece} (hp : (∃ ro ty, bx = .ex ro ps ty) ∨ ∃ ro t l ty, (bx = .gro ro t l ty ∨ bx = .fix ro t l ty) ∧ ps = [.row l.length t l]) :
    bAl bs id = true ∧ ((∃ b cs c0 ty fr, β id = some (b, (cs ++ c0).length) ∧ w.heap[b]? = some (.cells (cs ++ c0).toArray ty fr) ∧ thaw fr (cs ++ c0).length ∧ repPs (mkX E Z β w bs) ps cs ∧ (∀ v ∈ cs ++ c0, v.oneCell' = true)) ∨ β id = none) := by
  rcases hp with ⟨ro, ty, rfl⟩ | ⟨ro, t, l, ty, rfl | rfl, rfl⟩
  · obtain ⟨b, cs, fr, h1, h2, h3, h4⟩ := h.box id _ hb
    exact ⟨by simp [bAl, hb, Box.alive], .inl ⟨b, cs, [], ty, fr, by rw [List.append_nil]; exact h1, by rw [List.append_nil]; exact h2, by rw [List.append_nil]; exact h3, h4, by rw [List.append_nil]; exact repPs_one h4⟩⟩
  · refine ⟨by simp [bAl, hb, Box.alive], ?_⟩
    rcases h.box id _ hb with ⟨h1, h2⟩ | ⟨b, cs, fr, c1, c2, h1, h2, h3, h4, h5, h6⟩
    · exact .inr h1
    · subst h4; exact .inl ⟨b, c1, c2, ty, fr, h1, h2, h3, ⟨c1, [], by simp, ⟨rfl, h5⟩, rfl⟩, h6⟩
  · refine ⟨by simp [bAl, hb, Box.alive], ?_⟩
    rcases h.box id _ hb with ⟨h1, h2⟩ | ⟨b, cs, fr, c1, c2, h1, h2, h3, h4, h5, h6⟩
    · exact .inr h1
    · subst h4; exact .inl ⟨b, c1, c2, ty, fr, h1, h2, h3, ⟨c1, [], by simp, ⟨rfl, h5⟩, rfl⟩, h6⟩

theorem qLoad_run (hC : COk C) (h : RelB C.E C.G Z β w bs) {t : TypeId} {x : Tm} {φ : Prop} {tm : Tm} {v : Value} (hq : qLoad C.L bs t x = some (φ, tm)) (hφ : φ) (hv : repTm (mkX C.E Z β w bs) v x) :
    ∃ u, (Instr.loadAt t v).run C.P w = .ok u w ∧ repTm (mkX C.E Z β w bs) u tm := by
  unfold qLoad at hq
  split at hq
  · rename_i ti hti
    have hT := hC.at hti
    split at hq
    · rename_i id o
      -- a box's pieces
      have go : ∀ (bx : Box) (ps : List Piece) (y : AV), bs[id]? = some bx → ((∃ ro ty, bx = .ex ro ps ty) ∨ ∃ ro t l ty, (bx = .gro ro t l ty ∨ bx = .fix ro t l ty) ∧ ps = [.row l.length t l]) → readAt ps o ti.cells ti.agg = some (φ, y) → tm = .v y →
          ∃ u, (Instr.loadAt t v).run C.P w = .ok u w ∧ repTm (mkX C.E Z β w bs) u tm := by
        intro bx ps y hb hp hr e
        subst e
        obtain ⟨ha, hh⟩ := box_cells h hb hp
        obtain ⟨_, b, z, hb2, rfl⟩ := ptr_rep hv ha
        have hb2 : β id = some (b, z) := hb2
        rcases hh with ⟨b', cs, c0, ty, fr, h1, h2, h3, h4, h5⟩ | h1
        · have : b = b' := by have := hb2.symm.trans h1; cases this; rfl
          subst this
          obtain ⟨c1, c2, c3, e1, hl1, hl2, hy⟩ := readAt_rep hr hφ h4
          rw [e1, List.append_assoc, List.append_assoc] at h2
          obtain ⟨u, hu1, hu2⟩ := run_loadVar_mid (P := C.P) hT (w := w) (p := ⟨b, o.val, none⟩) (cs := c2) (fun j v hj => mid_cell (w := w) h2 hl1 j v hj) hl2 hy
          exact ⟨u, by simpa [Instr.loadAt, Instr.sureAddr] using hu1, hu2⟩
        · rw [h1] at hb2; cases hb2
      split at hq
      · rename_i ro ps ty hb
        split at hq
        · rename_i φ' y hr
          cases hq
          exact go _ ps y hb (.inl ⟨ro, ty, rfl⟩) hr rfl
        · cases hq
      · rename_i ro u l ty hb
        split at hq
        · rename_i φ' y hr
          cases hq
          exact go _ _ y hb (.inr ⟨ro, u, l, ty, .inl rfl, rfl⟩) hr rfl
        · cases hq
      · rename_i ro u l ty hb
        split at hq
        · rename_i φ' y hr
          cases hq
          exact go _ _ y hb (.inr ⟨ro, u, l, ty, .inr rfl, rfl⟩) hr rfl
        · cases hq
      · cases hq
    · rename_i u y sub
      split at hq
      · rename_i p q hs1
        split at hq
        · rename_i r r2 hs2
          split at hq
          · rename_i z hz
            cases hq
            obtain ⟨⟨p, ds, rfl, hsp, hZ, hr, hc⟩, _⟩ := hv
            have h5 := repPs_unT u y hr
            obtain ⟨e1, hp1⟩ := splitP_spec hs1
            obtain ⟨e2, hp2⟩ := splitP_spec hs2
            rw [e1, e2] at h5
            obtain ⟨c1, c4, e3, h1, h4⟩ := repPs_append.1 h5
            obtain ⟨c2, c3, e4, h2, h3⟩ := repPs_append.1 h4
            have hl1 : c1.length = sub := by rw [repPs_length h1, hp1]
            obtain ⟨u', hu1, hu2⟩ := run_loadVar_mid (P := C.P) hT (w := w) (p := p) (cs := c2) (fun j v hj => by
              refine hc j v ?_
              have hlt := (List.getElem?_eq_some_iff.1 hj).1
              rw [e3, e4, List.getElem?_append_right (by omega), hl1, show sub + j - sub = j by omega, List.getElem?_append_left hlt]
              exact hj) (by rw [repPs_length h2, hp2]) (asAV_rep hz h2)
            exact ⟨u', by simpa [Instr.loadAt, Instr.sureAddr] using hu1, hu2⟩
          · cases hq
        · cases hq
      · cases hq
    · cases hq
  · cases hq
end

/-! ### Conversions -/
def qConvert (L : List (Nat × TI)) (bs : List Box) (d : OD) (src dst : TypeId) (x : Tm) : Option (Prop × Tm) := match look L src, look L dst with
  | some si, some di => match di.sk, x with
    | .int k, .v (.one (.sc (.int _ n))) => some (True, .v (.one (.sc (.int k (k.wrap n)))))
    | .str, .v (.one (.sc (.string s))) => (match si.sk with | .str => some (True, x) | _ => none)
    | .str, _ => match si.sk with
      | .slice e => match look L e with
        | some ⟨_, _, _, .int .u8, _, _⟩ => match viewS (.int .u8) bs (match d with | .b q => q | _ => false) x with
          | some (φ, l) => some (φ, .v (.one (.sc (.string (strOfNums l)))))
          | none => none
        | _ => none
      | _ => none
    | _, _ => none
  | _, _ => none

theorem rowOf_u8 {X : Cx} : ∀ (l : List Int) (cs : List Value), rowOf (repT X (.int .u8)) l cs → cs = l.map (Value.int .u8)
  | [], cs, h => h
  | x :: xs, cs, ⟨c1, c2, e, h1, h2⟩ => by rw [e, show c1 = [.int .u8 x] from h1, rowOf_u8 xs c2 h2]; rfl

theorem view_bytes {P : Program} {w : World} {X : Cx} (hX : X.w = w) {l : List Int} {v : Value} (h : IsView X (.int .u8) l v) {src dst e : TypeId} (hs : P.underlying src = some (.slice e)) (he : P.underlying e = some (.int .u8)) (hd : P.underlying dst = some .string) :
    (convert src dst v).run P w = .ok (.string (strOfNums l)) w := by
  subst hX
  obtain ⟨a, n, c, rfl, hl, hc, hr⟩ := h
  have hl' : List.length (α := Int) l = n := hl
  clear hl
  have hl := hl'
  cases n with
  | zero =>
    have : l = [] := List.eq_nil_of_length_eq_zero hl
    subst this
    cases a with
    | none => rw [run_convert_bytes_nil _ src e hs he 0 c dst hd]; rfl
    | some a =>
      rw [run_convert_bytes_string _ src dst e _ 0 c hs he hd, run_bytesToString _ a 0 c [] (by rfl)]
      rfl
  | succ n =>
    obtain ⟨p, ds, rfl, hsp, hrow, hcell⟩ := hr (Nat.succ_pos n)
    have e1 := rowOf_u8 l ds hrow
    obtain ⟨b, o, s⟩ := p
    cases hsp
    refine run_convert_bytes_arg X.w src e hs he b o (n + 1) c l hl (fun i hi => ?_) dst hd
    have := hcell i (.int .u8 (l.getD i 0)) (by rw [e1, List.getElem?_map, List.getD_eq_getElem?_getD, List.getElem?_eq_getElem (by omega)]; rfl)
    rwa [lookup_add] at this

theorem qConvert_run {C : Cfg} (hC : COk C) {Z : Nat → Prop} {β : Nat → Option (Nat × Nat)} {w : World} {bs : List Box} (h : RelB C.E C.G Z β w bs) {d : OD} {src dst : TypeId} {x : Tm} {φ : Prop} {tm : Tm} {v : Value} (hq : qConvert C.L bs d src dst x = some (φ, tm)) (hφ : φ) (hv : repTm (mkX C.E Z β w bs) v x) :
    ∃ u, (convert src dst v).run C.P w = .ok u w ∧ repTm (mkX C.E Z β w bs) u tm := by
  unfold qConvert at hq
  split at hq
  · rename_i si di hsi hdi
    obtain ⟨sd, hsu, hss⟩ := (hC.at hsi).under
    obtain ⟨dd, hdu, hds⟩ := (hC.at hdi).under
    split at hq
    · rename_i k k' n hk
      cases hq
      obtain rfl := sc_rep hv rfl
      have : dd = .int k := by cases dd <;> simp_all [skel]
      subst this
      refine ⟨_, ?_, ⟨rfl, rfl⟩, rfl⟩
      simp [convert, run_underlying hsu, run_underlying hdu, Conv.intToInt]
    · rename_i s hk
      have : dd = .string := by cases dd <;> simp_all [skel]
      subst this
      split at hq
      · rename_i hs
        cases hq
        have : sd = .string := by cases sd <;> simp_all [skel]
        subst this
        have e := sc_rep hv rfl
        subst e
        exact ⟨_, by simp [convert, run_underlying hsu, run_underlying hdu], hv⟩
      · cases hq
    · rename_i hk _
      have : dd = .string := by cases dd <;> simp_all [skel]
      subst this
      split at hq
      · rename_i e hs
        have : sd = .slice e := by cases sd <;> simp_all [skel]
        subst this
        split at hq
        · rename_i n1 n2 n3 n4 n5 he
          obtain ⟨ed, heu, hes⟩ := (hC.at he).under
          have : ed = .int .u8 := by cases ed <;> simp_all [skel]
          subst this
          split at hq
          · rename_i φ' l hl
            cases hq
            exact ⟨_, view_bytes rfl (viewS_rep h hl hφ hv) hsu heu hdu, ⟨rfl, rfl⟩, rfl⟩
          · cases hq
        · cases hq
      · cases hq
    · cases hq
  · cases hq

/-! ### All of them -/
def optI (E : TypeId) (env : List Tm) : Option Operand → Option (Option Int)
  | none => some none
  | some x => match evalO E env x with
    | .v (.one (.sc (.int _ n))) => some (some n)
    | _ => none

theorem optI_rep {X : Cx} {a : Act} {env : List Tm} (h : RelE X a.tmps env) {o : Option Operand} {oi : Option Int} (e : optI X.E env o = some oi) : ∃ k, o.map a.eval = valI oi k := by
  cases o with
  | none => cases e; exact ⟨.i64, rfl⟩
  | some x =>
    simp only [optI] at e
    split at e
    · rename_i k n hx
      cases e
      have := evalO_rep h x
      rw [hx] at this
      exact ⟨k, by rw [Option.map_some, sc_rep this rfl]; rfl⟩
    · cases e

def sameO : Option Operand → Option Operand → Bool
  | some (.tmp a), some (.tmp b) => Nat.beq a b
  | some (.const (.int _ a)), some (.const (.int _ b)) => a == b
  | _, _ => false

def qUn (op : UnOp) (x : Tm) : Option (Prop × Tm) := match op, x with
  | .not, .v (.one (.sc (.bool b))) => some (True, .v (.one (.sc (.bool (!b)))))
  | .neg, .v (.one (.sc (.int k n))) => some (True, .v (.one (.sc (.int k (k.wrap (0 - n))))))
  | .xor, .v (.one (.sc (.int k n))) => some (True, .v (.one (.sc (.int k (bits .xor k (if k.signed then -1 else k.max) n)))))
  | _, _ => none

def qBin (L : List (Nat × TI)) (bs : List Box) (op : BinOp) (t : TypeId) (x y : Operand) (a b : Tm) : Option (Prop × Tm) := match a, b with
  | .v (.one (.sc (.int k p))), .v (.one (.sc (.int k' q))) => match op with
    | .shl => some (0 ≤ q, .v (.one (.sc (.int k (shl k p q)))))
    | .shr => some (0 ≤ q, .v (.one (.sc (.int k (shr k p q)))))
    | _ => if k = k' then (match intBin op k p q with | some (φ, v) => some (φ, .v (.one (.sc v))) | none => none) else none
  | .v (.one (.sc (.string p))), .v (.one (.sc (.string q))) => (match strBin op p q with | some (φ, v) => some (φ, .v (.one (.sc v))) | none => none)
  | _, _ => match look L t with
    | some ti => bif a.okAl bs then (match op, eqPlain ti.sk x y a b with
      | .eql, some r => some (True, .v (.one (.sc (.bool r))))
      | .neq, some r => some (True, .v (.one (.sc (.bool (!r)))))
      | _, _ => none) else none
    | none => none

def qLen (L : List (Nat × TI)) (t : TypeId) (x : Tm) : Option (Prop × Tm) := match look L t with
  | some ti => match ti.sk, x with
    | .str, .v (.one (.sc (.string s))) => some (True, .v (.one (.sc (.int .i64 s.size))))
    | .array n _, _ => some (True, .v (.one (.sc (.int .i64 n))))
    | .slice _, .v (.one (.fs _ l _)) => some (True, .v (.one (.sc (.int .i64 l.length))))
    | .slice _, .v (.one (.os _ _ _ _ len _)) => some (True, .v (.one (.sc (.int .i64 len))))
    | .slice _, .v (.one (.sc (.slice none n _))) => some (True, .v (.one (.sc (.int .i64 n))))
    | _, _ => none
  | none => none

/-- The room of a slice that is nil. -/
def qCap (L : List (Nat × TI)) (t : TypeId) (x : Tm) : Option (Prop × Tm) := match look L t, x with
  | some ⟨_, _, _, .slice _, _, _⟩, .v (.one (.sc (.slice none _ c))) => some (True, .v (.one (.sc (.int .i64 c))))
  | _, _ => none

def qMinMax (mx : Bool) (a b : Tm) : Option (Prop × Tm) := match a, b with
  | .v (.one (.sc (.int k p))), .v (.one (.sc (.int _ q))) => some (True, .v (.one (.sc (.int k (bif mx then (if q > p then q else p) else (if q < p then q else p))))))
  | _, _ => none

def qCall (E : TypeId) (L : List (Nat × TI)) (env : List Tm) (bs : List Box) (c : Call) : Option (Prop × Tm) := match c.callee, c.args.toList, c.argTypes.toList with
  | .builtin .len, [x], [t] => bif (evalO E env x).okAl bs then qLen L t (evalO E env x) else none
  | .builtin .cap, [x], [t] => qCap L t (evalO E env x)
  | .builtin .min, [x, y], _ => qMinMax false (evalO E env x) (evalO E env y)
  | .builtin .max, [x, y], _ => qMinMax true (evalO E env x) (evalO E env y)
  | _, _, _ => none

theorem cond_none {α : Type} {b : Bool} {x : Option α} {y : α} (h : (bif b then none else x) = some y) : b = false ∧ x = some y := by
  cases b
  · exact ⟨rfl, h⟩
  · cases h

theorem cond_some {α : Type} {b : Bool} {x : Option α} {y : α} (h : (bif b then x else none) = some y) : b = true ∧ x = some y := by
  cases b
  · cases h
  · exact ⟨rfl, h⟩

def qArrPtr (L : List (Nat × TI)) (bs : List Box) (t : TypeId) (x : Tm) : Option (Prop × Tm) := match look L t with
  | some ⟨_, _, _, .array n e, _, _⟩ => match look L e with
    | some ei => match x with
      | .v (.one (.os id base lo esz len _)) => bif Nat.ble 1 n && Nat.beq esz ei.cells && bAl bs id then some (n ≤ len, .v (.one (.ptr id ⟨base, lo, esz, 0⟩))) else none
      | .v (.one (.fs u l _)) => bif Nat.ble 1 n then some (n ≤ l.length, .v (.one (.fp (.arr n u) (l.take n) 0))) else none
      | _ => none
    | none => none
  | _ => none

theorem qArrPtr_run {C : Cfg} (hC : COk C) {bs : List Box} {Z : Nat → Prop} {β : Nat → Option (Nat × Nat)} {w : World} {t : TypeId} {x : Tm} {φ : Prop} {tm : Tm} {v : Value} (h : qArrPtr C.L bs t x = some (φ, tm)) (hφ : φ) (hv : repTm (mkX C.E Z β w bs) v x) :
    ∃ u, (Instr.arrayAt t v).run C.P w = .ok u w ∧ repTm (mkX C.E Z β w bs) u tm := by
  unfold qArrPtr at h
  split at h
  · rename_i n1 n2 n3 n e n4 n5 hl
    obtain ⟨d, hu, hs⟩ := (hC.at hl).under
    obtain ⟨rfl⟩ : d = .array n e := by cases d <;> simp_all [skel]
    split at h
    · rename_i ei he
      split at h
      · rename_i id base lo esz len cap
        obtain ⟨hb, h⟩ := cond_some h
        simp only [Bool.and_eq_true] at hb
        cases h
        obtain ⟨⟨hn, hr⟩, _⟩ := hv
        obtain ⟨a, c, rfl, hlc, _, hc⟩ := hr hb.2
        have h1 := Nat.le_of_ble_eq_true hb.1.1
        obtain ⟨b, z, hbz, rfl, _⟩ := hc (by omega)
        refine ⟨.pointer (some ⟨b, base + lo * esz, none⟩), ?_, ⟨hn, fun _ => ⟨b, z, hbz, ?_⟩⟩, rfl⟩
        · have : ¬ len < n := by omega
          simp [Instr.arrayAt, run_underlying hu, this]
        · simp only [Off.val, Nat.add_zero]
      · rename_i u l tg
        obtain ⟨hb, h⟩ := cond_some h
        cases h
        have h1 := Nat.le_of_ble_eq_true hb
        obtain ⟨⟨⟨a, n', c, e3, hl', hlc, hr⟩, _⟩, _⟩ := hv
        cases e3
        obtain ⟨p, ds, rfl, hrow, hsp, hZ, hcell⟩ := hr (by omega)
        obtain ⟨f1, f2, f3, e4, hf1, hf2, h11, _, _⟩ := rowOf_part hrow 0 n (by omega)
        have hf1' : f1 = [] := by simpa using hf1
        subst hf1'
        refine ⟨.pointer (some p), ?_, ⟨p, f2, rfl, hsp, hZ, ⟨by simp; omega, by simpa using h11⟩, fun j u' hj => ?_⟩, rfl⟩
        · have : ¬ n' < n := by omega
          simp [Instr.arrayAt, run_underlying hu, this]
        · refine hcell _ _ ?_
          have hlt := (List.getElem?_eq_some_iff.1 hj).1
          rw [e4, List.nil_append]
          simp only [Nat.zero_add] at hj ⊢ hlt
          rw [List.getElem?_append_left hlt]
          exact hj
      · cases h
    · cases h
  · cases h

/-- What a function's value bears. -/
def partsC (E : TypeId) (env : List Tm) : List Operand → Option (List (Bool × Nat) × List Piece)
  | [] => some ([], [])
  | x :: r => match evalO E env x, partsC E env r with
    | .v (.one c), some (sh, ps) => some ((false, 1) :: sh, .c c :: ps)
    | .v (.agg qs), some (sh, ps) => some ((true, psize qs) :: sh, qs ++ ps)
    | _, _ => none

theorem partsC_rep {X : Cx} {a : Act} {env : List Tm} (h : RelE X a.tmps env) : ∀ {l : List Operand} {sh : List (Bool × Nat)} {ps : List Piece}, partsC X.E env l = some (sh, ps) → ∃ cs, repPs X ps cs ∧ chop sh cs = l.map a.eval
  | [], _, _, hq => by cases hq; exact ⟨[], rfl, rfl⟩
  | x :: r, sh, ps, hq => by
    have hx := evalO_rep h x
    unfold partsC at hq
    split at hq
    · rename_i c sh1 ps1 he hr
      cases hq
      rw [he] at hx
      obtain ⟨cs, h1, h2⟩ := partsC_rep h hr
      exact ⟨a.eval x :: cs, ⟨[a.eval x], cs, rfl, ⟨_, rfl, hx.1, hx.2⟩, h1⟩, by simp only [chop, List.map_cons, List.headD_cons, List.tail_cons, h2]⟩
    · rename_i qs sh1 ps1 he hr
      cases hq
      rw [he] at hx
      obtain ⟨cs, h1, h2⟩ := partsC_rep h hr
      obtain ⟨ds, e, h3⟩ := hx
      have hl := repPs_length h3
      refine ⟨ds ++ cs, repPs_append.2 ⟨ds, cs, rfl, h3, h1⟩, ?_⟩
      have e1 : (ds ++ cs).take (psize qs) = ds := by rw [← hl]; simp
      have e2 : (ds ++ cs).drop (psize qs) = cs := by rw [← hl]; simp
      simp only [chop, List.map_cons, e1, e2, h2, e]
    · cases hq

def qFunc (E : TypeId) (env : List Tm) (fn : Fn) (first captured : List Operand) : Option (Prop × Tm) := match fn with
  | .func f => bif first.isEmpty then (match partsC E env captured with
    | some (sh, ps) => some (True, .v (.clo f sh ps))
    | none => none) else none
  | _ => none

/-- A pointer as an interface value. -/
def ifc (bs : List Box) (t : TypeId) (y : Cell) : Option Cell := match ifps, y with
  | true, .ptr id o => bif Nat.beq o.val 0 && bAl bs id then some (.ip t id) else none
  | _, _ => some (.oerr t)
/-- A struct of plain values. -/
def scs : List Piece → Option (List Value)
  | [] => some []
  | .c (.sc v) :: r => (match scs r with | some l => some (v :: l) | none => none)
  | _ => none
theorem scs_rep {X : Cx} : ∀ {ps : List Piece} {l cs : List Value}, scs ps = some l → repPs X ps cs → cs = l
  | [], l, cs, h, hr => by cases h; exact hr
  | .c (.sc v) :: r, l, cs, h, ⟨c1, c2, e, ⟨u, e1, h1, _⟩, h2⟩ => by
    simp only [scs] at h
    split at h
    · rename_i l2 hl
      cases h
      rw [e, e1, h1.1, scs_rep hl h2]
      rfl
    · cases h
theorem scs_back {X : Cx} : ∀ {l : List Value}, l.all Value.oneCell' = true → repPs X (l.map fun v => .c (.sc v)) l
  | [], _ => rfl
  | v :: l, h => by
    simp only [List.all_cons, Bool.and_eq_true] at h
    exact ⟨[v], l, rfl, ⟨v, rfl, ⟨rfl, h.1⟩, h.1⟩, scs_back h.2⟩
theorem ifc_rep {X : Cx} {bs : List Box} (hX : X.al = bAl bs) {t : TypeId} {y z : Cell} {v : Value} (h : ifc bs t y = some z) (hv : repC X v y) : repC X (.iface t v) z := by
  unfold ifc at h
  split at h
  · rename_i id o _
    obtain ⟨hb, h⟩ := cond_some h
    cases h
    rw [Bool.and_eq_true] at hb
    obtain ⟨h1, h2⟩ := hv
    have ha : X.al id = true := by rw [hX]; exact hb.2
    obtain ⟨b, z, hb2, e⟩ := h2 ha
    refine ⟨h1, some ⟨b, 0, none⟩, ?_, fun _ => ⟨b, z, hb2, rfl⟩⟩
    rw [e, beq_eq hb.1]
  · cases h
    exact ⟨_, rfl⟩


def qOp (E : TypeId) (L : List (Nat × TI)) (env : List Tm) (bs : List Box) (op : Op) (d : OD) : Option (Prop × Tm) := match op with
  | .makeFunc fn first captured => qFunc E env fn first.toList captured.toList
  | .move x => some (True, evalO E env x)
  | .assign x => some (True, evalO E env x)
  | .pick c x y => match evalO E env c, d with
    | .v (.one (.sc (.bool p))), .b q => some (p = q, bif q then evalO E env x else evalO E env y)
    | _, _ => none
  | .build t parts => match look L t with
    | some ⟨_, _, _, .array _ _, _, _⟩ => qBuildA E L env t parts.toList
    | _ => qBuildS E L env t parts.toList
  | .load t x => bif (evalO E env x).okAl bs then qLoad L bs t (evalO E env x) else none
  | .nilCheck x => match evalO E env x with
    | .v (.one (.ptr id o)) => bif bAl bs id then some (True, .v (.one (.ptr id o))) else none
    | .v (.one (.fp t y s)) => some (True, .v (.one (.fp t y s)))
    | .v (.one (.ip t id)) => some (True, .v (.one (.ip t id)))
    | _ => none
  | .binOp op t x y _ => qBin L bs op t x y (evalO E env x) (evalO E env y)
  | .unOp op _ x => qUn op (evalO E env x)
  | .convert s t x => qConvert L bs d s t (evalO E env x)
  | .makeInterface t x => match look L t, evalO E env x with
    | some ⟨_, _, _, .int _, _, _⟩, .v (.one (.sc (.int .i64 n))) => bif Nat.beq t E then some (True, .v (.one (.err (some n)))) else some (True, .v (.one (.sc (.iface t (.int .i64 n)))))
    | some ⟨_, _, _, .ptr _, _, _⟩, .v (.one y) => (match ifc bs t y with | some z => some (True, .v (.one z)) | none => none)
    | some ⟨_, _, _, .struct _, _, _⟩, .v (.agg ps) => (match scs ps with | some l => some (True, .v (.one (.sc (.iface t (.agg l.toArray))))) | none => none)
    | _, _ => none
  | .typeAssert x _ t ok => match ok, look L t, evalO E env x with
    | true, some ⟨_, _, _, .struct _, _, _⟩, .v (.one (.sc (.iface u (.agg cs)))) => bif Nat.beq u t && cs.toList.all Value.oneCell' then some (True, .tup [.agg (cs.toList.map fun v => .c (.sc v)), .one (.sc (.bool true))]) else none
    | _, _, _ => none
  | .slice t x lo hi mx => match optI E env lo, optI E env hi, optI E env mx with
    | some l, some h, some m => (match evalO E env x with
      | .v (.one (.ptr id o)) => (match bs[id]?, look L t with
        | some (.ex _ ps _), some ⟨_, _, _, .array n e, _, _⟩ => (match look L e with
          | some ei => bif Nat.ble (o.base + o.sub + n * ei.cells) (psize ps) then qSlice L t (evalO E env x) l h m (sameO hi mx) else none
          | none => none)
        | _, _ => none)
      | y => bif y.okAl bs then qSlice L t y l h m (sameO hi mx) else none)
    | _, _, _ => none
  | .fieldAddr t x f => bif (evalO E env x).okAl bs then qFieldAddr L t (evalO E env x) f else none
  | .field t x f => qField L t (evalO E env x) f
  | .indexAddr t x i => match evalO E env i with
    | .v (.one (.sc (.int _ n))) => bif (evalO E env x).okAl bs then qIndexAddr L t (evalO E env x) n else none
    | _ => none
  | .index t x i => match evalO E env i with
    | .v (.one (.sc (.int _ n))) => qIndex L t (evalO E env x) n
    | _ => none
  | .sliceToArrayPointer t x => qArrPtr L bs t (evalO E env x)
  | .extract x i => match evalO E env x with
    | .tup xs => (match xs[i]? with | some y => some (True, .v y) | none => none)
    | _ => none
  | .call c => qCall E L env bs c
  | _ => none

theorem okAl_al {X : Cx} {bs : List Box} (hX : X.al = bAl bs) {x : Tm} (h : x.okAl bs = true) : ∀ id, Tm.id1 x = some id → X.al id = true := by
  intro id hid
  rw [hX]
  cases x with
  | any => cases hid
  | tup xs => cases hid
  | v y =>
    cases y with
    | agg ps => cases hid
    | clo f sh ps => cases hid
    | one c => cases c <;> first | (cases hid; exact h) | cases hid

theorem ok_value {P : Program} {w w' : World} {s : Sem Value} {u : Value} (h : s.run P w = .ok u w') : (do pure (Next.value (← s)) : Sem Next).run P w = .ok (.value u) w' := by
  rw [Sem.run_bind, h]; rfl

section
variable {C : Cfg} {Z : Nat → Prop} {β : Nat → Option (Nat × Nat)} {w : World} {bs : List Box} {a : Act} {env : List Tm}

theorem qBin_run (hC : COk C) (h : RelB C.E C.G Z β w bs) {op : BinOp} {t : TypeId} {x y : Operand} {p q : Tm} {u v : Value} {φ : Prop} {tm : Tm} (hq : qBin C.L bs op t x y p q = some (φ, tm)) (hφ : φ)
    (hu : repTm (mkX C.E Z β w bs) u p) (hv : repTm (mkX C.E Z β w bs) v q) : ∃ r, ((do eqGuard op t x y u v; binOp op t u v) : Sem Value).run C.P w = .ok r w ∧ repTm (mkX C.E Z β w bs) r tm := by
  unfold qBin at hq
  split at hq
  · rename_i k m k' n
    obtain rfl := sc_rep hu rfl
    obtain rfl := sc_rep hv rfl
    split at hq
    · cases hq; exact ⟨_, shift_run (.inl rfl) hφ, ⟨rfl, rfl⟩, rfl⟩
    · cases hq; exact ⟨_, shift_run (.inr rfl) hφ, ⟨rfl, rfl⟩, rfl⟩
    · split at hq
      · rename_i hk
        subst hk
        split at hq
        · rename_i ψ r hr
          cases hq
          refine ⟨r, intBin_run hr hφ, ?_⟩
          cases op <;> simp only [intBin] at hr <;> cases hr <;> exact ⟨⟨rfl, rfl⟩, rfl⟩
        · cases hq
      · cases hq
  · rename_i m n
    obtain rfl := sc_rep hu rfl
    obtain rfl := sc_rep hv rfl
    split at hq
    · rename_i ψ r hr
      cases hq
      refine ⟨r, strBin_run hr hφ, ?_⟩
      cases op <;> simp only [strBin] at hr <;> cases hr <;> exact ⟨⟨rfl, rfl⟩, rfl⟩
    · cases hq
  · split at hq
    · rename_i ti hti
      cases hal : p.okAl bs with
      | false => simp [hal] at hq
      | true =>
        simp only [hal, cond_true] at hq
        split at hq
        · rename_i r he
          cases hq
          have := eqPlain_run (hC.at hti) (P := C.P) (w := w) he hu hv (fun id o e => by subst e; exact hal)
          exact ⟨_, this.1, ⟨rfl, rfl⟩, rfl⟩
        · rename_i r he
          cases hq
          have := eqPlain_run (hC.at hti) (P := C.P) (w := w) he hu hv (fun id o e => by subst e; exact hal)
          exact ⟨_, this.2, ⟨rfl, rfl⟩, rfl⟩
        · cases hq
    · cases hq

theorem qLen_run (hC : COk C) (h : RelB C.E C.G Z β w bs) {t ty : TypeId} {x : Tm} {v : Value} {φ : Prop} {tm : Tm} (hq : qLen C.L t x = some (φ, tm)) (hv : repTm (mkX C.E Z β w bs) v x) (ha : x.okAl bs = true) :
    ∃ r, (Builtin.len_ #[t] ty #[v]).run C.P w = .ok r w ∧ repTm (mkX C.E Z β w bs) r tm := by
  unfold qLen at hq
  split at hq
  · rename_i ti hti
    obtain ⟨d, hu, hs⟩ := (hC.at hti).under
    split at hq
    · rename_i s hk
      cases hq
      obtain rfl := sc_rep hv rfl
      have : d = .string := by cases d <;> simp_all [skel]
      subst this
      exact ⟨_, by simp [Builtin.len_, run_underlying hu]; rfl, ⟨rfl, rfl⟩, rfl⟩
    · rename_i n e hk
      cases hq
      have : d = .array n e := by cases d <;> simp_all [skel]
      subst this
      exact ⟨_, by simp [Builtin.len_, run_underlying hu]; rfl, ⟨rfl, rfl⟩, rfl⟩
    · rename_i e u l tg hk
      cases hq
      have : d = .slice e := by cases d <;> simp_all [skel]
      subst this
      obtain ⟨⟨⟨a, n, c, e1, hl, _⟩, _⟩, _⟩ := hv
      cases e1
      subst hl
      exact ⟨_, by simp [Builtin.len_, run_underlying hu]; rfl, ⟨rfl, rfl⟩, rfl⟩
    · rename_i e id base lo esz len cap hk
      cases hq
      have : d = .slice e := by cases d <;> simp_all [skel]
      subst this
      obtain ⟨⟨_, hr⟩, _⟩ := hv
      obtain ⟨a, c, rfl, _⟩ := hr ha
      exact ⟨_, by simp [Builtin.len_, run_underlying hu]; rfl, ⟨rfl, rfl⟩, rfl⟩
    · rename_i e n c hk
      cases hq
      have : d = .slice e := by cases d <;> simp_all [skel]
      subst this
      obtain rfl := sc_rep hv rfl
      exact ⟨_, by simp [Builtin.len_, run_underlying hu]; rfl, ⟨rfl, rfl⟩, rfl⟩
    · cases hq
  · cases hq

theorem qCap_run (hC : COk C) {X : Cx} {t ty : TypeId} {x : Tm} {v : Value} {φ : Prop} {tm : Tm} {w : World} (hq : qCap C.L t x = some (φ, tm)) (hv : repTm X v x) :
    ∃ r, (Builtin.cap_ #[t] ty #[v]).run C.P w = .ok r w ∧ repTm X r tm := by
  unfold qCap at hq
  split at hq
  · rename_i e _ _ _ hl
    cases hq
    obtain ⟨d, hu, hs⟩ := (hC.at hl).under
    have : ∃ e, d = .slice e := by cases d <;> simp_all [skel]
    obtain ⟨e, rfl⟩ := this
    obtain rfl := sc_rep hv rfl
    exact ⟨_, by simp [Builtin.cap_, run_underlying hu]; rfl, ⟨rfl, rfl⟩, rfl⟩
  · cases hq

theorem qMinMax_run {X : Cx} {P : Program} {mx : Bool} {p q : Tm} {u v : Value} {φ : Prop} {tm : Tm} (hq : qMinMax mx p q = some (φ, tm)) (hu : repTm X u p) (hv : repTm X v q) :
    ∃ r, ((if mx then Builtin.max2 u v else Builtin.min2 u v) : Sem Value).run P w = .ok r w ∧ repTm X r tm := by
  unfold qMinMax at hq
  split at hq
  · rename_i k m k' n
    cases hq
    obtain rfl := sc_rep hu rfl
    obtain rfl := sc_rep hv rfl
    cases mx
    · exact ⟨_, rfl, ⟨rfl, rfl⟩, rfl⟩
    · exact ⟨_, rfl, ⟨rfl, rfl⟩, rfl⟩
  · cases hq
end

section
variable {C : Cfg} {Z : Nat → Prop} {β : Nat → Option (Nat × Nat)} {w : World} {bs : List Box} {a : Act} {env : List Tm}

theorem qUn_run {X : Cx} {P : Program} {op : UnOp} {x : Tm} {φ : Prop} {tm : Tm} {v : Value} (hq : qUn op x = some (φ, tm)) (hv : repTm X v x) : ∃ r, (Op.unary op v).run P w = .ok r w ∧ repTm X r tm := by
  unfold qUn at hq
  split at hq
  · cases hq; obtain rfl := sc_rep hv rfl; exact ⟨_, rfl, ⟨rfl, rfl⟩, rfl⟩
  · cases hq; obtain rfl := sc_rep hv rfl; exact ⟨_, rfl, ⟨rfl, rfl⟩, rfl⟩
  · cases hq; obtain rfl := sc_rep hv rfl; exact ⟨_, rfl, ⟨rfl, rfl⟩, rfl⟩
  · cases hq

theorem qOp_run (hC : COk C) (h : RelB C.E C.G Z β w bs) (hr : RelE (mkX C.E Z β w bs) a.tmps env) {o : Oper} {d : OD} {φ : Prop} {tm : Tm} (hq : qOp C.E C.L env bs o.op d = some (φ, tm)) (hφ : φ) :
    ∃ u, (execOp a.eval o).run C.P w = .ok (.value u) w ∧ repTm (mkX C.E Z β w bs) u tm := by
  have ev : ∀ x, repTm (mkX C.E Z β w bs) (a.eval x) (evalO C.E env x) := fun x => evalO_rep hr x
  unfold execOp
  unfold qOp at hq
  split at hq
  · rename_i fn first captured ho
    rw [ho]
    unfold qFunc at hq
    split at hq
    rotate_left
    · cases hq
    obtain ⟨hb, hq⟩ := cond_some hq
    split at hq
    · rename_i sh ps hp
      cases hq
      obtain ⟨cs, h1, h2⟩ := partsC_rep hr hp
      have ef : first = #[] := by apply Array.ext'; simpa using hb
      refine ⟨_, ok_value rfl, cs, ?_, h1⟩
      have e3 : captured.map a.eval = (captured.toList.map a.eval).toArray := by apply Array.ext'; simp
      rw [h2, ef, e3]
      simp
    · cases hq
  · rename_i x ho; rw [ho]; cases hq; exact ⟨_, rfl, ev x⟩
  · rename_i x ho; rw [ho]; cases hq; exact ⟨_, rfl, ev x⟩
  · rename_i c x y ho
    rw [ho]
    split at hq
    · rename_i p q hc
      cases hq
      have h1 := ev c
      rw [hc] at h1
      have h2 := sc_rep h1 rfl
      subst hφ
      refine ⟨if p then a.eval x else a.eval y, by simp [h2, asBool], ?_⟩
      cases p
      · exact ev y
      · exact ev x
    · cases hq
  · rename_i t parts ho
    rw [ho]
    split at hq
    · obtain ⟨u, h1, h2⟩ := qBuildA_run hC rfl hq hr (w := w)
      exact ⟨u, ok_value h1, h2⟩
    · obtain ⟨u, h1, h2⟩ := qBuildS_run hC rfl hq hr (w := w)
      exact ⟨u, ok_value h1, h2⟩
  · rename_i t x ho
    rw [ho]
    obtain ⟨hal, hq⟩ := cond_some hq
    obtain ⟨u, h1, h2⟩ := qLoad_run hC h hq hφ (ev x)
    exact ⟨u, ok_value h1, h2⟩
  · rename_i x ho
    rw [ho]
    have h1 := ev x
    split at hq
    · rename_i id of hx
      obtain ⟨hal, hq⟩ := cond_some hq
      cases hq
      rw [hx] at h1
      obtain ⟨_, b, z, hb, e⟩ := ptr_rep h1 hal
      refine ⟨a.eval x, ?_, h1⟩
      simp only [e]; rfl
    · rename_i t y s hx
      cases hq
      rw [hx] at h1
      obtain ⟨⟨p, ds, e, _⟩, _⟩ := id h1
      refine ⟨a.eval x, ?_, h1⟩
      simp only [e]; rfl
    · rename_i t i hx
      cases hq
      rw [hx] at h1
      obtain ⟨⟨_, q, e, _⟩, _⟩ := id h1
      refine ⟨a.eval x, ?_, h1⟩
      simp only [e]; rfl
    · cases hq
  · rename_i op t x y t2 ho
    rw [ho]
    obtain ⟨u, h1, h2⟩ := qBin_run hC h hq hφ (ev x) (ev y)
    exact ⟨u, ok_value h1, h2⟩
  · rename_i op t x ho
    rw [ho]
    obtain ⟨u, h1, h2⟩ := qUn_run hq (ev x) (w := w) (P := C.P)
    exact ⟨u, ok_value h1, h2⟩
  · rename_i s t x ho
    rw [ho]
    obtain ⟨u, h1, h2⟩ := qConvert_run hC h hq hφ (ev x)
    exact ⟨u, ok_value h1, h2⟩
  · rename_i t x ho
    rw [ho]
    split at hq
    · rename_i n1 n2 n3 k n4 n5 n hl hx
      have h1 := ev x
      rw [hx] at h1
      have h2 := sc_rep h1 rfl
      obtain ⟨dd, hdu, hds⟩ := (hC.at hl).under
      have : dd = .int k := by cases dd <;> simp_all [skel]
      subst this
      cases hb : Nat.beq t C.E with
      | true =>
        rw [hb] at hq
        cases hq
        refine ⟨.iface t (.int .i64 n), ok_value ?_, by rw [beq_eq hb]; rfl, rfl⟩
        simp [Instr.makeInterface, run_underlying hdu, h2]
      | false =>
        rw [hb] at hq
        cases hq
        refine ⟨.iface t (.int .i64 n), ok_value ?_, ⟨rfl, rfl⟩, rfl⟩
        simp [Instr.makeInterface, run_underlying hdu, h2]
    · rename_i hl hx
      split at hq
      · rename_i z hz
        cases hq
        obtain ⟨dd, hdu, hds⟩ := (hC.at hl).under
        obtain ⟨q, rfl⟩ : ∃ q, dd = .pointer q := by cases dd <;> simp_all [skel]
        have h1 := ev x
        rw [hx] at h1
        refine ⟨.iface t (a.eval x), ok_value ?_, ifc_rep rfl hz h1.1, rfl⟩
        simp [Instr.makeInterface, run_underlying hdu]
      · cases hq
    · rename_i hl hx
      split at hq
      · rename_i l hl2
        cases hq
        obtain ⟨dd, hdu, hds⟩ := (hC.at hl).under
        obtain ⟨q, rfl⟩ : ∃ q, dd = .struct q := by cases dd <;> simp_all [skel]
        have h1 := ev x
        rw [hx] at h1
        obtain ⟨cs, e, h2⟩ := h1
        obtain rfl := scs_rep hl2 h2
        refine ⟨.iface t (.agg cs.toArray), ok_value ?_, ⟨rfl, rfl⟩, rfl⟩
        simp [Instr.makeInterface, run_underlying hdu, e]
      · cases hq
    · cases hq
  · rename_i x xT t ok ho
    rw [ho]
    split at hq
    · rename_i fs u cs hl hx
      obtain ⟨hb, hq⟩ := cond_some hq
      cases hq
      rw [Bool.and_eq_true] at hb
      obtain ⟨dd, hdu, hds⟩ := (hC.at hl).under
      obtain ⟨q, rfl⟩ : ∃ q, dd = .struct q := by cases dd <;> simp_all [skel]
      have h1 := ev x
      rw [hx] at h1
      have h2 := sc_rep h1 rfl
      refine ⟨.tuple #[.agg cs, .bool true], ok_value ?_, [.agg cs, .bool true], rfl, .agg cs, [.bool true], rfl, ⟨cs.toList, by simp, scs_back hb.2⟩, .bool true, [], rfl, ⟨⟨rfl, rfl⟩, rfl⟩, rfl⟩
      simp [Instr.typeAssert, run_underlying hdu, h2, beq_eq hb.1]
    · cases hq
  · rename_i t x lo hi mx ho
    rw [ho]
    split at hq
    · rename_i l h' m hlo hhi hmx
      obtain ⟨k1, e1⟩ := optI_rep hr hlo
      obtain ⟨k2, e2⟩ := optI_rep hr hhi
      obtain ⟨k3, e3⟩ := optI_rep hr hmx
      have key : ∀ (hal : ∀ id, Tm.id1 (evalO C.E env x) = some id → bAl bs id = true)
          (hbd : ∀ id b z, Tm.id1 (evalO C.E env x) = some id → β id = some (b, z) → ∀ o, evalO C.E env x = .v (.one (.ptr id o)) → ∀ n e ei, look C.L e = some ei → (look C.L t).map TI.sk = some (.array n e) → o.base + o.sub + n * ei.cells ≤ z)
          (hq : qSlice C.L t (evalO C.E env x) l h' m (sameO hi mx) = some (φ, tm)),
          ∃ u, (do pure (Next.value (← Instr.sliceAt t (a.eval x) (lo.map a.eval) (hi.map a.eval) (mx.map a.eval))) : Sem Next).run C.P w = .ok (.value u) w ∧ repTm (mkX C.E Z β w bs) u tm := by
        intro hal hbd hq
        obtain ⟨u, h1, h2⟩ := qSlice_run hC (k1 := k1) (k2 := k2) (k3 := k3) (w := w) hq hφ (ev x) hal hbd
        rw [e1, e2, e3]
        exact ⟨u, ok_value h1, h2⟩
      split at hq
      · rename_i id of hx
        split at hq
        · rename_i ro ps ty n1 n2 n3 n e n4 n5 hb hl
          split at hq
          · rename_i ei hei
            obtain ⟨hble, hq⟩ := cond_some hq
            refine key (fun id' hid => ?_) (fun id' b z hid hbz o' ho' n' e' ei' hei' hsk => ?_) hq
            · rw [hx] at hid; cases hid; simp [bAl, hb, Box.alive]
            · rw [hx] at ho'
              cases ho'
              rw [hl] at hsk
              cases hsk
              rw [hei] at hei'
              cases hei'
              obtain ⟨b', cs, fr, h1, h2, h3, h4⟩ := h.box id _ hb
              have h1 : β id = some (b', cs.length) := h1
              rw [h1] at hbz
              cases hbz
              rw [repPs_length h4]
              exact Nat.le_of_ble_eq_true hble
          · cases hq
        · cases hq
      · rename_i y hy
        obtain ⟨hal, hq⟩ := cond_some hq
        exact key (fun id hid => okAl_al (X := mkX C.E Z β w bs) rfl hal id hid) (fun id b z hid hbz o' ho' => absurd ho' (hy id o')) hq
    · cases hq
  · rename_i t x f ho
    rw [ho]
    obtain ⟨hal, hq⟩ := cond_some hq
    obtain ⟨u, h1, h2⟩ := qFieldAddr_run hC (w := w) hq (ev x) (fun id o e => by rw [e] at hal; exact hal)
    exact ⟨u, ok_value h1, h2⟩
  · rename_i t x f ho
    rw [ho]
    obtain ⟨u, h1, h2⟩ := qField_run hC (w := w) hq (ev x)
    exact ⟨u, ok_value h1, h2⟩
  · rename_i t x i ho
    rw [ho]
    split at hq
    · rename_i k n hi
      obtain ⟨hal, hq⟩ := cond_some hq
      have h1 := ev i
      rw [hi] at h1
      have h2 := sc_rep h1 rfl
      obtain ⟨u, h3, h4⟩ := qIndexAddr_run hC (k := k) rfl hq hφ (ev x) (fun id hid => okAl_al (X := mkX C.E Z β w bs) rfl hal id hid)
      refine ⟨u, ok_value ?_, h4⟩
      rw [h2]; exact h3
    · cases hq
  · rename_i t x i ho
    rw [ho]
    split at hq
    · rename_i k n hi
      have h1 := ev i
      rw [hi] at h1
      have h2 := sc_rep h1 rfl
      obtain ⟨u, h3, h4⟩ := qIndex_run hC (k := k) (w := w) hq hφ (ev x)
      refine ⟨u, ok_value ?_, h4⟩
      rw [h2]; exact h3
    · cases hq
  · rename_i t x ho
    rw [ho]
    obtain ⟨u, h1, h2⟩ := qArrPtr_run hC (w := w) hq hφ (ev x)
    exact ⟨u, ok_value h1, h2⟩
  · rename_i x i ho
    rw [ho]
    split at hq
    · rename_i xs hx
      split at hq
      · rename_i y hy
        cases hq
        have h1 := ev x
        rw [hx] at h1
        obtain ⟨vs, e, hvs⟩ := h1
        have get : ∀ (xs : List AV) (vs : List Value) (i : Nat) (y : AV), repAVs (mkX C.E Z β w bs) xs vs → xs[i]? = some y → ∃ v, vs[i]? = some v ∧ repAV (mkX C.E Z β w bs) v y := by
          intro xs
          induction xs with
          | nil => intro vs i y _ hy; simp at hy
          | cons x xs ih =>
            rintro vs i y ⟨v, us, e, h1, h2⟩ hy
            cases i with
            | zero => cases hy; exact ⟨v, by rw [e]; rfl, h1⟩
            | succ i =>
              obtain ⟨v', h3, h4⟩ := ih us i y h2 hy
              exact ⟨v', by rw [e]; exact h3, h4⟩
        obtain ⟨v, hv1, hv2⟩ := get xs vs i y hvs hy
        refine ⟨v, ok_value ?_, hv2⟩
        have hv1' : vs.toArray[i]? = some v := by simpa using hv1
        simp [Instr.extract, e, hv1']
      · cases hq
    · cases hq
  · rename_i c ho
    rw [ho]
    unfold qCall at hq
    split at hq
    · rename_i x t hc1 hc2 hc3
      obtain ⟨hal, hq⟩ := cond_some hq
      obtain ⟨u, h1, h2⟩ := qLen_run hC h hq (ev x) hal (ty := o.type)
      refine ⟨u, ?_, h2⟩
      have e2 : c.args.map a.eval = #[a.eval x] := by
        have : c.args = #[x] := by apply Array.ext'; simpa using hc2
        rw [this]; simp
      have e3 : c.argTypes = #[t] := by apply Array.ext'; simpa using hc3
      simp only [resolve, hc1, e2, e3, Sem.run_bind, Sem.run_pure, Result.andThen_ok, invoke, builtin, h1]
    · rename_i x t hc1 hc2 hc3
      obtain ⟨u, h1, h2⟩ := qCap_run hC (w := w) hq (ev x) (ty := o.type)
      refine ⟨u, ?_, h2⟩
      have e2 : c.args.map a.eval = #[a.eval x] := by
        have : c.args = #[x] := by apply Array.ext'; simpa using hc2
        rw [this]; simp
      have e3 : c.argTypes = #[t] := by apply Array.ext'; simpa using hc3
      simp only [resolve, hc1, e2, e3, Sem.run_bind, Sem.run_pure, Result.andThen_ok, invoke, builtin, h1]
    · rename_i x y hc1 hc2
      obtain ⟨u, h1, h2⟩ := qMinMax_run hq (ev x) (ev y) (P := C.P) (w := w)
      refine ⟨u, ?_, h2⟩
      have e2 : c.args.map a.eval = #[a.eval x, a.eval y] := by
        have : c.args = #[x, y] := by apply Array.ext'; simpa using hc2
        rw [this]; simp
      simp only [resolve, hc1, e2, Sem.run_bind, Sem.run_pure, Result.andThen_ok, invoke, builtin, Builtin.min_]
      have h1' : (Builtin.min2 (a.eval x) (a.eval y)).run C.P w = .ok u w := h1
      simp [h1']
    · rename_i x y hc1 hc2
      obtain ⟨u, h1, h2⟩ := qMinMax_run hq (ev x) (ev y) (P := C.P) (w := w)
      refine ⟨u, ?_, h2⟩
      have e2 : c.args.map a.eval = #[a.eval x, a.eval y] := by
        have : c.args = #[x, y] := by apply Array.ext'; simpa using hc2
        rw [this]; simp
      simp only [resolve, hc1, e2, Sem.run_bind, Sem.run_pure, Result.andThen_ok, invoke, builtin, Builtin.max_]
      have h1' : (Builtin.max2 (a.eval x) (a.eval y)).run C.P w = .ok u w := h1
      simp [h1']
    · cases hq
  · cases hq
end

end Go.Proofs.YtllannmegnklmaaE
