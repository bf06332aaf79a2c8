/- Storing, appending, copying. -/
import Derived.Test.YtllannmegnklmaaE8
import Derived.Laws.IdiomStrings
set_option linter.unusedVariables false
set_option linter.unusedSimpArgs false
set_option linter.unnecessarySimpa false
namespace Go.Proofs.YtllannmegnklmaaE
open Go

def bytesOf (s : ByteArray) : List Int := s.data.toList.map fun b => (b.toNat : Int)

/-- A box with other contents. -/
def reBox (bs : List Box) (id : Nat) (f : List Piece → Option (Prop × List Piece)) : Option (Prop × List Box) := match bs[id]? with
  | some (.ex false ps ty) => (match f ps with | some (φ, ps') => some (φ, bs.set id (.ex false ps' ty)) | none => none)
  | some (.gro false t l ty) => (match f [.row l.length t l] with | some (φ, [.row _ t' l']) => some (φ, bs.set id (.gro false t' l' ty)) | _ => none)
  | some (.fix false t l ty) => (match f [.row l.length t l] with | some (φ, [.row _ t' l']) => some (φ, bs.set id (.fix false t' l' ty)) | _ => none)
  | _ => none

section
variable {C : Cfg} {m : Nat} {Z : Nat → Prop} {β : Nat → Option (Nat × Nat)} {w : World} {bs : List Box} {a : Act} {env : List Tm}

theorem Done.skip (hr : RelE (mkX C.E Z β w bs) a.tmps env) {bs' : List Box} {w' : World} (h2 : (mkX C.E Z β w bs).le (mkX C.E Z β w' bs')) (h3 : ∀ j, (mkX C.E Z β w bs).okAt (mkX C.E Z β w' bs') j) (h4 : RelB C.E C.G Z β w' bs') (h5 : Ext m Z β bs w Z β bs' w')
    {φ : Prop} {n : Next} {v : Value} {tm : Tm} (hn : n = .value v ∨ (n = .skip ∧ v = undef)) (hv : repTm (mkX C.E Z β w' bs') v tm) {res : Result Next} (hres : res = .ok n w') : Done C m Z β w bs a ⟨φ, tm, env, bs'⟩ res :=
  ⟨n, v, w', β, hres, hn, hv, hr.step h2 fun tm _ j _ => h3 j, h4, h5⟩

/-- Storing a run of cells into a box. -/
theorem store_box (h : RelB C.E C.G Z β w bs) {id b z o : Nat} (hb : β id = some (b, z)) {f : List Piece → Option (Prop × List Piece)} {φ : Prop} {bs' : List Box} (hq : reBox bs id f = some (φ, bs')) (hφ : φ) {ns : List Value} (h1 : ∀ v ∈ ns, v.oneCell' = true)
    (hf : ∀ ps φ ps' cs, f ps = some (φ, ps') → φ → repPs (mkX C.E Z β w bs) ps cs → ∃ c1 c2 c3, cs = c1 ++ (c2 ++ c3) ∧ c1.length = o ∧ c2.length = ns.length ∧ repPs (mkX C.E Z β w bs) ps' (c1 ++ (ns ++ c3))) :
    ∃ w', (storeCells ⟨b, o, none⟩ ns).run C.P w = .ok () w' ∧ RelB C.E C.G Z β w' bs' ∧ (mkX C.E Z β w bs).le (mkX C.E Z β w' bs') ∧ (∀ j, (mkX C.E Z β w bs).okAt (mkX C.E Z β w' bs') j) ∧ Ext m Z β bs w Z β bs' w' := by
  -- one box, its cells, its pieces before and behind
  have go : ∀ (bx bx' : Box) (cs c0 : List Value) (ps ps' : List Piece) (φ' : Prop) (ty : TypeId) (fr : Nat × Nat), bs[id]? = some bx → bx.rw = true → bx'.alive = true → bx'.rw = true → (bx'.isEx = true → bx.isEx = true) →
      β id = some (b, (cs ++ c0).length) → w.heap[b]? = some (.cells (cs ++ c0).toArray ty fr) → thaw fr (cs ++ c0).length → repPs (mkX C.E Z β w bs) ps cs → f ps = some (φ', ps') → φ' → bs' = bs.set id bx' →
      (∀ (X : Cx) (cs' : List Value), repPs X ps' cs' → X.β id = some (b, (cs' ++ c0).length) → X.w.heap[b]? = some (.cells (cs' ++ c0).toArray ty fr) → thaw fr (cs' ++ c0).length → repBox X id bx') →
      ∃ w', (storeCells ⟨b, o, none⟩ ns).run C.P w = .ok () w' ∧ RelB C.E C.G Z β w' bs' ∧ (mkX C.E Z β w bs).le (mkX C.E Z β w' bs') ∧ (∀ j, (mkX C.E Z β w bs).okAt (mkX C.E Z β w' bs') j) ∧ Ext m Z β bs w Z β bs' w' := by
    intro bx bx' cs c0 ps ps' φ' ty fr hbx hrw hal' hrw' hex hβ hheap hth hps hfp hφ' hbs' hnew
    obtain ⟨c1, c2, c3, e, hl1, hl2, hps'⟩ := hf ps φ' ps' cs hfp hφ' hps
    have hheap2 := hheap
    rw [e, List.append_assoc, List.append_assoc] at hheap2
    have hth2 := hth
    rw [e, List.append_assoc, List.append_assoc] at hth2
    have hrun := run_storeCells_list C.P (vs := ns) hheap2 hth2 hl1 hl2.symm h1
    have hlen : (c1 ++ (ns ++ (c3 ++ c0))).length = (cs ++ c0).length := by rw [e]; simp only [List.length_append]; omega
    generalize hw' : w.setRow b (c1 ++ (ns ++ (c3 ++ c0))).toArray = w' at hrun
    have hself : w'.heap[b]? = some (.cells (c1 ++ (ns ++ (c3 ++ c0))).toArray ty fr) := by rw [← hw']; exact setRow_heap w b _ _ ty fr hheap
    have hoth : ∀ k, k ≠ b → w'.heap[k]? = w.heap[k]? := fun k hk => by rw [← hw']; exact setRow_other w b k _ hk
    have hsz : w'.heap.size = w.heap.size := by rw [← hw']; exact setRow_size w b _
    subst hbs'
    -- what the new pieces are in the new world
    have hil : id < bs.length := (List.getElem?_eq_some_iff.1 hbx).1
    have hRw : bRw bs id = true := by simp [bRw, hbx, hrw]
    have hle0 : (mkX C.E Z β w bs).le (mkX C.E Z β w' (bs.set id bx')) := ⟨rfl, fun _ h => h, fun k hk => hoth k (fun e => by subst e; exact h.zrw k hk id _ hRw hβ)⟩
    have hAl : ∀ j, bAl (bs.set id bx') j = bAl bs j := fun j => by
      unfold bAl
      rw [List.getElem?_set]
      by_cases e : id = j
      · subst e; rw [if_pos rfl, if_pos hil, hbx]; simp [hal', rw_alive hrw]
      · simp [e]
    have hok0 : ∀ j, (mkX C.E Z β w bs).okAt (mkX C.E Z β w' (bs.set id bx')) j := fun j hj => ⟨by simpa [mkX] using hj, fun ha => ⟨by simpa [mkX, hAl] using ha, rfl⟩⟩
    have hps2 := repPs_le hle0 (fun i _ => hok0 i) hps'
    obtain ⟨g1, g2, g3⟩ := h.set (bx' := bx') hbx hrw hal' hrw' hβ hsz hoth (hnew _ (c1 ++ (ns ++ c3)) hps2 (by rw [show ((c1 ++ (ns ++ c3)) ++ c0) = c1 ++ (ns ++ (c3 ++ c0)) by simp [List.append_assoc], hlen]; exact hβ)
      (by rw [show ((c1 ++ (ns ++ c3)) ++ c0) = c1 ++ (ns ++ (c3 ++ c0)) by simp [List.append_assoc]]; exact hself) (by rw [show ((c1 ++ (ns ++ c3)) ++ c0) = c1 ++ (ns ++ (c3 ++ c0)) by simp [List.append_assoc], hlen]; exact hth))
    refine ⟨w', hrun, g1, g2, g3, Ext.set hbx hrw hex hβ (by rw [← hw']; rfl) (by rw [← hw']; rfl) (by rw [← hw']; rfl) hsz hoth fun j hj => ?_⟩
    unfold bRw at hj ⊢
    rw [List.getElem?_set] at hj
    by_cases e : id = j
    · subst e; rw [hbx]; simpa using hrw
    · simpa [e] using hj
  unfold reBox at hq
  split at hq
  · rename_i ps ty hbx
    split at hq
    · rename_i φ' ps' hfp
      cases hq
      obtain ⟨b', cs, fr, h2, h3, h4, h5⟩ := h.box id _ hbx
      have h2 : β id = some (b', cs.length) := h2
      rw [hb] at h2
      cases h2
      refine go _ (.ex false ps' ty) cs [] ps ps' φ ty fr hbx rfl rfl rfl (fun _ => rfl) (by simpa using hb) (by rw [List.append_nil]; exact h3) (by simpa using h4) h5 hfp hφ rfl ?_
      intro X cs' hp hβ' hh hth
      rw [List.append_nil] at hβ' hh hth
      exact ⟨b, cs', fr, hβ', hh, hth, hp⟩
    · cases hq
  · rename_i t l ty hbx
    split at hq
    · rename_i φ' n' t' l' hfp
      cases hq
      rcases h.box id _ hbx with ⟨h2, _⟩ | ⟨b', cs, fr, c1, c2, h2, h3, h4, h5, h6, h7⟩
      · have h2 : β id = none := h2
        rw [hb] at h2; cases h2
      · have h2 : β id = some (b', cs.length) := h2
        rw [hb] at h2
        cases h2
        subst h5
        refine go _ (.gro false t' l' ty) c1 c2 [.row l.length t l] _ φ ty fr hbx rfl rfl rfl (fun e => by cases e) hb h3 h4 ⟨c1, [], by simp, ⟨rfl, h6⟩, rfl⟩ hfp hφ rfl ?_
        intro X cs' hp hβ' hh hth
        obtain ⟨d1, d2, e, ⟨_, hr⟩, e2⟩ := hp
        rw [show d2 = [] from e2, List.append_nil] at e
        subst e
        exact .inr ⟨b, cs' ++ c2, fr, cs', c2, hβ', hh, hth, rfl, hr, fun v hv => by
          rcases List.mem_append.1 hv with hv | hv
          · exact rowOf_one l' cs' hr v hv
          · exact h7 v (by simp [hv])⟩
    · cases hq
  · rename_i t l ty hbx
    split at hq
    · rename_i φ' n' t' l' hfp
      cases hq
      rcases h.box id _ hbx with ⟨h2, _⟩ | ⟨b', cs, fr, c1, c2, h2, h3, h4, h5, h6, h7⟩
      · have h2 : β id = none := h2
        rw [hb] at h2; cases h2
      · have h2 : β id = some (b', cs.length) := h2
        rw [hb] at h2
        cases h2
        subst h5
        refine go _ (.fix false t' l' ty) c1 c2 [.row l.length t l] _ φ ty fr hbx rfl rfl rfl (fun _ => rfl) hb h3 h4 ⟨c1, [], by simp, ⟨rfl, h6⟩, rfl⟩ hfp hφ rfl ?_
        intro X cs' hp hβ' hh hth
        obtain ⟨d1, d2, e, ⟨_, hr⟩, e2⟩ := hp
        rw [show d2 = [] from e2, List.append_nil] at e
        subst e
        exact .inr ⟨b, cs' ++ c2, fr, cs', c2, hβ', hh, hth, rfl, hr, fun v hv => by
          rcases List.mem_append.1 hv with hv | hv
          · exact rowOf_one l' cs' hr v hv
          · exact h7 v (by simp [hv])⟩
    · cases hq
  · cases hq

def lStore (E : TypeId) (L : List (Nat × TI)) (env : List Tm) (bs : List Box) (t : TypeId) (p x : Operand) : Option Out := match look L t, evalO E env p, evalO E env x with
  | some ti, .v (.one (.ptr id o)), .v y => bif y.data && Nat.beq (psize y.ps) ti.cells then (match reBox bs id (fun ps => writeAt ps o ti.cells y.ps) with
    | some (φ, bs') => some ⟨φ, .any, env, bs'⟩
    | none => none) else none
  | _, _, _ => none

theorem lStore_run (hC : COk C) (h : RelB C.E C.G Z β w bs) (hr : RelE (mkX C.E Z β w bs) a.tmps env) {t : TypeId} {p x : Operand} {r : Out} (hq : lStore C.E C.L env bs t p x = some r) (hφ : r.φ) :
    Done C m Z β w bs a r ((do Instr.storeAt t (a.eval p) (a.eval x); pure .skip : Sem Next).run C.P w) := by
  unfold lStore at hq
  split at hq
  · rename_i ti id o y hti hp hx
    obtain ⟨hz, hq⟩ := cond_some hq
    rw [Bool.and_eq_true] at hz
    obtain ⟨hd, hz⟩ := hz
    have hz := beq_eq hz
    split at hq
    · rename_i φ bs' hre
      cases hq
      have h1 : repTm (mkX C.E Z β w bs) (a.eval p) (evalO C.E env p) := evalO_rep hr p
      have h2 : repTm (mkX C.E Z β w bs) (a.eval x) (evalO C.E env x) := evalO_rep hr x
      rw [hp] at h1
      rw [hx] at h2
      have hcells := repAV_cells hd h2
      have hal : bAl bs id = true := by
        unfold reBox at hre
        split at hre
        · rename_i hb; simp [bAl, hb, Box.alive]
        · rename_i hb; simp [bAl, hb, Box.alive]
        · rename_i hb; simp [bAl, hb, Box.alive]
        · cases hre
      obtain ⟨_, b, z, hb, he⟩ := ptr_rep h1 hal
      obtain ⟨w', hrun, g1, g2, g3, g4⟩ := store_box (m := m) h hb hre hφ (ns := (a.eval x).cells.toList) (o := o.val) (repPs_one hcells) (fun ps φ ps' cs hw hφ' hrp => by
        have hlen := (repPs_length hcells).trans hz
        obtain ⟨c1, c2, c3, e, e1, e2, e3⟩ := writeAt_rep hw hφ' hrp hcells hlen
        exact ⟨c1, c2, c3, e, e1, by rw [e2, hlen], e3⟩)
      refine Done.skip hr g2 g3 g1 g4 (tm := .any) (.inr ⟨rfl, rfl⟩) trivial ?_
      have hlen := (repPs_length hcells).trans hz
      rw [Array.length_toList] at hlen
      simp only [he, Instr.storeAt, Instr.sureAddr, storeVar, Sem.run_bind, Sem.run_pure, Result.andThen_ok, (hC.at hti).size w, hlen, ne_eq, not_true_eq_false, if_false, hrun]
    · cases hq
  · cases hq

/-! ### A row of its own that grows -/
def Tm.kill (id : Nat) (t : Tm) : Tm := bif t.ids.any (Nat.beq id) then .any else t
def noRef (id : Nat) (bs : List Box) : Bool := bs.all fun b => !(b.ids.any (Nat.beq id))

theorem any_beq {l : List Nat} {id : Nat} (h : l.any (Nat.beq id) = false) : ∀ j, j ∈ l → j ≠ id := by
  intro j hj e
  subst e
  rw [List.any_eq_false] at h
  exact h j hj (Nat.beq_refl j)

theorem RelE.kill {X Y : Cx} {tmps : Array Value} (h : RelE X tmps env) (hle : X.le Y) (id : Nat) (hi : ∀ j, j ≠ id → X.okAt Y j) : RelE Y tmps (env.map (Tm.kill id)) := by
  refine ⟨by rw [List.length_map]; exact h.1, fun i v tm h1 h2 => ?_⟩
  rw [List.getElem?_map] at h2
  cases hq : env[i]? with
  | none => rw [hq] at h2; cases h2
  | some t =>
    rw [hq] at h2
    cases h2
    unfold Tm.kill
    cases hb : t.ids.any (Nat.beq id) with
    | true => trivial
    | false => exact repTm_le hle (fun j hj => hi j (any_beq hb j hj)) (h.2 i v t h1 hq)

/-- What is appended: so many elements, their cells. -/
def IsSrc (P : Program) (w : World) (size : Nat) (x : Value) (n : Nat) (news : List Value) : Prop :=
  news.length = n * size ∧ (∀ w1, (Builtin.lenOf x).run P w1 = .ok n w1) ∧ (∀ w1 : World, w1.heap = w.heap → (Builtin.firstCells size n x).run P w1 = .ok news.toArray w1) ∧
  ∀ k, k ≤ n → ∀ w1 : World, w1.heap = w.heap → (Builtin.firstCells size k x).run P w1 = .ok (news.take (k * size)).toArray w1

theorem IsView.src {X : Cx} {t : Ty} {l : List t.T} {v : Value} (h : IsView X t l v) : ∃ news, IsSrc C.P X.w t.size v l.length news ∧ rowOf (repT X t) l news := by
  obtain ⟨b, n, c, rfl, hl, hc, hr⟩ := h
  cases n with
  | zero =>
    have : l = [] := List.eq_nil_of_length_eq_zero hl
    subst this
    have key : ∀ w1, (Builtin.firstCells t.size 0 (.slice b 0 c)).run C.P w1 = .ok #[] w1 := fun w1 => by
      cases b with
      | none => rfl
      | some b => simp [Builtin.firstCells, loadCells, loadCellsFrom]
    exact ⟨[], ⟨by simp, fun w1 => rfl, fun w1 _ => key w1, fun k hk w1 _ => by
      obtain rfl : k = 0 := by simpa using hk
      simpa using key w1⟩, rfl⟩
  | succ n =>
    obtain ⟨p, ds, rfl, hsp, hrow, hcell⟩ := hr (Nat.succ_pos n)
    have hlen : ds.length = l.length * t.size := rowOf_length (fun x ds => repT_length X t x ds) l ds hrow
    refine ⟨ds, ⟨hlen, fun w1 => by rw [hl]; rfl, fun w1 hw1 => ?_, fun k hk w1 hw1 => ?_⟩, hrow⟩
    · refine run_firstCells_some w1 t.size l.length p (n + 1) c ds hlen fun j v hj => ?_
      rw [cell_of_heap (w := X.w) (by rw [hw1])]
      exact hcell j v hj
    · refine run_firstCells_some w1 t.size k p (n + 1) c _ (by rw [List.length_take, hlen]; exact Nat.min_eq_left (Nat.mul_le_mul_right _ hk)) fun j v hj => ?_
      rw [cell_of_heap (w := X.w) (by rw [hw1])]
      rw [List.getElem?_take] at hj
      split at hj
      · exact hcell j v hj
      · cases hj

theorem src_string (s : ByteArray) : IsSrc C.P w 1 (.string s) s.size ((bytesOf s).map (Value.int .u8)) := by
  refine ⟨by rw [List.length_map]; unfold bytesOf; rw [List.length_map, Array.length_toList, Nat.mul_one]; rfl, fun w1 => rfl, fun w1 _ => ?_, fun k hk w1 _ => ?_⟩
  · have hx : s.extract 0 s.size = s := by simp
    simp only [Builtin.firstCells, hx]
    show Result.ok _ w1 = Result.ok _ w1
    congr 1
    apply Array.ext'
    simp [bytesOf]
  · have hx : (s.extract 0 k).data = s.data.extract 0 k := by simp
    simp only [Builtin.firstCells, hx]
    show Result.ok _ w1 = Result.ok _ w1
    congr 1
    apply Array.ext'
    simp [bytesOf, List.map_take, Function.comp_def]

theorem rowOf_bytes {X : Cx} : ∀ (l : List Int), rowOf (repT X (.int .u8)) l (l.map (Value.int .u8))
  | [] => rfl
  | x :: xs => ⟨[_], _, rfl, rfl, rowOf_bytes xs⟩

/-- The appending itself, where it fits. -/
theorem run_append_in {P : Program} {sT xT ty e : TypeId} {i : TypeInfo} {dx : TypeDesc} (hs : P.underlying sT = some (.slice e)) (hx : P.underlying xT = some dx) (hdx : ∀ k, dx ≠ .int k) (hi : P.info? e = some i)
    {base : Option Addr} {sLen sCap n : Nat} {x : Value} {news : List Value} (hsrc : IsSrc P w i.size x n news) (hfit : sLen + n ≤ sCap) :
    (Builtin.append_ #[sT, xT] ty #[.slice base sLen sCap, x]).run P w = ((match base with | some b => (storeCells (b.add (sLen * i.size)) news).run P w | none => .ok () w) : Result Unit).andThen fun _ w' => .ok (.slice base (sLen + n) sCap) w' := by
  obtain ⟨h1, h2, h3, _⟩ := hsrc
  have hz : (match dx with | .int _ => true | _ => false) = false := by cases dx <;> first | rfl | exact absurd rfl (hdx _)
  unfold Builtin.append_
  simp only [List.getElem?_toArray, Sem.run_bind]
  simp [run_underlying hs, run_underlying hx, hz, sizeOf, typeInfo, hi, h2, h3 w rfl, hfit]
  cases base <;> simp

theorem run_append_out {P : Program} {sT xT ty e : TypeId} {i : TypeInfo} {z : Value} {dx : TypeDesc} (hs : P.underlying sT = some (.slice e)) (hx : P.underlying xT = some dx) (hdx : ∀ k, dx ≠ .int k) (hi : P.info? e = some i) (hz : i.zero = some z)
    {base : Option Addr} {sLen sCap n : Nat} {x : Value} {olds news : List Value} (hsrc : IsSrc P w i.size x n news) (hold : ∀ w1 : World, w1.heap = w.heap → (Builtin.firstCells i.size sLen (.slice base sLen sCap)).run P w1 = .ok olds.toArray w1) (hfit : sCap < sLen + n) (h63 : sLen + n ≤ 9223372036854775807) (h48 : (sLen + n) * i.bytes ≤ 140737488355328) :
    (Builtin.append_ #[sT, xT] ty #[.slice base sLen sCap, x]).run P w =
      .ok (.slice (some ⟨w.heap.size, 0, none⟩) (sLen + n) (grownCap w (sLen + n) sCap e)) (w.drew.alloc (.cells (olds.toArray ++ news.toArray ++ Builtin.zeroCells z.cells (grownCap w (sLen + n) sCap e - (sLen + n))) e)) := by
  obtain ⟨h1, h2, h3, _⟩ := hsrc
  have hzz : (match dx with | .int _ => true | _ => false) = false := by cases dx <;> first | rfl | exact absurd rfl (hdx _)
  have hn : ¬ (sLen + n ≤ sCap) := by omega
  have h63' : ¬ (9223372036854775807 < ((sLen : Int) + (n : Int))) := by omega
  have h48' : ¬ (281474976710656 < Builtin.nextslicecap (sLen + n) sCap * i.bytes) := by have := growslice_fits hfit h48; omega
  unfold Builtin.append_
  simp only [List.getElem?_toArray, Sem.run_bind]
  simp [run_underlying hs, run_underlying hx, hzz, sizeOf, typeInfo, zeroValue, hi, hz, h2, hn, h63', h48', Question.forced, h3 w.drew rfl, hold w.drew rfl, newRow, grownCap]
  congr 2
  apply Array.ext'
  simp [List.append_assoc]
end

/-- The elements that are appended, or copied: of a slice, or a string's bytes. -/
def srcS (E : TypeId) (env : List Tm) (bs : List Box) (u : Ty) (full : Bool) (x : Operand) : Option (Prop × List u.T) := match evalO E env x with
  | .v (.one (.sc (.string s))) => (match Ty.eq? (.int .u8) u with | some h => some (True, castL h.down (bytesOf s)) | none => none)
  | y => viewS u bs full y

/-- Is the second argument's type one of what is appended? -/
def srcT (L : List (Nat × TI)) (t : TypeId) : Bool := match look L t with
  | some ⟨_, _, _, .slice _, _, _⟩ => true
  | some ⟨_, _, _, .str, _, _⟩ => true
  | _ => false

inductive AD where
  | gro (full : Bool) | fresh (full : Bool)

def lAppend (E : TypeId) (L : List (Nat × TI)) (env : List Tm) (bs : List Box) (full : Bool) (sT xT : TypeId) (s x : Operand) : Option Out := match look L sT with
  | some ⟨_, _, _, .slice e, _, _⟩ => match look L e with
    | some ei => match ei.ty with
      | some u => bif srcT L xT && Nat.beq u.size ei.cells then (match srcS E env bs u full x, zeroT ei u with
        | some (φ, ys), some _ => (match evalO E env s with
          | .v (.one (.sc (.slice none 0 0))) => some ⟨φ ∧ ys.length * ei.bytes ≤ 140737488355328 ∧ ys.length ≤ 9223372036854775807, .v (.one (.os bs.length 0 0 u.size ys.length none)), env, bs ++ [.gro false u ys e]⟩
          | .v (.one (.os id base lo esz len cap)) => (match bs[id]? with
            | some (.gro false t l ty) => (match Ty.eq? t u with
              | some h => bif Nat.beq base 0 && Nat.beq esz u.size && noRef id bs && Nat.beq ty e then
                  some ⟨φ ∧ lo = 0 ∧ len = l.length ∧ (l.length + ys.length) * ei.bytes ≤ 140737488355328 ∧ l.length + ys.length ≤ 9223372036854775807,
                    .v (.one (.os id 0 0 u.size (castL h.down l ++ ys).length none)), env.map (Tm.kill id), bs.set id (.gro false u (castL h.down l ++ ys) ty)⟩ else none
              | none => none)
            | _ => none)
          | .v (.one (.fs t l true)) => (match Ty.eq? t u with
            | some h => some ⟨φ ∧ 0 < ys.length ∧ (l.length + ys.length) * ei.bytes ≤ 140737488355328 ∧ l.length + ys.length ≤ 9223372036854775807,
                .v (.one (.os bs.length 0 0 u.size (castL h.down l ++ ys).length none)), env, bs ++ [.gro false u (castL h.down l ++ ys) e]⟩
            | none => none)
          | _ => none)
        | _, _ => none) else none
      | none => none
    | none => none
  | _ => none

section
variable {C : Cfg} {m : Nat} {Z : Nat → Prop} {β : Nat → Option (Nat × Nat)} {w : World} {bs : List Box} {a : Act} {env : List Tm}

theorem IsSrc.cast {P : Program} {size size' : Nat} (h : size = size') {x : Value} {n : Nat} {news : List Value} (hs : IsSrc P w size x n news) : IsSrc P w size' x n news := by subst h; exact hs

theorem srcS_rep (h : RelB C.E C.G Z β w bs) (hr : RelE (mkX C.E Z β w bs) a.tmps env) {u : Ty} {full : Bool} {x : Operand} {φ : Prop} {ys : List u.T} (hq : srcS C.E env bs u full x = some (φ, ys)) (hφ : φ) :
    ∃ news, IsSrc C.P w u.size (a.eval x) ys.length news ∧ rowOf (repT (mkX C.E Z β w bs) u) ys news := by
  have h1 : repTm (mkX C.E Z β w bs) (a.eval x) (evalO C.E env x) := evalO_rep hr x
  unfold srcS at hq
  split at hq
  · rename_i s hs
    split at hq
    · rename_i hh _
      cases hq
      rw [hs] at h1
      rw [sc_rep h1 rfl]
      obtain ⟨hh⟩ := hh
      subst hh
      refine ⟨_, ?_, rowOf_bytes _⟩
      have := src_string (C := C) (w := w) s
      have e : (castL rfl (bytesOf s) : List (Ty.T (.int .u8))).length = s.size := by
        show (bytesOf s).length = s.size
        unfold bytesOf
        rw [List.length_map, Array.length_toList]
        rfl
      rw [e]
      exact this
    · cases hq
  · obtain ⟨news, h2, h3⟩ := (viewS_rep h hq hφ h1).src (C := C)
    exact ⟨news, h2, h3⟩

theorem srcT_spec (hC : COk C) {t : TypeId} (h : srcT C.L t = true) : ∃ d, C.P.underlying t = some d ∧ ∀ k, d ≠ .int k := by
  unfold srcT at h
  split at h
  · rename_i hl
    obtain ⟨d, hu, hs⟩ := (hC.at hl).under
    exact ⟨d, hu, fun k e => by subst e; cases hs⟩
  · rename_i hl
    obtain ⟨d, hu, hs⟩ := (hC.at hl).under
    exact ⟨d, hu, fun k e => by subst e; cases hs⟩
  · cases h

theorem zeroCells_one {z : Value} {cs : List Value} (hz : z.cells = cs.toArray) (h1 : ∀ v ∈ cs, v.oneCell' = true) (n : Nat) : ∀ v ∈ (Builtin.zeroCells z.cells n).toList, v.oneCell' = true := by
  intro v hv
  rw [hz] at hv
  have e : Builtin.zeroCells cs.toArray n = madeCells cs.toArray (n * cs.length) := by
    unfold Builtin.zeroCells madeCells
    simp
  rw [e, madeCells_flat] at hv
  have hv : v ∈ (List.replicate n cs).flatten := hv
  rw [List.mem_flatten] at hv
  obtain ⟨l, hl, hv⟩ := hv
  rw [(List.mem_replicate.1 hl).2] at hv
  exact h1 v hv

/-- The new row that an append lays. -/
theorem append_new (hC : COk C) (hm : m ≤ bs.length) (h : RelB C.E C.G Z β w bs) (hr : RelE (mkX C.E Z β w bs) a.tmps env) {e ty : TypeId} {ei : TI} (hei : look C.L e = some ei) {i : TypeInfo} (hi : C.P.info? e = some i) {u : Ty} {x0 : u.T} (hz : zeroT ei u = some x0)
    {l ys : List u.T} {olds news : List Value} (hl : rowOf (repT (mkX C.E Z β w bs) u) l olds) (hy : rowOf (repT (mkX C.E Z β w bs) u) ys news) {need cap old : Nat} (hneed : need = l.length + ys.length) (hcap : cap = grownCap w need old e) (h63 : need ≤ 9223372036854775807) {φ : Prop} {res : Result Next} {zv : Value} (hzv : i.zero = some zv)
    (hres : res = .ok (.value (.slice (some ⟨w.heap.size, 0, none⟩) need cap)) (w.drew.alloc (.cells (olds.toArray ++ news.toArray ++ Builtin.zeroCells zv.cells (cap - need)) e))) :
    Done C m Z β w bs a ⟨φ, .v (.one (.os bs.length 0 0 u.size (l ++ ys).length none)), env, bs ++ [.gro false u (l ++ ys) e]⟩ res := by
  obtain ⟨zv', z, hzr, hzc, hzrep, hzl, hus⟩ := zeroT_rep (hC.at hei) hz
  have : zv' = zv := by
    have := hzr w
    simp [zeroValue, typeInfo, hi, hzv] at this
    exact this.symm
  subst this
  have hle : need ≤ cap := by
    rw [hcap]
    unfold grownCap Question.cut
    exact Nat.le_add_right _ _
  have hone := zeroCells_one hzc (repT_one (mkX C.E Z β w bs) u x0 z (hzrep _)) (cap - need)
  have hsz : (Builtin.zeroCells zv'.cells (cap - need)).toList.length = (cap - need) * u.size := by
    rw [hzc]; unfold Builtin.zeroCells; simp [hzl, hus]
  have hlo := rowOf_length (fun x ds => repT_length _ u x ds) l olds hl
  have hln := rowOf_length (fun x ds => repT_length _ u x ds) ys news hy
  generalize hzz : (Builtin.zeroCells zv'.cells (cap - need)).toList = zz at hone hsz
  have hcells : olds.toArray ++ news.toArray ++ Builtin.zeroCells zv'.cells (cap - need) = ((olds ++ news) ++ zz).toArray := by
    apply Array.ext'
    simp [← hzz]
  rw [hcells] at hres
  refine Done.gro hm h hr (t := u) (l := l ++ ys) (c1 := olds ++ news) (c2 := zz) (rowOf_append.2 ⟨olds, news, rfl, hl, hy⟩) hone (w0 := w.drew) ⟨rfl, rfl, rfl, rfl⟩ (fr := (0, 0)) ⟨Nat.le_refl _, fun o _ ho => by omega, fun _ => rfl⟩ hres (fun X h1 h2 h3 => ?_)
  have := os_new (X := X) (n := bs.length) (len := (l ++ ys).length) (c := cap) (esz := u.size) (cap := none) h1 h3 (by rw [List.length_append]; omega) (fun k hk => by cases hk) (by
    rw [List.length_append, List.length_append, hsz, hlo, hln]
    rw [← Nat.add_mul, ← Nat.add_mul]
    exact Nat.mul_le_mul_right _ (by omega))
  rw [show (l ++ ys).length = need by rw [List.length_append, hneed]] at this ⊢
  exact this

/-- Appending so many zeros to nothing. -/
def intT (L : List (Nat × TI)) (t : TypeId) : Bool := match look L t with
  | some ⟨_, _, _, .int _, _, _⟩ => true
  | _ => false
def lAppendN (E : TypeId) (L : List (Nat × TI)) (env : List Tm) (bs : List Box) (sT : TypeId) (s x : Operand) : Option Out := match look L sT with
  | some ⟨_, _, _, .slice e, _, _⟩ => match look L e with
    | some ei => match ei.ty with
      | some u => (match zeroT ei u, evalO E env s, evalO E env x with
        | some x0, .v (.one (.sc (.slice none 0 0))), .v (.one (.sc (.int _ n))) => bif Nat.beq ei.cells 0 then none else
            some ⟨0 ≤ n ∧ n * ei.bytes ≤ 140737488355328 ∧ n ≤ 9223372036854775807, .v (.one (.os bs.length 0 0 u.size n.toNat none)), env, bs ++ [.gro false u (List.replicate n.toNat x0) e]⟩
        | _, _, _ => none)
      | none => none
    | none => none
  | _ => none

theorem run_append_zeros {P : Program} {sT xT ty e : TypeId} {i : TypeInfo} {z : Value} {kx k : IntKind} {w : World} (hs : P.underlying sT = some (.slice e)) (hx : P.underlying xT = some (.int kx)) (hi : P.info? e = some i) (hz : i.zero = some z)
    {n : Nat} (hsz : i.size ≠ 0) (h0 : 0 < n) (h63 : n ≤ 9223372036854775807) (h48 : n * i.bytes ≤ 140737488355328) :
    (Builtin.append_ #[sT, xT] ty #[.slice none 0 0, .int k (n : Int)]).run P w =
      .ok (.slice (some ⟨w.heap.size, 0, none⟩) n (grownCap w n 0 e)) (w.drew.alloc (.cells (Builtin.zeroCells z.cells n ++ Builtin.zeroCells z.cells (grownCap w n 0 e - n)) e)) := by
  have hn : ¬ (n = 0) := by omega
  have hw : IntKind.i64.wrap (n : Int) = n := by
    unfold IntKind.wrap
    have h1 : IntKind.bits .i64 = 64 := rfl
    simp only [h1]
    have e : (2 : Int) ^ 64 = 18446744073709551616 := by decide
    have e2 : (2 : Int) ^ (64 - 1) = 9223372036854775808 := by decide
    simp [IntKind.signed, e2]
    omega
  have h63' : ¬ (9223372036854775807 < (n : Int)) := by omega
  have hle : Builtin.nextslicecap n 0 = n := by unfold Builtin.nextslicecap; rw [if_pos (by omega)]
  have h48' : ¬ (281474976710656 < n * i.bytes) := by omega
  have h48'' : ¬ (281474976710656 < (n : Int) * (i.bytes : Int)) := by
    have h1 : ((n * i.bytes : Nat) : Int) ≤ 140737488355328 := by omega
    rw [Int.natCast_mul] at h1
    omega
  have hneg : ¬ ((n : Int) < 0) := by omega
  have hmul : ¬ (n * i.size = 0) := Nat.mul_ne_zero hn hsz
  unfold Builtin.append_
  simp only [List.getElem?_toArray, Sem.run_bind]
  simp [run_underlying hs, run_underlying hx, sizeOf, typeInfo, zeroValue, hi, hz, asInt, asIntOf, hw, hn, h63', h48', h48'', hneg, hmul, hsz, hle, Question.forced, newRow, grownCap, Builtin.firstCells]

theorem lAppendN_run (hC : COk C) (hm : m ≤ bs.length) (h : RelB C.E C.G Z β w bs) (hr : RelE (mkX C.E Z β w bs) a.tmps env) {sT xT ty : TypeId} {s x : Operand} {r : Out} (hT : intT C.L xT = true) (hq : lAppendN C.E C.L env bs sT s x = some r) (hφ : r.φ) :
    Done C m Z β w bs a r ((do pure (Next.value (← Builtin.append_ #[sT, xT] ty #[a.eval s, a.eval x])) : Sem Next).run C.P w) := by
  obtain ⟨kx, hxu⟩ : ∃ k, C.P.underlying xT = some (.int k) := by
    unfold intT at hT
    split at hT
    · rename_i hl
      obtain ⟨dd, hdu, hds⟩ := (hC.at hl).under
      cases dd <;> simp [skel] at hds
      exact ⟨_, hdu⟩
    · cases hT
  unfold lAppendN at hq
  split at hq
  · rename_i n1 n2 n3 e n4 n5 hl
    obtain ⟨dd, hdu, hds⟩ := (hC.at hl).under
    have : dd = .slice e := by cases dd <;> simp_all [skel]
    subst this
    split at hq
    · rename_i ei hei
      have hE := hC.at hei
      split at hq
      · rename_i u hu
        have hinfo := hE.info
        cases hqi : C.P.info? e with
        | none => simp [hqi] at hinfo
        | some i =>
          simp [hqi] at hinfo
          split at hq
          · rename_i x0 k n hx0 hs hx
            obtain ⟨hb, hq⟩ := cond_none hq
            cases hq
            obtain ⟨p0, p1, p2⟩ := hφ
            obtain ⟨zv, z, hzr, hzc, hzrep, hzl, hus⟩ := zeroT_rep hE hx0
            have hzv : i.zero = some zv := by
              have := hzr w
              cases hz : i.zero with
              | none => simp [zeroValue, typeInfo, hqi, hz] at this
              | some q => simp [zeroValue, typeInfo, hqi, hz] at this; rw [this]
            have h1 : repTm (mkX C.E Z β w bs) (a.eval s) (evalO C.E env s) := evalO_rep hr s
            have h2 : repTm (mkX C.E Z β w bs) (a.eval x) (evalO C.E env x) := evalO_rep hr x
            rw [hs] at h1
            rw [hx] at h2
            rw [sc_rep h1 rfl, sc_rep h2 rfl]
            obtain ⟨N, rfl⟩ : ∃ N : Nat, n = N := ⟨n.toNat, by omega⟩
            have hN : ((N : Int)).toNat = N := by omega
            rw [hN]
            have hsz : i.size ≠ 0 := fun e0 => by
              rw [hinfo.1] at e0
              rw [e0] at hb; cases hb
            by_cases h0 : N = 0
            · subst h0
              refine Done.nil hm h hr rfl (v := .slice none 0 0) (ok_value ?_) (fun X hX => ⟨⟨by omega, fun _ => ⟨none, 0, rfl, Nat.le_refl _, fun k hk => (by cases hk), fun hc => absurd rfl hc⟩⟩, rfl⟩)
              unfold Builtin.append_
              simp only [List.getElem?_toArray, Sem.run_bind]
              have hw : IntKind.i64.wrap (0 : Int) = 0 := by decide
              simp [run_underlying hdu, run_underlying hxu, sizeOf, typeInfo, hqi, asInt, asIntOf, hw]
            · have hp1 : N * i.bytes ≤ 140737488355328 := by
                rw [hinfo.2]
                have h1 : ((N * ei.bytes : Nat) : Int) ≤ 140737488355328 := by
                  rw [Int.natCast_mul]; exact p1
                omega
              have hrun := run_append_zeros (w := w) (ty := ty) (k := k) hdu hxu hqi hzv hsz (n := N) (by omega) (by omega) hp1
              have hrow := replicate_rep (hzrep (mkX C.E Z β w bs)) N
              have hflat : Builtin.zeroCells zv.cells N = ([] : List Value).toArray ++ ((List.replicate N z).flatten).toArray := by
                rw [hzc, ← madeCells_flat]
                unfold Builtin.zeroCells madeCells
                simp
              rw [hflat] at hrun
              have hd := append_new hC hm h hr (ty := ty) (φ := True) hei hqi hx0 (l := []) (ys := List.replicate N x0) (olds := []) (news := (List.replicate N z).flatten) rfl hrow (by simp) rfl (by omega) hzv (ok_value hrun)
              rw [show ([] ++ List.replicate N x0) = List.replicate N x0 from rfl, List.length_replicate] at hd
              exact hd
          · cases hq
      · cases hq
    · cases hq
  · cases hq

theorem lAppend_run (hC : COk C) (hm : m ≤ bs.length) (h : RelB C.E C.G Z β w bs) (hr : RelE (mkX C.E Z β w bs) a.tmps env) {full : Bool} {sT xT ty : TypeId} {s x : Operand} {r : Out} (hq : lAppend C.E C.L env bs full sT xT s x = some r) (hφ : r.φ) :
    Done C m Z β w bs a r ((do pure (Next.value (← Builtin.append_ #[sT, xT] ty #[a.eval s, a.eval x])) : Sem Next).run C.P w) := by
  unfold lAppend at hq
  split at hq
  · rename_i n1 n2 n3 e n4 n5 hl
    obtain ⟨dd, hdu, hds⟩ := (hC.at hl).under
    have : dd = .slice e := by cases dd <;> simp_all [skel]
    subst this
    split at hq
    · rename_i ei hei
      have hE := hC.at hei
      split at hq
      · rename_i u hu
        obtain ⟨hb, hq⟩ := cond_some hq
        rw [Bool.and_eq_true] at hb
        have hus := beq_eq hb.2
        obtain ⟨dx, hxu, hdx⟩ := srcT_spec hC hb.1
        have hinfo := hE.info
        cases hqi : C.P.info? e with
        | none => simp [hqi] at hinfo
        | some i =>
          simp [hqi] at hinfo
          split at hq
          · rename_i φ ys x0 hsrc hx0
            obtain ⟨zv, z, hzr, hzc, hzrep, hzl, hus2⟩ := zeroT_rep hE hx0
            have hzv : i.zero = some zv := by
              have := hzr w
              cases hz : i.zero with
              | none => simp [zeroValue, typeInfo, hqi, hz] at this
              | some q => simp [zeroValue, typeInfo, hqi, hz] at this; rw [this]
            have h1 : repTm (mkX C.E Z β w bs) (a.eval s) (evalO C.E env s) := evalO_rep hr s
            split at hq
            · -- nothing yet
              rename_i hs
              cases hq
              obtain ⟨p0, p1, p2⟩ := hφ
              obtain ⟨news, hS, hrow⟩ := srcS_rep h hr hsrc p0
              rw [hs] at h1
              have e1 := sc_rep h1 rfl
              rw [e1]
              have hS' := hS.cast (show u.size = i.size by rw [hinfo.1, hus])
              by_cases h0 : ys.length = 0
              · have hys : ys = [] := List.eq_nil_of_length_eq_zero h0
                refine Done.nil hm h hr hys (v := .slice none 0 0) (ok_value ?_) (fun X hX => ⟨⟨by omega, fun _ => ⟨none, 0, by rw [hys]; rfl, by rw [hys]; exact Nat.le_refl _, fun k hk => (by cases hk), fun hc => absurd rfl hc⟩⟩, rfl⟩)
                have := run_append_in (w := w) (ty := ty) hdu hxu hdx hqi (base := none) (sLen := 0) (sCap := 0) hS' (by omega)
                rw [h0] at this
                exact this
              · have hrun := run_append_out (w := w) (ty := ty) hdu hxu hdx hqi hzv (base := none) (sLen := 0) (sCap := 0) (olds := []) hS' (fun w1 _ => rfl) (by omega) (by omega) (by rw [hinfo.2]; simpa using p1)
                simp only [Nat.zero_add] at hrun
                exact append_new hC hm h hr (ty := ty) hei hqi hx0 (l := []) (ys := ys) (olds := []) (news := news) rfl hrow (by simp) rfl (by omega) hzv (ok_value hrun)
            · rename_i id base lo esz len cap hs
              split at hq
              · rename_i t l ty' hbx
                split at hq
                · rename_i hh _
                  obtain ⟨hh⟩ := hh
                  subst hh
                  obtain ⟨hb2, hq⟩ := cond_some hq
                  cases hq
                  simp only [Bool.and_eq_true] at hb2
                  obtain ⟨⟨⟨hbase, hesz⟩, hnr⟩, hte⟩ := hb2
                  have hte := beq_eq hte
                  have hbase := beq_eq hbase
                  have hesz := beq_eq hesz
                  subst hbase
                  obtain ⟨p0, rfl, rfl, p1, p2⟩ := hφ
                  obtain ⟨news, hS, hrow⟩ := srcS_rep h hr hsrc p0
                  have hS' := hS.cast (show t.size = i.size by rw [hinfo.1, hus])
                  rw [hs] at h1
                  obtain ⟨⟨hid, hrep⟩, _⟩ := h1
                  have hal : bAl bs id = true := by simp [bAl, hbx, Box.alive]
                  obtain ⟨b0, c, e1, hlc, _, hc⟩ := hrep hal
                  rw [e1]
                  have hil : id < bs.length := (List.getElem?_eq_some_iff.1 hbx).1
                  have hRw : bRw bs id = true := by simp [bRw, hbx, Box.rw]
                  have hAl : ∀ bx', bx'.alive = true → ∀ j, bAl (bs.set id bx') j = bAl bs j := fun bx' hal' j => by
                    unfold bAl
                    rw [List.getElem?_set]
                    by_cases e : id = j
                    · subst e; rw [if_pos rfl, if_pos hil, hbx]; show bx'.alive = _; rw [hal']; rfl
                    · simp [e]
                  have hRw2 : ∀ bx', bx'.rw = true → ∀ j, bRw (bs.set id bx') j = bRw bs j := fun bx' hal' j => by
                    unfold bRw
                    rw [List.getElem?_set]
                    by_cases e : id = j
                    · subst e; rw [if_pos rfl, if_pos hil, hbx]; show bx'.rw = _; rw [hal']; rfl
                    · simp [e]
                  have hEx : ∀ j, bEx (bs.set id (.gro false t (castL rfl l ++ ys) ty')) j = true → j ≠ id ∧ bEx bs j = true := fun j hj => by
                    unfold bEx at hj ⊢
                    rw [List.getElem?_set] at hj
                    by_cases e : id = j
                    · subst e; rw [if_pos rfl, if_pos hil] at hj; cases hj
                    · rw [if_neg e] at hj; exact ⟨fun e' => e e'.symm, hj⟩
                  have hnoref : ∀ (j : Nat) (bx : Box), bs[j]? = some bx → ∀ k, k ∈ bx.ids → k ≠ id := fun j bx hj => by
                    unfold noRef at hnr
                    rw [List.all_eq_true] at hnr
                    have := hnr bx (List.mem_of_getElem? hj)
                    rw [Bool.not_eq_true'] at this
                    exact any_beq this
                  have hlen2 : (castL rfl l ++ ys : List t.T).length = l.length + ys.length := by rw [List.length_append, castL_length]
                  by_cases hfit : l.length + ys.length ≤ c
                  · -- it fits
                    by_cases hc0 : c = 0
                    · -- there is no room, and nothing comes
                      have hys : ys = [] := List.eq_nil_of_length_eq_zero (by omega)
                      have hl0 : l = [] := List.eq_nil_of_length_eq_zero (by omega)
                      subst hys; subst hl0
                      have hrun := run_append_in (w := w) (ty := ty) hdu hxu hdx hqi (base := b0) (sLen := 0) (sCap := c) hS' (by simp)
                      have hnews : news = [] := hrow
                      subst hnews
                      have e2 : (Builtin.append_ #[sT, xT] ty #[.slice b0 0 c, a.eval x]).run C.P w = .ok (.slice b0 0 c) w := by
                        rw [hrun]; cases b0 <;> rfl
                      have hself : bs.set id (.gro false t (castL rfl [] ++ [] : List t.T) ty') = bs := by
                        obtain ⟨hlt, e3⟩ := List.getElem?_eq_some_iff.1 hbx
                        have : (.gro false t (castL rfl [] ++ [] : List t.T) ty') = bs[id] := by rw [e3]; rfl
                        rw [this, List.set_getElem_self]
                      have hbr : RelE (mkX C.E Z β w bs) a.tmps (env.map (Tm.kill id)) := hr.kill ⟨rfl, fun _ h => h, fun _ _ => rfl⟩ id (fun j _ hl => ⟨hl, fun ha => ⟨ha, rfl⟩⟩)
                      refine ⟨_, _, w, β, ok_value e2, .inl rfl, ?_, ?_, ?_, ?_⟩
                      · show repTm (mkX C.E Z β w (bs.set id (.gro false t (castL rfl [] ++ [] : List t.T) ty'))) _ _
                        rw [hself]
                        exact ⟨⟨hid, fun _ => ⟨b0, c, rfl, Nat.zero_le _, fun k hk => (by cases hk), fun hc => absurd hc0 hc⟩⟩, rfl⟩
                      · show RelE (mkX C.E Z β w (bs.set id (.gro false t (castL rfl [] ++ [] : List t.T) ty'))) _ _
                        rw [hself]; exact hbr
                      · show RelB C.E C.G Z β w (bs.set id (.gro false t (castL rfl [] ++ [] : List t.T) ty'))
                        rw [hself]; exact h
                      · show Ext m Z β bs w Z β (bs.set id (.gro false t (castL rfl [] ++ [] : List t.T) ty')) w
                        rw [hself]; exact Ext.refl ..
                    · obtain ⟨b, zz, hb3, rfl, hroom⟩ := hc hc0
                      have hb3 : β id = some (b, zz) := hb3
                      simp only [Nat.zero_mul, Nat.add_zero, Nat.zero_add] at hroom
                      rcases h.box id _ hbx with ⟨h2, _⟩ | ⟨b', cs, fr, c1, c2, h2, h3, h4, h5, h6, h7⟩
                      · have h2 : β id = none := h2
                        rw [hb3] at h2; cases h2
                      · have h2 : β id = some (b', cs.length) := h2
                        rw [hb3] at h2
                        cases h2
                        have hc1 : c1.length = l.length * t.size := rowOf_length (fun x ds => repT_length _ t x ds) l c1 h6
                        have hnl : news.length = ys.length * t.size := rowOf_length (fun x ds => repT_length _ t x ds) ys news hrow
                        have hroom2 : news.length ≤ c2.length := by
                          have h8 : (l.length + ys.length) * t.size ≤ c * t.size := Nat.mul_le_mul_right _ hfit
                          rw [Nat.add_mul] at h8
                          rw [h5, List.length_append, hesz] at hroom
                          omega
                        have hsplit : c2 = c2.take news.length ++ c2.drop news.length := (List.take_append_drop _ _).symm
                        have h3 : w.heap[b]? = some (.cells cs.toArray ty' fr) := h3
                        have hheap := h3
                        rw [h5, hsplit] at hheap
                        have hth := h4
                        rw [h5, hsplit] at hth
                        have hone : ∀ v ∈ news, v.oneCell' = true := rowOf_one ys news hrow
                        have hst := run_storeCells_list C.P (vs := news) (o := l.length * t.size) hheap hth hc1 (by rw [List.length_take]; omega) hone
                        have hadd : (⟨b, 0 + 0 * esz, none⟩ : Addr).add (l.length * i.size) = ⟨b, l.length * t.size, none⟩ := by
                          rw [lookup_add, hinfo.1, hus]; simp
                        have hrun := run_append_in (w := w) (ty := ty) hdu hxu hdx hqi (base := some ⟨b, 0 + 0 * esz, none⟩) (sLen := l.length) (sCap := c) hS' hfit
                        simp only [hadd] at hrun
                        rw [hst, Result.andThen_ok] at hrun
                        generalize hw' : w.setRow b (c1 ++ (news ++ c2.drop news.length)).toArray = w' at hrun
                        have hself : w'.heap[b]? = some (.cells (c1 ++ (news ++ c2.drop news.length)).toArray ty' fr) := by rw [← hw']; exact setRow_heap w b _ _ ty' fr h3
                        have hoth : ∀ k, k ≠ b → w'.heap[k]? = w.heap[k]? := fun k hk => by rw [← hw']; exact setRow_other w b k _ hk
                        have hsz : w'.heap.size = w.heap.size := by rw [← hw']; exact setRow_size w b _
                        have hlen : (c1 ++ (news ++ c2.drop news.length)).length = cs.length := by
                          rw [h5]; simp only [List.length_append, List.length_drop]; omega
                        have hle0 : (mkX C.E Z β w bs).le (mkX C.E Z β w' (bs.set id (.gro false t (castL rfl l ++ ys) ty'))) := ⟨rfl, fun _ h => h, fun k hk => hoth k (fun e => by subst e; exact h.zrw k hk id _ hRw hb3)⟩
                        have hok0 : ∀ j, (mkX C.E Z β w bs).okAt (mkX C.E Z β w' (bs.set id (.gro false t (castL rfl l ++ ys) ty'))) j := fun j hj => ⟨by simpa [mkX] using hj, fun ha => ⟨by simpa [mkX, hAl (.gro false t (castL rfl l ++ ys) ty') rfl] using ha, rfl⟩⟩
                        obtain ⟨g1, g2, g3⟩ := h.set (w' := w') (bx' := .gro false t (castL rfl l ++ ys) ty') hbx rfl rfl rfl hb3 hsz hoth (.inr ⟨b, c1 ++ (news ++ c2.drop news.length), fr, c1 ++ news, c2.drop news.length, by rw [hlen]; exact hb3, hself, by rw [hlen]; exact h4, by rw [List.append_assoc],
                          rowOf_append.2 ⟨c1, news, rfl, rowOf_mono (fun x ds => repT_le hle0 t x ds) l c1 h6, rowOf_mono (fun x ds => repT_le hle0 t x ds) ys news hrow⟩, fun v hv => by
                            rcases List.mem_append.1 hv with hv | hv
                            · exact rowOf_one l c1 h6 v hv
                            · rcases List.mem_append.1 hv with hv | hv
                              · exact hone v hv
                              · exact h7 v (by rw [h5]; exact List.mem_append_right _ (List.mem_of_mem_drop hv))⟩)
                        refine ⟨_, _, w', β, ok_value hrun, .inl rfl, ⟨⟨by simpa [mkX] using hid, fun _ => ⟨_, c, by rw [hlen2], by rw [hlen2]; exact hfit, fun k hk => (by cases hk), fun _ => ⟨b, _, hb3, by simp, by rw [← hesz]; simpa using hroom⟩⟩⟩, rfl⟩,
                          hr.kill g2 id (fun j _ => g3 j), g1, Ext.set hbx rfl (fun e => by cases e) hb3 (by rw [← hw']; rfl) (by rw [← hw']; rfl) (by rw [← hw']; rfl) hsz hoth (fun j hj => by rw [hRw2 _ rfl] at hj; exact hj)⟩
                  · -- it does not
                    have hold : ∃ olds, rowOf (repT (mkX C.E Z β w bs) t) l olds ∧ ∀ w1 : World, w1.heap = w.heap → (Builtin.firstCells i.size l.length (.slice b0 l.length c)).run C.P w1 = .ok olds.toArray w1 := by
                      by_cases hc0 : c = 0
                      · have hl0 : l = [] := List.eq_nil_of_length_eq_zero (by omega)
                        subst hl0
                        refine ⟨[], rfl, fun w1 _ => ?_⟩
                        cases b0 with
                        | none => rfl
                        | some q => simp [Builtin.firstCells, loadCells, loadCellsFrom]
                      · obtain ⟨b, zz, hb3, rfl, hroom⟩ := hc hc0
                        have hb3 : β id = some (b, zz) := hb3
                        rcases h.box id _ hbx with ⟨h2, _⟩ | ⟨b', cs, fr, c1, c2, h2, h3, h4, h5, h6, h7⟩
                        · have h2 : β id = none := h2
                          rw [hb3] at h2; cases h2
                        · have h2 : β id = some (b', cs.length) := h2
                          rw [hb3] at h2
                          cases h2
                          have hc1 : c1.length = l.length * t.size := rowOf_length (fun x ds => repT_length _ t x ds) l c1 h6
                          refine ⟨c1, h6, fun w1 hw1 => run_firstCells_some w1 i.size l.length _ l.length c c1 (by rw [hc1, hinfo.1, hus]) fun j v hj => ?_⟩
                          have h3' : w1.heap[b]? = some (.cells ([] ++ (c1 ++ c2)).toArray ty' fr) := by rw [hw1, List.nil_append, ← h5]; exact h3
                          simp only [Nat.zero_mul, Nat.add_zero]
                          exact mid_cell (w := w1) h3' rfl j v hj
                    obtain ⟨olds, hrowO, hfc⟩ := hold
                    have hrun := run_append_out (w := w) (ty := ty) hdu hxu hdx hqi hzv (base := b0) (sLen := l.length) (sCap := c) (olds := olds) hS' hfc (by omega) p2 (by rw [hinfo.2]; exact p1)
                    -- the new block takes the old one's place
                    generalize hcap : grownCap w (l.length + ys.length) c e = ncap at hrun
                    have hle : l.length + ys.length ≤ ncap := by
                      rw [← hcap]; unfold grownCap Question.cut; exact Nat.le_add_right _ _
                    have hone := zeroCells_one hzc (repT_one (mkX C.E Z β w bs) t x0 z (hzrep _)) (ncap - (l.length + ys.length))
                    have hszz : (Builtin.zeroCells zv.cells (ncap - (l.length + ys.length))).toList.length = (ncap - (l.length + ys.length)) * t.size := by
                      rw [hzc]; unfold Builtin.zeroCells; simp [hzl, hus2]
                    generalize hzz : (Builtin.zeroCells zv.cells (ncap - (l.length + ys.length))).toList = zz at hone hszz
                    have hcells : olds.toArray ++ news.toArray ++ Builtin.zeroCells zv.cells (ncap - (l.length + ys.length)) = ((olds ++ news) ++ zz).toArray := by
                      apply Array.ext'; simp [← hzz]
                    rw [hcells] at hrun
                    have hlo := rowOf_length (fun x ds => repT_length _ t x ds) l olds hrowO
                    have hln := rowOf_length (fun x ds => repT_length _ t x ds) ys news hrow
                    have hlz : ((olds ++ news) ++ zz).length = ncap * t.size := by
                      rw [List.length_append, List.length_append, hszz, hlo, hln, ← Nat.add_mul, ← Nat.add_mul]
                      congr 1
                      omega
                    generalize hob : Obj.cells ((olds ++ news) ++ zz).toArray e = ob at hrun
                    have hhs : (w.drew.alloc ob).heap = w.heap.push ob := rfl
                    have hh : ∀ k, k < w.heap.size → (w.drew.alloc ob).heap[k]? = w.heap[k]? := fun k hk => by rw [hhs, Array.getElem?_push, if_neg (by omega)]
                    have hnew : (w.drew.alloc ob).heap[w.heap.size]? = some ob := by rw [hhs]; simp
                    have hsize : (w.drew.alloc ob).heap.size = w.heap.size + 1 := by rw [hhs]; simp
                    generalize hw' : w.drew.alloc ob = w' at hrun hh hnew hsize
                    have hos : w'.os = w.os ∧ w'.tape = w.tape ∧ w'.output = w.output := by rw [← hw']; exact ⟨rfl, rfl, rfl⟩
                    have hle0 : (mkX C.E Z β w bs).le (mkX C.E Z (upd β id (some (w.heap.size, ((olds ++ news) ++ zz).length))) w' (bs.set id (.gro false t (castL rfl l ++ ys) ty'))) := ⟨rfl, fun _ h => h, fun k hk => hh k (h.zlt k hk)⟩
                    have hok0 : ∀ j, j ≠ id → (mkX C.E Z β w bs).okAt (mkX C.E Z (upd β id (some (w.heap.size, ((olds ++ news) ++ zz).length))) w' (bs.set id (.gro false t (castL rfl l ++ ys) ty'))) j := fun j hj hl => ⟨by simpa [mkX] using hl, fun ha => ⟨by simpa [mkX, hAl (.gro false t (castL rfl l ++ ys) ty') rfl] using ha, upd_other β _ hj⟩⟩
                    refine ⟨_, _, w', upd β id (some (w.heap.size, ((olds ++ news) ++ zz).length)), ok_value hrun, .inl rfl,
                      ⟨⟨by simpa [mkX] using hid, fun _ => ⟨_, ncap, by rw [hlen2], by rw [hlen2]; exact hle, fun k hk => (by cases hk), fun _ => ⟨w.heap.size, _, upd_same .., by simp, by rw [hlz]; omega⟩⟩⟩, rfl⟩,
                      hr.kill hle0 id hok0, h.step hle0 (fun j bj hj => ?_) (fun i j b n m hi hj e1 e2 => ?_) (fun k hk => by have := h.zlt k hk; omega) (fun k hk j n hj e => ?_) (fun j b n h1 h2 e => ?_), ?_⟩
                    · by_cases e' : id = j
                      · subst e'
                        rw [List.getElem?_set, if_pos rfl, if_pos hil] at hj
                        cases hj
                        refine .inl (.inr ⟨w.heap.size, (olds ++ news) ++ zz, (0, 0), olds ++ news, zz, upd_same .., ?_, ⟨Nat.le_refl _, fun o _ ho => by omega, fun _ => rfl⟩, rfl, rowOf_append.2 ⟨olds, news, rfl, rowOf_mono (fun x ds => repT_le hle0 t x ds) l olds hrowO, rowOf_mono (fun x ds => repT_le hle0 t x ds) ys news hrow⟩, fun v hv => ?_⟩)
                        · show w'.heap[w.heap.size]? = _
                          rw [hnew, ← hob, hte]
                        · rcases List.mem_append.1 hv with hv | hv
                          · rcases List.mem_append.1 hv with hv | hv
                            · exact rowOf_one l olds hrowO v hv
                            · exact rowOf_one ys news hrow v hv
                          · exact hone v hv
                      · rw [List.getElem?_set, if_neg e'] at hj
                        refine .inr ⟨hj, upd_other β _ (fun e => e' e.symm), fun b n hb hal2 => hh b (h.lt (by simp [bAl, hj, hal2]) hb), fun k hk => hok0 k (hnoref j bj hj k hk)⟩
                    · rw [hAl _ rfl] at hi hj
                      by_cases ei : i = id
                      · subst ei
                        by_cases ej : j = i
                        · exact ej.symm
                        · rw [upd_same] at e1
                          rw [upd_other β _ ej] at e2
                          have := h.lt hj e2
                          cases e1
                          omega
                      · by_cases ej : j = id
                        · subst ej
                          rw [upd_same] at e2
                          rw [upd_other β _ ei] at e1
                          have := h.lt hi e1
                          cases e2
                          omega
                        · rw [upd_other β _ ei] at e1
                          rw [upd_other β _ ej] at e2
                          exact h.inj i j b n m hi hj e1 e2
                    · rw [hRw2 _ rfl] at hj
                      by_cases ej : j = id
                      · subst ej
                        rw [upd_same] at e
                        have := h.zlt k hk
                        cases e
                        omega
                      · rw [upd_other β _ ej] at e
                        exact h.zrw k hk j n hj e
                    · rw [hAl _ rfl] at h1
                      rw [hRw2 _ rfl] at h2
                      by_cases ej : j = id
                      · subst ej
                        rw [hRw] at h2
                        cases h2
                      · rw [upd_other β _ ej] at e
                        exact h.zro j b n h1 h2 e
                    · refine ⟨hos.1, hos.2.1, hos.2.2, by omega, fun k hk _ => hh k hk, fun _ h => h, fun j b n hj e => ?_, fun _ h => .inl h, fun j _ hj => (hEx j hj).2, fun j _ hj => upd_other β _ (hEx j hj).1⟩
                      rw [hRw2 _ rfl] at hj
                      by_cases ej : j = id
                      · subst ej
                        rw [upd_same] at e
                        cases e
                        exact .inl (Nat.le_refl _)
                      · rw [upd_other β _ ej] at e
                        exact .inr ⟨j, n, hj, e⟩
                · cases hq
              · cases hq
            · rename_i t l hs
              split at hq
              · rename_i hh _
                cases hq
                obtain ⟨hh⟩ := hh
                subst hh
                obtain ⟨p0, p3, p1, p2⟩ := hφ
                obtain ⟨news, hS, hrow⟩ := srcS_rep h hr hsrc p0
                have hS' := hS.cast (show t.size = i.size by rw [hinfo.1, hus])
                rw [hs] at h1
                obtain ⟨⟨⟨b0, n, c, e1, hl2, hnc, hrr⟩, htight⟩, _⟩ := h1
                simp only [List.cons.injEq, and_true] at e1
                have hcn := htight rfl _ _ _ e1
                subst hcn
                rw [e1]
                have hold : ∃ olds, rowOf (repT (mkX C.E Z β w bs) t) l olds ∧ ∀ w1 : World, w1.heap = w.heap → (Builtin.firstCells i.size c (.slice b0 c c)).run C.P w1 = .ok olds.toArray w1 := by
                  by_cases hc0 : c = 0
                  · have hl0 : l = [] := List.eq_nil_of_length_eq_zero (by omega)
                    subst hl0
                    refine ⟨[], rfl, fun w1 _ => ?_⟩
                    subst hc0
                    cases b0 with
                    | none => rfl
                    | some q => simp [Builtin.firstCells, loadCells, loadCellsFrom]
                  · obtain ⟨p, ds, rfl, hrow2, hp2⟩ := hrr (by omega)
                    have hlen : ds.length = l.length * t.size := rowOf_length (fun x ds => repT_length _ t x ds) l ds hrow2
                    refine ⟨ds, hrow2, fun w1 hw1 => run_firstCells_some w1 i.size c p c c ds (by rw [hlen, hl2, hinfo.1, hus]) fun j v hj => ?_⟩
                    rw [cell_of_heap (w := w) (by rw [hw1])]
                    exact hp2.2.2 j v hj
                obtain ⟨olds, hrowO, hfc⟩ := hold
                rw [hl2] at p1 p2
                have hrun := run_append_out (w := w) (ty := ty) hdu hxu hdx hqi hzv (base := b0) (sLen := c) (sCap := c) (olds := olds) hS' hfc (by omega) p2 (by rw [hinfo.2]; exact p1)
                exact append_new hC hm h hr (ty := ty) hei hqi hx0 (l := l) (ys := ys) (olds := olds) (news := news) hrowO hrow (by rw [hl2]) rfl (by omega) hzv (ok_value hrun)
              · cases hq
            · cases hq
          · cases hq
      · cases hq
    · cases hq
  · cases hq
end

end Go.Proofs.YtllannmegnklmaaE
