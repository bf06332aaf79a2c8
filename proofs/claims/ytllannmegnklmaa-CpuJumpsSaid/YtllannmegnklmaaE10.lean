/- Copying, bytes of a string; calls. -/
import Derived.Test.YtllannmegnklmaaE9
set_option linter.unusedVariables false
set_option linter.unusedSimpArgs false
set_option linter.unnecessarySimpa false
namespace Go.Proofs.YtllannmegnklmaaE
open Go

def putRow (ps : List Piece) (base : Nat) (u : Ty) (lo len : Nat) (ys : List u.T) : Option (Prop × List Piece) := match splitP ps base with
  | some (p, .row m t l :: r) => (match Ty.eq? u t with
    | some h => some (lo + len ≤ m, p ++ (.row m t (l.take lo ++ (castL h.down (ys.take (Nat.min ys.length len)) ++ l.drop (lo + Nat.min ys.length len))) :: r))
    | none => none)
  | _ => none

def lCopy (E : TypeId) (L : List (Nat × TI)) (env : List Tm) (bs : List Box) (full : Bool) (dT : TypeId) (dst src : Operand) : Option Out := match look L dT with
  | some ⟨_, _, _, .slice e, _, _⟩ => match look L e with
    | some ei => match ei.ty with
      | some u => (match evalO E env dst, srcS E env bs u full src with
        | .v (.one (.os id base lo esz len _)), some (φ, ys) => bif Nat.beq u.size ei.cells && Nat.beq esz u.size then (match reBox bs id (fun ps => putRow ps base u lo len ys) with
          | some (ψ, bs') => some ⟨φ ∧ 0 < len ∧ ψ, .v (.one (.sc (.int .i64 (Nat.min ys.length len : Nat)))), env, bs'⟩
          | none => none) else none
        | _, _ => none)
      | none => none
    | none => none
  | _ => none

def lBytes (L : List (Nat × TI)) (env : List Tm) (bs : List Box) (src dst : TypeId) (x : Tm) : Option Out := match look L src, look L dst with
  | some ⟨_, _, _, .str, _, _⟩, some ⟨_, _, _, .slice e, _, _⟩ => match look L e, x with
    | some ⟨_, _, _, .int .u8, _, _⟩, .v (.one (.sc (.string s))) => bif marks then some ⟨True, .v (.one (.os bs.length 0 0 1 (bytesOf s).length none)), env, bs ++ [.gro false (.int .u8) (bytesOf s) e]⟩ else none
    | _, _ => none
  | some ⟨_, _, _, .slice e, _, _⟩, some ⟨_, _, _, .slice _, _, _⟩ => match look L e, x with
    | some ⟨_, _, _, .int .u8, _, _⟩, .v (.one (.os id base lo esz len cap)) => bif marks && (Nat.beq src dst && bRw bs id) then some ⟨0 < len, .v (.one (.os id base lo esz len cap)), env, bs⟩ else none
    | _, _ => none
  | _, _ => none

section
variable {C : Cfg} {m : Nat} {Z : Nat → Prop} {β : Nat → Option (Nat × Nat)} {w : World} {bs : List Box} {a : Act} {env : List Tm}

theorem freeze_heap (w : World) (b n : Nat) : (∀ k, k ≠ b → (w.freeze ⟨b, n, none⟩ 1).heap[k]? = w.heap[k]?) ∧ (w.freeze ⟨b, n, none⟩ 1).heap.size = w.heap.size ∧ (w.freeze ⟨b, n, none⟩ 1).os = w.os ∧ (w.freeze ⟨b, n, none⟩ 1).tape = w.tape ∧ (w.freeze ⟨b, n, none⟩ 1).output = w.output ∧
    ∀ cs ty fr, w.heap[b]? = some (.cells cs ty fr) → (w.freeze ⟨b, n, none⟩ 1).heap[b]? = some (.cells cs ty (if fr.1 == fr.2 then (n, n + 1) else (min fr.1 n, max fr.2 (n + 1)))) := by
  unfold World.freeze
  rw [if_neg (by decide)]
  refine ⟨fun k hk => ?_, by simp, rfl, rfl, rfl, fun cs ty fr hb => ?_⟩
  · simp only [Array.getElem?_modify]
    rw [if_neg (fun e => hk e.symm)]
  · simp only [Array.getElem?_modify, if_true, hb, Option.map_some]

theorem thaw_freeze (hM : marks = true) {fr : Nat × Nat} {n : Nat} (h : thaw fr n) : thaw (if fr.1 == fr.2 then (n, n + 1) else (min fr.1 n, max fr.2 (n + 1))) n := by
  obtain ⟨h1, h2, _⟩ := h
  have hN : ∀ {p : Prop}, marks = false → p := fun h => by rw [hM] at h; cases h
  split
  · exact ⟨Nat.le_succ _, fun o ho h3 => by simp only at h3; omega, hN⟩
  · rename_i hne
    have hne : ¬ fr.1 = fr.2 := by simpa using hne
    have h3 : n ≤ fr.1 := by
      rcases Nat.lt_or_ge fr.1 n with h4 | h4
      · exact absurd ⟨Nat.le_refl _, by omega⟩ (h2 fr.1 h4)
      · exact h4
    exact ⟨by simp only; omega, fun o ho h4 => by simp only at h4; omega, hN⟩

theorem lMark_run (hM : marks = true) (hC : COk C) (h : RelB C.E C.G Z β w bs) (hr : RelE (mkX C.E Z β w bs) a.tmps env) {src e : TypeId} {id base lo esz len : Nat} {cap : Option Nat} {v : Value} (hs : C.P.underlying src = some (.slice e)) (he : C.P.underlying e = some (.int .u8))
    (hv : repTm (mkX C.E Z β w bs) v (.v (.one (.os id base lo esz len cap)))) (hrw : bRw bs id = true) (hl : 0 < len) :
    Done C m Z β w bs a ⟨0 < len, .v (.one (.os id base lo esz len cap)), env, bs⟩ ((do pure (Next.value (← convert src src v)) : Sem Next).run C.P w) := by
  have hv0 := hv
  obtain ⟨⟨hid, hrep⟩, _⟩ := hv
  obtain ⟨q, c, rfl, hlc, _, hc⟩ := hrep (bRw_al hrw)
  obtain ⟨b, z, hb, rfl, hz⟩ := hc (by omega)
  have hb : β id = some (b, z) := hb
  obtain ⟨bx, hbx, hbrw⟩ := bRw_some hrw
  have hset : bs.set id bx = bs := by
    apply List.ext_getElem?
    intro k
    rw [List.getElem?_set]
    by_cases e : id = k
    · subst e; rw [if_pos rfl, if_pos (List.getElem?_eq_some_iff.1 hbx).1, hbx]
    · rw [if_neg e]
  have hcells : ∃ cs ty fr, w.heap[b]? = some (.cells cs ty fr) ∧ cs.size = z ∧ thaw fr z ∧ ∀ (w' : World) (fr' : Nat × Nat), w'.heap[b]? = some (.cells cs ty fr') → thaw fr' z → (mkX C.E Z β w bs).le (mkX C.E Z β w' bs) → repBox (mkX C.E Z β w' bs) id bx := by
    have hbox := h.box id bx hbx
    cases bx with
    | dead => cases hbrw
    | ex ro ps ty =>
      obtain ⟨b', cs, fr, h2, h3, h4, h5⟩ := hbox
      have h2 : β id = some (b', cs.length) := h2
      rw [hb] at h2
      cases h2
      exact ⟨cs.toArray, ty, fr, h3, by simp, h4, fun w' fr' h6 h7 hle => ⟨b, cs, fr', hb, h6, h7, repPs_le hle (fun i _ hi => ⟨hi, fun ha => ⟨ha, rfl⟩⟩) h5⟩⟩
    | gro ro t l ty =>
      rcases hbox with ⟨h2, _⟩ | ⟨b', cs, fr, c1, c2, h2, h3, h4, h5, h6, h7⟩
      · have h2 : β id = none := h2
        rw [hb] at h2; cases h2
      · have h2 : β id = some (b', cs.length) := h2
        rw [hb] at h2
        cases h2
        exact ⟨cs.toArray, ty, fr, h3, by simp, h4, fun w' fr' h8 h9 hle => .inr ⟨b, cs, fr', c1, c2, hb, h8, h9, h5, rowOf_mono (fun x ds => repT_le hle t x ds) l c1 h6, h7⟩⟩
    | fix ro t l ty =>
      rcases hbox with ⟨h2, _⟩ | ⟨b', cs, fr, c1, c2, h2, h3, h4, h5, h6, h7⟩
      · have h2 : β id = none := h2
        rw [hb] at h2; cases h2
      · have h2 : β id = some (b', cs.length) := h2
        rw [hb] at h2
        cases h2
        exact ⟨cs.toArray, ty, fr, h3, by simp, h4, fun w' fr' h8 h9 hle => .inr ⟨b, cs, fr', c1, c2, hb, h8, h9, h5, rowOf_mono (fun x ds => repT_le hle t x ds) l c1 h6, h7⟩⟩
  obtain ⟨cs, ty, fr, hcell, hsz, hth, hnew⟩ := hcells
  obtain ⟨f1, f2, f3, f4, f5, f6⟩ := freeze_heap w b z
  have hle : (mkX C.E Z β w bs).le (mkX C.E Z β (w.freeze ⟨b, z, none⟩ 1) bs) := ⟨rfl, fun _ h => h, fun k hk => f1 k (fun e => h.zrw k hk id z hrw (by rw [e]; exact hb))⟩
  obtain ⟨g1, g2, g3⟩ := h.set (bx' := bx) (w' := w.freeze ⟨b, z, none⟩ 1) hbx hbrw (rw_alive hbrw) hbrw hb f2 f1 (by rw [hset]; exact hnew _ _ (f6 _ _ _ hcell) (thaw_freeze hM hth) hle)
  have hx := Ext.set (m := m) (Z := Z) (bx' := bx) (w' := w.freeze ⟨b, z, none⟩ 1) hbx hbrw (fun h => h) hb f3 f4 f5 f2 f1 (fun j hj => by rw [hset] at hj; exact hj)
  rw [hset] at g1 g2 g3 hx
  refine Done.skip hr g2 g3 g1 hx (.inl rfl) (repTm_le g2 (fun j _ => g3 j) hv0) (ok_value ?_)
  have hsh : w.shape? b = some (ty, z) := by unfold World.shape?; rw [hcell, ← hsz]
  simp [convert, run_underlying hs, run_underlying he, markStringish, hsh]

theorem lBytes_run (hC : COk C) (hm : m ≤ bs.length) (h : RelB C.E C.G Z β w bs) (hr : RelE (mkX C.E Z β w bs) a.tmps env) {src dst : TypeId} {x : Tm} {v : Value} (hv : repTm (mkX C.E Z β w bs) v x) {r : Out} (hq : lBytes C.L env bs src dst x = some r) (hφ : r.φ) :
    Done C m Z β w bs a r ((do pure (Next.value (← convert src dst v)) : Sem Next).run C.P w) := by
  unfold lBytes at hq
  split at hq
  · rename_i n1 n2 n3 n4 n5 k1 k2 k3 e k4 k5 hls hld
    obtain ⟨sd, hsu, hss⟩ := (hC.at hls).under
    obtain ⟨dd, hdu, hds⟩ := (hC.at hld).under
    have : sd = .string := by cases sd <;> simp_all [skel]
    subst this
    have : dd = .slice e := by cases dd <;> simp_all [skel]
    subst this
    split at hq
    · rename_i q1 q2 q3 q4 q5 s he
      obtain ⟨hM, hq⟩ := cond_some hq
      cases hq
      obtain ⟨ed, heu, hes⟩ := (hC.at he).under
      have : ed = .int .u8 := by cases ed <;> simp_all [skel]
      subst this
      obtain rfl := sc_rep hv rfl
      have hrun := run_bytes_of_string (P := C.P) w src dst e s hsu hdu heu
      generalize hcap : grownCap w s.size 0 e = cap at hrun
      have hle : s.size ≤ cap := by rw [← hcap]; unfold grownCap Question.cut; exact Nat.le_add_right _ _
      have hsz : (bytesOf s).length = s.size := by unfold bytesOf; rw [List.length_map, Array.length_toList]; rfl
      have hrow : bytesRow s cap = (((bytesOf s).map (Value.int .u8)) ++ List.replicate (cap - s.size) (Value.int .u8 0)).toArray := by
        apply Array.ext'
        simp [bytesRow, bytesOf]
      rw [hrow] at hrun
      refine Done.gro hm h hr (t := .int .u8) (l := bytesOf s) (c1 := (bytesOf s).map (Value.int .u8)) (c2 := List.replicate (cap - s.size) (.int .u8 0)) (rowOf_bytes _) (fun v hv => by rw [(List.mem_replicate.1 hv).2]; rfl) (w0 := w.drew) ⟨rfl, rfl, rfl, rfl⟩ (fr := (_, _)) ⟨Nat.le_succ _, fun o ho h2 => ?_, fun h => by rw [hM] at h; cases h⟩ (ok_value hrun) (fun X h1 h2 h3 => ?_)
      · simp only [List.size_toArray] at h2; omega
      · rw [← hsz]
        exact os_new h1 h3 (by rw [hsz]; exact hle) (fun k hk => (by cases hk)) (by rw [List.length_append, List.length_map, List.length_replicate, hsz]; omega)
    · cases hq
  · rename_i n1 n2 n3 e n4 n5 k1 k2 k3 e2 k4 k5 hls hld
    obtain ⟨sd, hsu, hss⟩ := (hC.at hls).under
    have : sd = .slice e := by cases sd <;> simp_all [skel]
    subst this
    split at hq
    · rename_i q1 q2 q3 q4 q5 id base lo esz len cap he
      obtain ⟨hb, hq⟩ := cond_some hq
      cases hq
      rw [Bool.and_eq_true, Bool.and_eq_true] at hb
      obtain ⟨hM, hb⟩ := hb
      obtain rfl := beq_eq hb.1
      obtain ⟨ed, heu, hes⟩ := (hC.at he).under
      have : ed = .int .u8 := by cases ed <;> simp_all [skel]
      subst this
      exact lMark_run hM hC h hr hsu heu hv hb.2 hφ
    · cases hq
  · cases hq

theorem putRow_rep {X : Cx} {ps : List Piece} {base lo len : Nat} {u : Ty} {ys : List u.T} {φ : Prop} {ps' : List Piece} {cs news : List Value} (hq : putRow ps base u lo len ys = some (φ, ps')) (hφ : φ) (hr : repPs X ps cs) (hy : rowOf (repT X u) ys news) :
    ∃ c1 c2 c3, cs = c1 ++ (c2 ++ c3) ∧ c1.length = base + lo * u.size ∧ c2.length = (news.take (Nat.min ys.length len * u.size)).length ∧ repPs X ps' (c1 ++ (news.take (Nat.min ys.length len * u.size) ++ c3)) := by
  unfold putRow at hq
  split at hq
  · rename_i p m t l r hs
    split at hq
    · rename_i hh _
      cases hq
      obtain ⟨hh⟩ := hh
      subst hh
      obtain ⟨e, hp⟩ := splitP_spec hs
      subst e
      obtain ⟨c1, c4, e1, h1, d1, d2, e2, ⟨hlen, hrow⟩, h2⟩ := repPs_append.1 hr
      generalize hk : Nat.min ys.length len = k
      have hk1 : k ≤ ys.length := by rw [← hk]; exact Nat.min_le_left _ _
      have hk2 : k ≤ len := by rw [← hk]; exact Nat.min_le_right _ _
      obtain ⟨f1, f2, f3, e3, hf1, hf2, h11, hA, hB⟩ := rowOf_part hrow lo k (by omega)
      obtain ⟨g1, g2, g3, e4, hg1, hg2, h12, _, _⟩ := rowOf_part hy 0 k (by omega)
      have hg0 : g1 = [] := List.eq_nil_of_length_eq_zero (by rw [hg1]; simp)
      subst hg0
      have htake : news.take (k * u.size) = g2 := by rw [e4, List.nil_append, ← hg2, List.take_left]
      have hnl := rowOf_length (fun x ds => repT_length X u x ds) ys news hy
      rw [htake]
      refine ⟨c1 ++ f1, f2, f3 ++ d2, by rw [e1, e2, e3]; simp [List.append_assoc], by rw [List.length_append, repPs_length h1, hp, hf1], by rw [hf2, hg2], ?_⟩
      refine repPs_append.2 ⟨c1, f1 ++ (g2 ++ (f3 ++ d2)), by simp [List.append_assoc], h1, f1 ++ (g2 ++ f3), d2, by simp [List.append_assoc], ⟨?_, rowOf_append.2 ⟨f1, g2 ++ f3, rfl, hA, rowOf_append.2 ⟨g2, f3, rfl, by simpa [castL] using h12, hB⟩⟩⟩, h2⟩
      simp only [List.length_append, List.length_take, List.length_drop, castL_length]
      omega
    · cases hq
  · cases hq

theorem lCopy_run (hC : COk C) (h : RelB C.E C.G Z β w bs) (hr : RelE (mkX C.E Z β w bs) a.tmps env) {full : Bool} {dT sT ty : TypeId} {dst src : Operand} {r : Out} (hq : lCopy C.E C.L env bs full dT dst src = some r) (hφ : r.φ) :
    Done C m Z β w bs a r ((do pure (Next.value (← Builtin.copy_ #[dT, sT] ty #[a.eval dst, a.eval src])) : Sem Next).run C.P w) := by
  unfold lCopy at hq
  split at hq
  · rename_i n1 n2 n3 e n4 n5 hl
    obtain ⟨dd, hdu, hds⟩ := (hC.at hl).under
    have : dd = .slice e := by cases dd <;> simp_all [skel]
    subst this
    split at hq
    · rename_i ei hei
      split at hq
      · rename_i u hu
        split at hq
        · rename_i id base lo esz len cap φ ys hdst hsrc
          obtain ⟨hb, hq⟩ := cond_some hq
          rw [Bool.and_eq_true] at hb
          have hus := beq_eq hb.1
          have hesz := beq_eq hb.2
          split at hq
          · rename_i ψ bs' hre
            cases hq
            obtain ⟨p0, p1, p2⟩ := hφ
            have h1 : repTm (mkX C.E Z β w bs) (a.eval dst) (evalO C.E env dst) := evalO_rep hr dst
            rw [hdst] at h1
            have hal : bAl bs id = true := by
              unfold reBox at hre
              split at hre
              · rename_i hb; simp [bAl, hb, Box.alive]
              · rename_i hb; simp [bAl, hb, Box.alive]
              · rename_i hb; simp [bAl, hb, Box.alive]
              · cases hre
            obtain ⟨⟨hid, hrep⟩, _⟩ := h1
            obtain ⟨b0, c, e1, hlc, _, hc⟩ := hrep hal
            obtain ⟨b, zz, hb3, rfl, hroom⟩ := hc (by omega)
            obtain ⟨news, ⟨hS1, hS2, _, hS3⟩, hrow⟩ := srcS_rep h hr hsrc p0
            obtain ⟨w', hrun, g1, g2, g3, g4⟩ := store_box (m := m) h hb3 hre p2 (ns := news.take (Nat.min ys.length len * u.size)) (o := base + lo * esz) (fun v hv => rowOf_one ys news hrow v (List.mem_of_mem_take hv)) (fun ps φ' ps' cs hw hφ' hrp => by
              rw [hesz]; exact putRow_rep hw hφ' hrp hrow)
            refine Done.skip hr g2 g3 g1 g4 (.inl rfl) ?_ (ok_value (u := .int .i64 ((Nat.min ys.length len : Nat) : Int)) ?_)
            · exact ⟨⟨rfl, rfl⟩, rfl⟩
            · have hfc : (Builtin.firstCells u.size (Nat.min ys.length len) (a.eval src)).run C.P w = .ok (news.take (Nat.min ys.length len * u.size)).toArray w := by
                exact hS3 _ (Nat.min_le_left _ _) w rfl
              have hsz := (hC.at hei).size w
              rw [← hus] at hsz
              unfold Builtin.copy_
              simp only [List.getElem?_toArray, Sem.run_bind]
              simp [run_underlying hdu, hS2 w, hsz, e1, hfc, hrun, goInt]
          · cases hq
        · cases hq
      · cases hq
    · cases hq
  · cases hq

/-- The builtin clear, at a slice that is not empty. -/
def lClear (E : TypeId) (L : List (Nat × TI)) (env : List Tm) (bs : List Box) (dT : TypeId) (dst : Operand) : Option Out := match look L dT with
  | some ⟨_, _, _, .slice e, _, _⟩ => match look L e with
    | some ei => match ei.ty with
      | some u => match zeroT ei u with
        | some x0 => (match evalO E env dst with
          | .v (.one (.os id base lo esz len _)) => bif Nat.beq u.size ei.cells && Nat.beq esz u.size then (match reBox bs id (fun ps => putRow ps base u lo len (List.replicate len x0)) with
            | some (ψ, bs') => some ⟨0 < len ∧ ψ, .tup [], env, bs'⟩
            | none => none) else none
          | _ => none)
        | none => none
      | none => none
    | none => none
  | _ => none

theorem lClear_run (hC : COk C) (h : RelB C.E C.G Z β w bs) (hr : RelE (mkX C.E Z β w bs) a.tmps env) {dT ty : TypeId} {dst : Operand} {r : Out} (hq : lClear C.E C.L env bs dT dst = some r) (hφ : r.φ) :
    Done C m Z β w bs a r ((do pure (Next.value (← Builtin.clear_ #[dT] ty #[a.eval dst])) : Sem Next).run C.P w) := by
  unfold lClear at hq
  split at hq
  · rename_i n1 n2 n3 e n4 n5 hl
    obtain ⟨dd, hdu, hds⟩ := (hC.at hl).under
    have : dd = .slice e := by cases dd <;> simp_all [skel]
    subst this
    split at hq
    · rename_i ei hei
      have hE := hC.at hei
      split at hq
      · rename_i u hu
        split at hq
        · rename_i x0 hx0
          obtain ⟨zv, z, hzv, hzc, hzr, hzl, hus⟩ := zeroT_rep hE hx0
          split at hq
          · rename_i id base lo esz len cap hdst
            obtain ⟨hb, hq⟩ := cond_some hq
            rw [Bool.and_eq_true] at hb
            have hesz := beq_eq hb.2
            split at hq
            · rename_i ψ bs' hre
              cases hq
              obtain ⟨p1, p2⟩ := hφ
              have h1 : repTm (mkX C.E Z β w bs) (a.eval dst) (evalO C.E env dst) := evalO_rep hr dst
              rw [hdst] at h1
              have hal : bAl bs id = true := by
                unfold reBox at hre
                split at hre
                · rename_i hb; simp [bAl, hb, Box.alive]
                · rename_i hb; simp [bAl, hb, Box.alive]
                · rename_i hb; simp [bAl, hb, Box.alive]
                · cases hre
              obtain ⟨⟨hid, hrep⟩, _⟩ := h1
              obtain ⟨b0, c, e1, hlc, _, hc⟩ := hrep hal
              obtain ⟨b, zz, hb3, rfl, hroom⟩ := hc (by omega)
              have hrow := replicate_rep (hzr (mkX C.E Z β w bs)) len
              generalize hnews : (List.replicate len z).flatten = news at hrow
              have hnl : news.length = len * u.size := by rw [← hnews, List.length_flatten]; simp [hzl, hus]
              have hmin : Nat.min (List.replicate len x0).length len = len := by simp
              obtain ⟨w', hrun, g1, g2, g3, g4⟩ := store_box (m := m) h hb3 hre p2 (ns := news.take (Nat.min (List.replicate len x0).length len * u.size)) (o := base + lo * esz) (fun v hv => rowOf_one _ news hrow v (List.mem_of_mem_take hv)) (fun ps φ' ps' cs hw hφ' hrp => by
                rw [hesz]; exact putRow_rep hw hφ' hrp hrow)
              refine Done.skip hr g2 g3 g1 g4 (.inl rfl) ?_ (ok_value (u := .tuple #[]) ?_)
              · exact ⟨[], rfl, rfl⟩
              · have htk : news.take (Nat.min (List.replicate len x0).length len * u.size) = news := by rw [hmin, ← hnl, List.take_length]
                rw [htk] at hrun
                have hzz : (Builtin.zeroCells zv.cells len).toList = news := by
                  rw [hzc, ← hnews]
                  have e : Builtin.zeroCells z.toArray len = madeCells z.toArray (len * z.length) := by
                    unfold Builtin.zeroCells madeCells; simp
                  rw [e, madeCells_flat]
                obtain ⟨k, rfl⟩ : ∃ k, len = k + 1 := ⟨len - 1, by omega⟩
                unfold Builtin.clear_
                simp only [List.getElem?_toArray, Sem.run_bind]
                simp [run_underlying hdu, e1, hzv w, hzz, hrun]
            · cases hq
          · cases hq
        · cases hq
      · cases hq
    · cases hq
  · cases hq
end

end Go.Proofs.YtllannmegnklmaaE
