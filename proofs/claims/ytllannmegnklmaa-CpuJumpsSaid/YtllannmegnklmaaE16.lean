/- A law's row: what it is handed is plain data; what comes of its contract. -/
import Derived.Test.YtllannmegnklmaaE15
import Derived.OpenShut
import Derived.WideShapes
import Derived.SizedLaws
import Derived.FnData
import Derived.ChangeArms
set_option linter.unusedVariables false
set_option linter.unusedSimpArgs false
set_option linter.unnecessarySimpa false
namespace Go.Proofs.YtllannmegnklmaaE
open Go

/-! ### Types of the program that are plain -/
def fieldsIs (F : TypeId → Ty → Bool) (P : Program) : Nat → List Field → Ty → Bool
  | _, [], _ => false
  | off, [f], u => Nat.beq f.offset off && (Nat.beq (P.cellsOf f.type) u.size && F f.type u)
  | off, f :: fl, .pair a b => Nat.beq f.offset off && (Nat.beq (P.cellsOf f.type) a.size && (F f.type a && fieldsIs F P (off + a.size) fl b))
  | _, _ :: _ :: _, _ => false

def tyIs (P : Program) : Nat → TypeId → Ty → Bool
  | 0, _, _ => false
  | d + 1, t, u => match P.underlying t, u with
    | some (.int k), .int k' => decide (k = k')
    | some .bool, .bool => true
    | some .string, .str => true
    | some (.array n e), .arr m u => Nat.beq n m && (Nat.beq (P.cellsOf e) u.size && (Nat.beq (P.cellsOf t) (m * u.size) && tyIs P d e u))
    | some (.slice e), .sl u => Nat.beq (P.cellsOf e) u.size && (Nat.ble 1 u.size && tyIs P d e u)
    | some (.struct fs), u => Nat.beq (P.cellsOf t) u.size && fieldsIs (tyIs P d) P 0 fs.toList u
    | _, _ => false

/-- What is known of data that a program is handed. -/
def goodT : (t : Ty) → t.T → Prop
  | .int k, n => (Lit.int k n).wf = true
  | .bool, _ => True
  | .str, s => ByteArray.size s ≤ maxLen
  | .pair a b, x => goodT a x.1 ∧ goodT b x.2
  | .arr n t, l => List.length l = n ∧ ∀ x : t.T, @Membership.mem t.T (List t.T) _ l x → goodT t x
  | .sl t, l => List.length l ≤ maxLen ∧ ∀ x : t.T, @Membership.mem t.T (List t.T) _ l x → goodT t x

theorem rows_of {α : Type} {R : α → List Value → Prop} {G : α → Prop} {c : Nat} : ∀ (n : Nat) (cs : List Value), cs.length = n * c → (∀ i, i < n → ∃ y, R y ((cs.drop (i * c)).take c) ∧ G y) → ∃ l : List α, l.length = n ∧ rowOf R l cs ∧ ∀ y ∈ l, G y
  | 0, cs, hl, _ => ⟨[], rfl, by
      have : cs.length = 0 := by simpa using hl
      exact List.length_eq_zero_iff.1 this, fun y hy => by simp at hy⟩
  | n + 1, cs, hl, h => by
    obtain ⟨y, h1, h2⟩ := h 0 (by omega)
    obtain ⟨l, k1, k2, k3⟩ := rows_of (R := R) (G := G) (c := c) n (cs.drop c) (by rw [List.length_drop, hl, Nat.succ_mul]; omega) (fun i hi => by
      obtain ⟨y, h3, h4⟩ := h (i + 1) (by omega)
      refine ⟨y, ?_, h4⟩
      rw [List.drop_drop, show c + i * c = (i + 1) * c by rw [Nat.succ_mul]; omega]
      exact h3)
    refine ⟨y :: l, by simp [k1], ⟨cs.take c, cs.drop c, (List.take_append_drop c cs).symm, by simpa using h1, k2⟩, fun z hz => ?_⟩
    rcases List.mem_cons.1 hz with rfl | hz
    · exact h2
    · exact k3 z hz

theorem rows_at {α : Type} {R : α → List Value → Prop} {G : α → Prop} {c : Nat} {W : World} {a : Addr} (ha : a.spot = none) : ∀ (n : Nat), (∀ i, i < n → ∃ y cs, R y cs ∧ G y ∧ cs.length = c ∧ ∀ j v, cs[j]? = some v → W.cell? (a.add (i * c + j)) = some v) →
    ∃ (l : List α) (ds : List Value), l.length = n ∧ rowOf R l ds ∧ ds.length = n * c ∧ (∀ y ∈ l, G y) ∧ ∀ j v, ds[j]? = some v → W.cell? (a.add j) = some v
  | 0, _ => ⟨[], [], rfl, rfl, by simp, fun y hy => by simp at hy, fun j v h => by simp at h⟩
  | n + 1, h => by
    obtain ⟨l, ds, k1, k2, k3, k4, k5⟩ := rows_at (R := R) (G := G) (c := c) ha n fun i hi => h i (by omega)
    obtain ⟨y, cs, h1, h2, h3, h4⟩ := h n (by omega)
    refine ⟨l ++ [y], ds ++ cs, by simp [k1], rowOf_append.2 ⟨ds, cs, rfl, k2, cs, [], by simp, h1, rfl⟩, by rw [List.length_append, k3, h3, Nat.succ_mul], fun z hz => ?_, fun j v hj => ?_⟩
    · rcases List.mem_append.1 hz with hz | hz
      · exact k4 z hz
      · simp at hz; rw [hz]; exact h2
    · rcases Nat.lt_or_ge j ds.length with hl | hl
      · rw [List.getElem?_append_left hl] at hj
        exact k5 j v hj
      · rw [List.getElem?_append_right hl, k3] at hj
        have := h4 _ v hj
        rw [show n * c + (j - n * c) = j by omega] at this
        exact this

section
variable {H : Type} {enc : TypeId × Value → H} {P : Program} {W : World} {base : Nat} {sp : Nat → Bool} {held : Bool}

theorem fields_open {X : Cx} {F : TypeId → Ty → Bool} {cs : List Value} (hF : ∀ t u, F t u = true → ∀ fuel ds z, DataW.trod enc P W base sp held fuel t ds = some z → ∃ y : u.T, repT X u y ds ∧ goodT u y) :
    ∀ (fl : List Field) (off : Nat) (u : Ty), fieldsIs F P off fl u = true → (∀ f ∈ fl, ∃ n z, DataW.trod enc P W base sp held n f.type ((cs.drop f.offset).take (P.cellsOf f.type)) = some z) → (cs.drop off).length = u.size →
      ∃ y : u.T, repT X u y (cs.drop off) ∧ goodT u y
  | [], off, u, h, _, _ => by simp [fieldsIs] at h
  | [f], off, u, h, hz, hl => by
    simp only [fieldsIs, Bool.and_eq_true] at h
    obtain ⟨h1, h2, h3⟩ := h
    have h1 := beq_eq h1
    have h2 := beq_eq h2
    obtain ⟨n, z, hz⟩ := hz f (by simp)
    rw [h1, h2, ← hl, List.take_length] at hz
    exact hF _ _ h3 _ _ _ hz
  | f :: g :: fl, off, u, h, hz, hl => by
    cases u with
    | pair a b =>
      simp only [fieldsIs, Bool.and_eq_true] at h
      obtain ⟨h1, h2, h3, h4⟩ := h
      have h1 := beq_eq h1
      have h2 := beq_eq h2
      obtain ⟨n, z, hz1⟩ := hz f (by simp)
      rw [h1, h2] at hz1
      obtain ⟨y1, r1, g1⟩ := hF _ _ h3 _ _ _ hz1
      have hl : (cs.drop off).length = a.size + b.size := hl
      obtain ⟨y2, r2, g2⟩ := fields_open hF (g :: fl) (off + a.size) b h4 (fun f' hf' => hz f' (by simp only [List.mem_cons] at hf' ⊢; exact .inr hf')) (by rw [← List.drop_drop, List.length_drop, hl]; omega)
      refine ⟨(y1, y2), ⟨(cs.drop off).take a.size, cs.drop (off + a.size), ?_, r1, r2⟩, g1, g2⟩
      rw [← List.drop_drop, List.take_append_drop]
    | _ => simp [fieldsIs] at h

theorem open_ty {X : Cx} (hw : X.w = W) (hZ : ∀ b, b < W.heap.size → X.Z b) : ∀ (d : Nat) (t : TypeId) (u : Ty), tyIs P d t u = true → ∀ (fuel : Nat) (cs : List Value) (x : DataW H × List MemPlace), DataW.trod enc P W base sp held fuel t cs = some x → ∃ y : u.T, repT X u y cs ∧ goodT u y := by
  intro d
  induction d with
  | zero => intro t u h; cases h
  | succ d ih =>
    intro t u h fuel cs x hx
    unfold tyIs at h
    split at h
    · rename_i k k' hu
      have : k = k' := of_decide_eq_true h
      subst this
      obtain ⟨n, rfl, _, hwf⟩ := DataW.trod_int hu hx
      exact ⟨n, rfl, hwf⟩
    · rename_i hu
      obtain ⟨b, rfl, _⟩ := DataW.trod_bool hu hx
      exact ⟨b, rfl, trivial⟩
    · rename_i hu
      obtain ⟨s, rfl, _, hs⟩ := DataW.trod_string hu hx
      exact ⟨s, rfl, hs⟩
    · rename_i n e m u hu
      simp only [Bool.and_eq_true] at h
      obtain ⟨h1, h2, h3, h4⟩ := h
      have h1 := beq_eq h1
      have h2 := beq_eq h2
      have h3 := beq_eq h3
      subst h1
      obtain ⟨xs, k, _, _, hl, hxl, hel⟩ := DataW.trod_array hu hx
      rw [h2] at hel
      obtain ⟨l, k1, k2, k3⟩ := rows_of (R := repT X u) (G := goodT u) (c := u.size) n cs (by rw [hl, h3]) (fun i hi => by
        have := hel i hi
        rw [List.getElem?_eq_getElem (by omega)] at this
        exact ih _ _ h4 _ _ _ this)
      exact ⟨l, ⟨k1, k2⟩, k1, k3⟩
    · rename_i e u hu
      simp only [Bool.and_eq_true] at h
      obtain ⟨h1, h2, h3⟩ := h
      have h1 := beq_eq h1
      have h2 := Nat.le_of_ble_eq_true h2
      rcases DataW.trod_slice hu hx with ⟨rfl, _⟩ | ⟨a, len, cap, elems, rest, n, _, rfl, _, hb, hlc, hm, hlen, hel, _, _⟩
      · exact ⟨[], ⟨none, 0, 0, rfl, rfl, Nat.le_refl _, fun h => absurd h (by omega)⟩, Nat.zero_le _, fun y hy => (List.not_mem_nil hy).elim⟩
      · rw [h1] at hel
        have each : ∀ i, i < len → ∃ ds z, W.cells? base (a.add (i * u.size)) u.size = some ds ∧ DataW.trod enc P W base sp held n e ds = some z := fun i hi => by
          have := hel i hi
          rw [List.getElem?_eq_getElem (by omega), Option.bind_eq_some_iff] at this
          obtain ⟨ds, e1, e2⟩ := this
          exact ⟨ds, _, e1, e2⟩
        by_cases h0 : len = 0
        · subst h0
          exact ⟨[], ⟨some a, 0, cap, rfl, rfl, hlc, fun h => absurd h (by omega)⟩, Nat.zero_le _, fun y hy => (List.not_mem_nil hy).elim⟩
        · have hspot : a.spot = none ∧ a.block < W.heap.size := by
            obtain ⟨ds, z, e1, _⟩ := each 0 (by omega)
            obtain ⟨_, f2, f3⟩ := World.cells?_some e1
            have := f3 0 (by omega)
            rw [List.getElem?_eq_getElem (by omega)] at this
            have h4 : W.cell? a = some ds[0] := by simpa [Addr.add] using this
            refine ⟨World.cell?_spot h4, ?_⟩
            rcases Nat.lt_or_ge a.block W.heap.size with h5 | h5
            · exact h5
            · simp [World.cell?, Array.getElem?_eq_none h5] at h4
          obtain ⟨l, ds, k1, k2, k3, k4, k5⟩ := rows_at (R := repT X u) (G := goodT u) (c := u.size) (W := W) hspot.1 len (fun i hi => by
            obtain ⟨ds, z, e1, e2⟩ := each i hi
            obtain ⟨_, f2, f3⟩ := World.cells?_some e1
            obtain ⟨y, r1, r2⟩ := ih _ _ h3 _ _ _ e2
            refine ⟨y, ds, r1, r2, f2, fun j v hj => ?_⟩
            have hj2 := (List.getElem?_eq_some_iff.1 hj).1
            have := f3 j (by omega)
            rw [hj, add_add a hspot.1] at this
            exact this)
          refine ⟨l, ⟨some a, len, cap, rfl, k1, hlc, fun _ => ⟨a, ds, rfl, k2, hspot.1, hZ _ hspot.2, fun j v hj => by rw [hw]; exact k5 j v hj⟩⟩, by show l.length ≤ maxLen; omega, k4⟩
    · rename_i fs hu
      simp only [Bool.and_eq_true] at h
      obtain ⟨h1, h2⟩ := h
      have h1 := beq_eq h1
      obtain ⟨xs, n, _, _, hl, hxl, hel⟩ := DataW.trod_struct hu hx
      have := fields_open (X := X) (cs := cs) (fun t u ht fuel ds z hz => ih t u ht fuel ds z hz) fs.toList 0 _ h2 (fun f hf => by
        obtain ⟨i, hi⟩ := List.getElem?_of_mem hf
        have hi2 : fs[i]? = some f := by simpa using hi
        have hlt := (Array.getElem?_eq_some_iff.1 hi2).1
        have := hel i f hi2
        rw [List.getElem?_eq_getElem (by omega)] at this
        exact ⟨n, _, this⟩) (by simp [hl, h1])
      simpa using this
    · cases h

end

/-! ### Contracts of laws -/
theorem Fun.calls {C : Cfg} {f : FuncId} {fn : Func} {c : Code} (hf : C.P.funcs[f]? = some fn) (hb : fn.body = some c) (hname : (fn.name == "runtime.NumGoroutine") = false) {as : List AV} {r : Tm} (h : Fun C f as [] r [])
    {W : World} {vs : List Value} (hG : ∀ g ∈ C.G, globOK (W.cell? g.1) g.2) (hv : repAVs (mkX C.E (fun b => b < W.heap.size) (fun _ => none) W []) as vs) :
    Calls C.P f vs.toArray W fun e w' => (∃ v X, e = .returned v ∧ repTm X v r) ∧ Go.RowKit.Below W.heap.size W w' := by
  have hB : RelB C.E C.G (fun b => b < W.heap.size) (fun _ => none) W [] := by
    refine ⟨fun i bx h => by simp at h, fun i j b n m _ _ h => (by cases h), fun b h => h, fun b _ i n h => ?_, fun i b n h => ?_, fun g hg => ⟨hG g hg, ?_⟩⟩
    · simp [bRw] at h
    · simp [bAl] at h
    · obtain ⟨u, this⟩ := globOK_some (hG g hg)
      rcases Nat.lt_or_ge g.1.block W.heap.size with h5 | h5
      · exact h5
      · simp [World.cell?, Array.getElem?_eq_none h5] at this
  rcases h _ _ W vs hB hv with ⟨v, w', h1, _⟩ | ⟨_, h2⟩
  · exfalso
    unfold callFunc at h1
    rw [Sem.run_bind] at h1
    have h1 : ((match C.P.funcs[f]? with | none => _ | some fn => _) : Sem Next).run C.P W = _ := h1
    rw [hf] at h1
    simp [hname, hb] at h1
  · refine h2.mono ?_
    rintro e w' ⟨v, rfl, Z', β', hB', hr, hx⟩
    exact ⟨⟨v, _, rfl, hr⟩, hx.os, hx.tape, hx.output, hx.size, fun k hk => hx.frame k hk fun i n h => by simp [bRw] at h⟩

/-- An argument, opened. -/
theorem arg_agg {X : Cx} {u : Ty} {y : u.T} {cs : Array Value} (h : repT X u y cs.toList) : repAV X (.agg cs) (.agg (unT u y)) := ⟨cs.toList, by simp, repPs_unT u y h⟩
theorem arg_sl {X : Cx} {u : Ty} {y : List u.T} {v : Value} (h : repT X (.sl u) y [v]) : repAV X v (.one (.fs u y false)) := by
  refine ⟨⟨h, fun e => by cases e⟩, ?_⟩
  obtain ⟨a, n, c, e, _⟩ := h
  cases e
  rfl
theorem sized_sl {H : Type} {enc : TypeId × Value → H} {P : Program} {W : World} {base : Nat} {sp : Nat → Bool} {held : Bool} {ts : List TypeId} {ds : List (DataW H)} (h : (DataW.weightsEach P ts ds).all (· ≤ reachBytes) = true) {j : Nat} {t e : TypeId} (hu : P.underlying t = some (.slice e)) {z : Nat} (hz : P.bytesOf e = z)
    {fuel : Nat} {v : Value} {d : DataW H} {p : List MemPlace} (hf : DataW.trod enc P W base sp held fuel t [v] = some (d, p)) (ht : ts[j]? = some t) (hd : ds[j]? = some d) {X : Cx} {u : Ty} {y : List u.T} (hr : repT X (.sl u) y [v]) : y.length * z ≤ reachBytes := by
  obtain ⟨a, n, c, e1, hl, _⟩ := hr
  rcases DataW.trod_slice hu hf with ⟨e2, _⟩ | ⟨a', len, cap, elems, rest, k, _, e2, e3, _, _, _, hlen, _⟩
  · rw [e1] at e2
    cases e2
    rw [hl]; omega
  · rw [e1] at e2
    cases e2
    cases e3
    have := sized_slice h ht hd hu
    rw [hz] at this
    rw [hl, ← hlen]
    simp only [List.length_map] at this
    exact Nat.le_trans (Nat.mul_le_mul_right _ (Nat.le_add_right _ _)) this

theorem weights_part {H : Type} {P : Program} {ts : List TypeId} {ds : List (DataW H)} (h : (DataW.weightsEach P ts ds).all (· ≤ reachBytes) = true) {j : Nat} {t : TypeId} {fs : Array Field} {parts : List (DataW H)} (hu : P.underlying t = some (.struct fs)) (ht : ts[j]? = some t) (hd : ds[j]? = some (.agg parts)) : (DataW.weightsEach P (fs.toList.map (·.type)) parts).all (· ≤ reachBytes) = true := by
  refine List.all_eq_true.2 fun n hn => ?_
  exact List.all_eq_true.1 h _ (DataW.weights_mem_each ht hd n (by simpa [DataW.weights, hu] using hn))
/-- A slice that a struct bears: its size. -/
theorem sized_fld {H : Type} {enc : TypeId × Value → H} {P : Program} {W : World} {base : Nat} {sp : Nat → Bool} {held : Bool} {ts : List TypeId} {ds : List (DataW H)} (h : (DataW.weightsEach P ts ds).all (· ≤ reachBytes) = true) {j : Nat} {t e : TypeId} {fs : Array Field} (hu : P.underlying t = some (.struct fs)) {z : Nat}
    {fuel : Nat} {cs : List Value} {d : DataW H} {p : List MemPlace} (hf : DataW.trod enc P W base sp held fuel t cs = some (d, p)) (ht : ts[j]? = some t) (hd : ds[j]? = some d) {i : Nat} {f : Field} (hi : fs[i]? = some f) (hs : P.underlying f.type = some (.slice e)) (hz : P.bytesOf e = z) (hc : P.cellsOf f.type = 1) {X : Cx} {u : Ty} {y : List u.T} {ds' : List Value} (hr : repT X (.sl u) y ds') (hv : (cs.drop f.offset).take 1 = ds'.take 1) : y.length * z ≤ reachBytes := by
  obtain ⟨v, hv2, hr⟩ : ∃ v, ds' = [v] ∧ repT X (.sl u) y [v] := by obtain ⟨a, n, c, e, hr⟩ := hr; exact ⟨_, e, a, n, c, rfl, hr⟩
  rw [hv2, show List.take 1 [v] = [v] from rfl] at hv
  obtain ⟨xs, n, _, ed, _, hxl, hel⟩ := DataW.trod_struct hu hf
  have hfl := hel i f hi
  have hlt := (Array.getElem?_eq_some_iff.1 hi).1
  rw [hc, hv, List.getElem?_eq_getElem (show i < xs.length by omega)] at hfl
  have ed := (Prod.mk.inj ed).1
  subst ed
  exact sized_sl (weights_part h hu ht hd) hs hz hfl (j := i) (by simp [hi]) (by rw [List.getElem?_map, List.getElem?_eq_getElem (show i < xs.length by omega)]; rfl) hr
theorem pair_snd {X : Cx} {a b : Ty} {y : a.T × b.T} {cs : List Value} (h : repT X (.pair a b) y cs) : repT X b y.2 (cs.drop a.size) := by
  obtain ⟨c1, c2, rfl, h1, h2⟩ := h
  rw [← repT_length X a y.1 c1 h1, List.drop_left]
  exact h2
theorem pair_fst {X : Cx} {a b : Ty} {y : a.T × b.T} {cs : List Value} (h : repT X (.pair a b) y cs) : repT X a y.1 (cs.take a.size) := by
  obtain ⟨c1, c2, rfl, h1, h2⟩ := h
  rw [← repT_length X a y.1 c1 h1, List.take_left]
  exact h1

/-- A table that the condition lays: its cells. -/
theorem tab_cells {P : Program} {w : World} {nm : String} {g : Nat} {t e : TypeId} {n : Nat} {k : IntKind} {l : List Int} {cs : Array Value} {fuel : Nat} {p : List MemPlace} (hg : P.globalNamed nm = some g) (hv : w.var? P nm = some cs)
    (ht : P.underlying t = some (.array n e)) (he : P.underlying e = some (.int k)) (hc : P.cellsOf e = 1) (hx : DataW.trod (fun _ => ()) P w 0 (fun _ => true) false fuel t cs.toList = some (.agg (l.map fun v => .lit (.int k v)), p)) :
    ∀ j, j < l.length → w.cell? ⟨g, j, none⟩ = some (.int k (l.getD j 0)) := by
  intro j hj
  obtain ⟨xs, m, _, e1, h2, h3, h4⟩ := DataW.trod_array ht hx
  have e2 := (Prod.mk.inj e1).1
  have e2 : l.map (fun v => DataW.lit (.int k v)) = xs.map (·.1) := by injection e2
  have hl : xs.length = l.length := by
    have := congrArg List.length e2
    simpa using this.symm
  have h5 := h4 j (by omega)
  rw [hc, List.getElem?_eq_getElem (show j < xs.length by omega)] at h5
  obtain ⟨v, e3, e4, _⟩ := DataW.trod_int he h5
  have e5 : xs[j].1 = DataW.lit (.int k (l.getD j 0)) := by
    have := congrArg (fun z => z[j]?) e2
    simp only [List.getElem?_map, List.getElem?_eq_getElem hj, List.getElem?_eq_getElem (show j < xs.length by omega), Option.map_some, Option.some.injEq] at this
    rw [← this, List.getD_eq_getElem?_getD, List.getElem?_eq_getElem hj, Option.getD_some]
  rw [e4] at e5
  have ev : v = l.getD j 0 := by
    injection e5 with h
    injection h
  subst ev
  rw [World.var?_cell hg hv j]
  have := congrArg (fun z => z[0]?) e3
  simp only [List.getElem?_take, Nat.mul_one, List.getElem?_drop, Nat.add_zero, Nat.lt_one_iff, if_true, List.getElem?_cons_zero] at this
  simpa using this

/-- A variable of an interface type that the condition lays: its cell. -/
theorem syn_cell {H : Type} {enc : TypeId × Value → H} {P : Program} {w : World} {nm : String} {g : Nat} {t : TypeId} {ms : Array (String × TypeId)} {cs : Array Value} {base fuel : Nat} {sp : Nat → Bool} {held : Bool} {x : DataW H × List MemPlace} (hg : P.globalNamed nm = some g) (hv : w.var? P nm = some cs)
    (ht : P.underlying t = some (.interface ms)) (hx : DataW.trod enc P w base sp held fuel t cs.toList = some x) : globOK (w.cell? ⟨g, 0, none⟩) (.tuple #[]) := by
  have key : ∃ u, cs.toList = [u] ∧ (u = .nilIface ∨ ∃ t x, u = .iface t x) := by
    cases fuel with
    | zero => cases hx
    | succ n =>
      unfold DataW.trod at hx
      rw [ht] at hx
      generalize cs.toList = l at hx
      match l with
      | [] => cases hx
      | [.nilIface] => exact ⟨_, rfl, .inl rfl⟩
      | [.iface a b] => exact ⟨_, rfl, .inr ⟨a, b, rfl⟩⟩
      | [.bool _] | [.int _ _] | [.float _ _] | [.string _] | [.pointer _] | [.slice _ _ _] | [.agg _] | [.map _] | [.tuple _] => cases hx
      | _ => revert hx; split <;> simp_all
  obtain ⟨u, h1, h2⟩ := key
  have h3 : cs = #[u] := by
    apply Array.ext'
    rw [h1]
  refine ⟨u, ?_, h2⟩
  rw [World.var?_cell hg hv 0, h3]
  rfl


theorem sized_str {H : Type} {enc : TypeId × Value → H} {P : Program} {W : World} {base : Nat} {sp : Nat → Bool} {held : Bool} {ts : List TypeId} {ds : List (DataW H)} (h : (DataW.weightsEach P ts ds).all (· ≤ reachBytes) = true) {j : Nat} {t : TypeId} (hu : P.underlying t = some .string)
    {fuel : Nat} {s : ByteArray} {d : DataW H} {p : List MemPlace} (hf : DataW.trod enc P W base sp held fuel t [.string s] = some (d, p)) (ht : ts[j]? = some t) (hd : ds[j]? = some d) : s.size ≤ reachBytes := by
  obtain ⟨s', e1, e2, _⟩ := DataW.trod_string hu hf
  cases e1
  cases e2
  exact sized_string h ht hd

end Go.Proofs.YtllannmegnklmaaE
