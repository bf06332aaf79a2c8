/- A small world of typed data, and how it stands to the model's memory. -/
import Derived.Below
import Derived.Laws.CopyRow
import Derived.Laws.Rows
import Derived.Deep.WholeRow
import Derived.Laws.Tables
import Derived.KernelRfl
import Derived.Orders
set_option linter.unusedVariables false
set_option linter.unusedSimpArgs false
set_option linter.unnecessarySimpa false
namespace Go.Proofs.YtllannmegnklmaaE
open Go

/-! ### Types of plain data -/
inductive Ty where
  | int (k : IntKind) | bool | str | pair (a b : Ty) | arr (n : Nat) (t : Ty) | sl (t : Ty)

def Ty.T : Ty → Type
  | .int _ => Int
  | .bool => Bool
  | .str => ByteArray
  | .pair a b => a.T × b.T
  | .arr _ t => List t.T
  | .sl t => List t.T

def Ty.size : Ty → Nat
  | .pair a b => a.size + b.size
  | .arr n t => n * t.size
  | _ => 1

def Ty.dflt : (t : Ty) → t.T
  | .int _ => (0 : Int)
  | .bool => false
  | .str => ByteArray.empty
  | .pair a b => (a.dflt, b.dflt)
  | .arr n t => List.replicate n t.dflt
  | .sl _ => []

/-- Are two types one? With the proof. -/
def Ty.eq? : (a b : Ty) → Option (PLift (a = b))
  | .int k, .int k' => if h : k = k' then some ⟨by rw [h]⟩ else none
  | .bool, .bool => some ⟨rfl⟩
  | .str, .str => some ⟨rfl⟩
  | .pair a b, .pair c d => match Ty.eq? a c, Ty.eq? b d with
    | some h, some g => some ⟨by rw [h.down, g.down]⟩
    | _, _ => none
  | .arr n t, .arr m u => if h : n = m then (match Ty.eq? t u with | some g => some ⟨by rw [h, g.down]⟩ | none => none) else none
  | .sl t, .sl u => match Ty.eq? t u with | some g => some ⟨by rw [g.down]⟩ | none => none
  | _, _ => none

/-- A list of one type as a list of another one that is the same. -/
def castL {a b : Ty} (h : a = b) (l : List a.T) : List b.T := h ▸ l

/-! ### Addresses inside a box -/
structure Off where
  base : Nat
  idx : Nat
  sz : Nat
  sub : Nat
def Off.val (o : Off) : Nat := o.base + o.idx * o.sz + o.sub

inductive Cell where
  | sc (v : Value)
  | err (e : Option Int)
  | fs (t : Ty) (l : List t.T) (tight : Bool)
  | os (id base lo esz len : Nat) (cap : Option Nat)
  | ptr (id : Nat) (o : Off)
  | fp (t : Ty) (x : t.T) (sub : Nat)
  | oerr (t : Nat)
  | ip (t : TypeId) (id : Nat)

inductive Piece where
  | c (x : Cell)
  | row (n : Nat) (t : Ty) (l : List t.T)

def Piece.size : Piece → Nat
  | .c _ => 1
  | .row n t _ => n * t.size

/-- 'clo': a function's value, with what it bears; how its cells are put together. -/
inductive AV where
  | one (x : Cell)
  | agg (ps : List Piece)
  | clo (f : FuncId) (sh : List (Bool × Nat)) (ps : List Piece)

/-- The values that a function's value bears, out of their cells. -/
def chop : List (Bool × Nat) → List Value → List Value
  | [], _ => []
  | (true, n) :: r, cs => .agg (cs.take n).toArray :: chop r (cs.drop n)
  | (false, _) :: r, cs => cs.headD default :: chop r cs.tail

inductive Tm where
  | any
  | v (x : AV)
  | tup (xs : List AV)

inductive Box where
  | dead
  | ex (ro : Bool) (ps : List Piece) (ty : TypeId)
  | gro (ro : Bool) (t : Ty) (l : List t.T) (ty : TypeId)
  | fix (ro : Bool) (t : Ty) (l : List t.T) (ty : TypeId)

def Box.alive : Box → Bool
  | .dead => false
  | _ => true
def Box.rw : Box → Bool
  | .dead => false
  | .ex ro _ _ => !ro
  | .gro ro _ _ _ => !ro
  | .fix ro _ _ _ => !ro
def Box.isEx : Box → Bool
  | .ex _ _ _ => true
  | .fix _ _ _ _ => true
  | _ => false

def Cell.id? : Cell → Option Nat
  | .os id _ _ _ _ _ => some id
  | .ptr id _ => some id
  | .ip _ id => some id
  | _ => none

structure St where
  env : List Tm
  boxes : List Box
  m : Nat

def bAl (bs : List Box) (i : Nat) : Bool := (bs[i]?).any Box.alive
def bRw (bs : List Box) (i : Nat) : Bool := (bs[i]?).any Box.rw
def bEx (bs : List Box) (i : Nat) : Bool := (bs[i]?).any Box.isEx

/-! ### What stands for what -/
structure Cx where
  E : TypeId
  β : Nat → Option (Nat × Nat)
  al : Nat → Bool
  nb : Nat
  Z : Nat → Prop
  w : World

def rowOf {α : Type} (R : α → List Value → Prop) : List α → List Value → Prop
  | [], cs => cs = []
  | x :: xs, cs => ∃ c1 c2, cs = c1 ++ c2 ∧ R x c1 ∧ rowOf R xs c2

def Cx.at (X : Cx) (p : Addr) (ds : List Value) : Prop := p.spot = none ∧ X.Z p.block ∧ ∀ j v, ds[j]? = some v → X.w.cell? (p.add j) = some v

def repT (X : Cx) : (t : Ty) → t.T → List Value → Prop
  | .int k, n, cs => cs = [.int k n]
  | .bool, b, cs => cs = [.bool b]
  | .str, s, cs => cs = [.string s]
  | .pair a b, x, cs => ∃ c1 c2, cs = c1 ++ c2 ∧ repT X a x.1 c1 ∧ repT X b x.2 c2
  | .arr n t, l, cs => List.length l = n ∧ rowOf (repT X t) l cs
  | .sl t, l, cs => ∃ a n c, cs = [.slice a n c] ∧ List.length l = n ∧ n ≤ c ∧ (0 < n → ∃ p ds, a = some p ∧ rowOf (repT X t) l ds ∧ X.at p ds)

def errV (E : TypeId) : Option Int → Value
  | none => .nilIface
  | some k => .iface E (.int .i64 k)

def repC (X : Cx) (v : Value) : Cell → Prop
  | .sc x => v = x ∧ x.oneCell' = true
  | .err e => v = errV X.E e
  | .fs t l tight => repT X (.sl t) l [v] ∧ (tight = true → ∀ a n c, v = .slice a n c → c = n)
  | .os id base lo esz len cap => id < X.nb ∧ (X.al id = true → ∃ a c, v = .slice a len c ∧ len ≤ c ∧ (∀ k, cap = some k → c = k) ∧
      (c ≠ 0 → ∃ b z, X.β id = some (b, z) ∧ a = some ⟨b, base + lo * esz, none⟩ ∧ base + lo * esz + c * esz ≤ z))
  | .oerr t => ∃ u, v = .iface t u
  | .ptr id o => id < X.nb ∧ (X.al id = true → ∃ b z, X.β id = some (b, z) ∧ v = .pointer (some ⟨b, o.val, none⟩))
  | .ip t id => id < X.nb ∧ ∃ q, v = .iface t (.pointer q) ∧ (X.al id = true → ∃ b z, X.β id = some (b, z) ∧ q = some ⟨b, 0, none⟩)
  | .fp t x sub => ∃ p ds, v = .pointer (some p) ∧ p.spot = none ∧ X.Z p.block ∧ repT X t x ds ∧ ∀ j u, ds[sub + j]? = some u → X.w.cell? (p.add j) = some u

def repP (X : Cx) (cs : List Value) : Piece → Prop
  | .c x => ∃ v, cs = [v] ∧ repC X v x ∧ v.oneCell' = true
  | .row n t l => l.length = n ∧ rowOf (repT X t) l cs

def repPs (X : Cx) : List Piece → List Value → Prop
  | [], cs => cs = []
  | p :: ps, cs => ∃ c1 c2, cs = c1 ++ c2 ∧ repP X c1 p ∧ repPs X ps c2

def repAV (X : Cx) (v : Value) : AV → Prop
  | .one x => repC X v x ∧ v.oneCell' = true
  | .agg ps => ∃ cs, v = .agg cs.toArray ∧ repPs X ps cs
  | .clo f sh ps => ∃ cs, v = .func (.func f) #[] (chop sh cs).toArray ∧ repPs X ps cs

def repAVs (X : Cx) : List AV → List Value → Prop
  | [], vs => vs = []
  | x :: xs, vs => ∃ v us, vs = v :: us ∧ repAV X v x ∧ repAVs X xs us

def repTm (X : Cx) (v : Value) : Tm → Prop
  | .any => True
  | .v x => repAV X v x
  | .tup xs => ∃ vs, v = .tuple vs.toArray ∧ repAVs X xs vs

/-- Are strings' bytes marked in this program? (where they are not, no box has a mark) -/
def marks : Bool := true
/-- Are pointers in interface values told? (else they are errors of their type) -/
@[irreducible] def ifps : Bool := true

def thaw (fr : Nat × Nat) (n : Nat) : Prop := fr.1 ≤ fr.2 ∧ (∀ o, o < n → ¬ (fr.1 ≤ o ∧ o < fr.2)) ∧ (marks = false → fr.1 = fr.2)

def repBox (X : Cx) (i : Nat) : Box → Prop
  | .dead => True
  | .ex _ ps ty => ∃ b cs fr, X.β i = some (b, cs.length) ∧ X.w.heap[b]? = some (.cells cs.toArray ty fr) ∧ thaw fr cs.length ∧ repPs X ps cs
  | .gro _ t l ty => (X.β i = none ∧ l = []) ∨ ∃ b cs fr c1 c2, X.β i = some (b, cs.length) ∧ X.w.heap[b]? = some (.cells cs.toArray ty fr) ∧ thaw fr cs.length ∧ cs = c1 ++ c2 ∧ rowOf (repT X t) l c1 ∧ (∀ v ∈ cs, v.oneCell' = true)
  | .fix _ t l ty => (X.β i = none ∧ l = []) ∨ ∃ b cs fr c1 c2, X.β i = some (b, cs.length) ∧ X.w.heap[b]? = some (.cells cs.toArray ty fr) ∧ thaw fr cs.length ∧ cs = c1 ++ c2 ∧ rowOf (repT X t) l c1 ∧ (∀ v ∈ cs, v.oneCell' = true)

/-- What stands in the program's own variables. -/
abbrev Globs := List (Addr × Value)
/-- What a variable's cell holds; a tuple: any interface value. -/
def globOK (c : Option Value) : Value → Prop
  | .tuple _ => ∃ u, c = some u ∧ (u = .nilIface ∨ ∃ t x, u = .iface t x)
  | v => c = some v
theorem globOK_some {c : Option Value} {v : Value} (h : globOK c v) : ∃ u, c = some u := by
  cases v <;> first | exact ⟨_, h⟩ | exact h.imp fun u hu => hu.1

def mkX (E : TypeId) (Z : Nat → Prop) (β : Nat → Option (Nat × Nat)) (w : World) (bs : List Box) : Cx := ⟨E, β, bAl bs, bs.length, Z, w⟩

structure RelB (E : TypeId) (G : Globs) (Z : Nat → Prop) (β : Nat → Option (Nat × Nat)) (w : World) (bs : List Box) : Prop where
  box : ∀ i bx, bs[i]? = some bx → repBox (mkX E Z β w bs) i bx
  inj : ∀ i j b n m, bAl bs i = true → bAl bs j = true → β i = some (b, n) → β j = some (b, m) → i = j
  zlt : ∀ b, Z b → b < w.heap.size
  zrw : ∀ b, Z b → ∀ i n, bRw bs i = true → β i ≠ some (b, n)
  zro : ∀ i b n, bAl bs i = true → bRw bs i = false → β i = some (b, n) → Z b
  glob : ∀ g ∈ G, globOK (w.cell? g.1) g.2 ∧ Z g.1.block

def RelE (X : Cx) (tmps : Array Value) (env : List Tm) : Prop := tmps.size = env.length ∧ ∀ (i : Nat) (v : Value) (tm : Tm), tmps[i]? = some v → env[i]? = some tm → repTm X v tm

structure Rel (E : TypeId) (G : Globs) (Z : Nat → Prop) (β : Nat → Option (Nat × Nat)) (w : World) (a : Act) (s : St) : Prop where
  defers : a.defers = []
  env : RelE (mkX E Z β w s.boxes) a.tmps s.env
  bx : RelB E G Z β w s.boxes

/-- What may have changed. -/
structure Ext (m : Nat) (Z : Nat → Prop) (β : Nat → Option (Nat × Nat)) (bs : List Box) (w : World) (Z' : Nat → Prop) (β' : Nat → Option (Nat × Nat)) (bs' : List Box) (w' : World) : Prop where
  os : w'.os = w.os
  tape : w'.tape = w.tape
  output : w'.output = w.output
  size : w.heap.size ≤ w'.heap.size
  frame : ∀ b, b < w.heap.size → (∀ i n, bRw bs i = true → β i ≠ some (b, n)) → w'.heap[b]? = w.heap[b]?
  zmono : ∀ b, Z b → Z' b
  prov : ∀ i b n, bRw bs' i = true → β' i = some (b, n) → w.heap.size ≤ b ∨ ∃ j k, bRw bs j = true ∧ β j = some (b, k)
  zprov : ∀ b, Z' b → Z b ∨ w.heap.size ≤ b ∨ ∃ j k, bRw bs j = true ∧ β j = some (b, k)
  kind : ∀ i, i < m → bEx bs' i = true → bEx bs i = true
  keep : ∀ i, i < m → bEx bs' i = true → β' i = β i

theorem Ext.refl (m : Nat) (Z : Nat → Prop) (β : Nat → Option (Nat × Nat)) (bs : List Box) (w : World) : Ext m Z β bs w Z β bs w :=
  ⟨rfl, rfl, rfl, Nat.le_refl _, fun _ _ _ => rfl, fun _ h => h, fun i b n h1 h2 => .inr ⟨i, n, h1, h2⟩, fun _ h => .inl h, fun _ _ h => h, fun _ _ _ => rfl⟩

theorem Ext.trans {m : Nat} {Z Z1 Z2 : Nat → Prop} {β β1 β2 : Nat → Option (Nat × Nat)} {bs bs1 bs2 : List Box} {w w1 w2 : World}
    (h : Ext m Z β bs w Z1 β1 bs1 w1) (k : Ext m Z1 β1 bs1 w1 Z2 β2 bs2 w2) : Ext m Z β bs w Z2 β2 bs2 w2 where
  os := k.os.trans h.os
  tape := k.tape.trans h.tape
  output := k.output.trans h.output
  size := Nat.le_trans h.size k.size
  frame := fun b hb hn => by
    rw [k.frame b (Nat.lt_of_lt_of_le hb h.size) ?_, h.frame b hb hn]
    intro i n hi e
    rcases h.prov i b n hi e with hp | ⟨j, q, hj, ej⟩
    · omega
    · exact hn j q hj ej
  zmono := fun b hb => k.zmono b (h.zmono b hb)
  prov := fun i b n hi e => by
    rcases k.prov i b n hi e with hp | ⟨j, q, hj, ej⟩
    · exact .inl (Nat.le_trans h.size hp)
    · exact h.prov j b q hj ej
  zprov := fun b hb => by
    rcases k.zprov b hb with hz | hp | ⟨j, q, hj, ej⟩
    · exact h.zprov b hz
    · exact .inr (.inl (Nat.le_trans h.size hp))
    · exact .inr (h.prov j b q hj ej)
  kind := fun i hi he => h.kind i hi (k.kind i hi he)
  keep := fun i hi he => (k.keep i hi he).trans (h.keep i hi (k.kind i hi he))

/-! ### What stands for a thing stands for it later, too -/
structure Cx.le (X Y : Cx) : Prop where
  E : Y.E = X.E
  Z : ∀ b, X.Z b → Y.Z b
  heap : ∀ b, X.Z b → Y.w.heap[b]? = X.w.heap[b]?

/-- Of one box. -/
def Cx.okAt (X Y : Cx) (i : Nat) : Prop := i < X.nb → i < Y.nb ∧ (Y.al i = true → X.al i = true ∧ Y.β i = X.β i)

theorem cell_of_heap {w w' : World} {p : Addr} (h : w'.heap[p.block]? = w.heap[p.block]?) : w'.cell? p = w.cell? p := by
  unfold World.cell?; rw [h]

theorem add_block (p : Addr) (n : Nat) : (p.add n).block = p.block := by
  unfold Addr.add; split <;> rfl

theorem rowOf_mono {α : Type} {R S : α → List Value → Prop} (h : ∀ x cs, R x cs → S x cs) : ∀ (l : List α) (cs : List Value), rowOf R l cs → rowOf S l cs
  | [], _, hh => hh
  | _ :: xs, _, ⟨c1, c2, e, h1, h2⟩ => ⟨c1, c2, e, h _ _ h1, rowOf_mono h xs c2 h2⟩

theorem Cx.at_le {X Y : Cx} (h : X.le Y) {p : Addr} {ds : List Value} (hh : X.at p ds) : Y.at p ds :=
  ⟨hh.1, h.Z _ hh.2.1, fun j v hj => by rw [cell_of_heap (w := X.w) (by rw [add_block]; exact h.heap _ hh.2.1)]; exact hh.2.2 j v hj⟩

theorem repT_le {X Y : Cx} (h : X.le Y) : ∀ (t : Ty) (x : t.T) (cs : List Value), repT X t x cs → repT Y t x cs
  | .int _, _, _, hh => hh
  | .bool, _, _, hh => hh
  | .str, _, _, hh => hh
  | .pair a b, _, _, ⟨c1, c2, e, h1, h2⟩ => ⟨c1, c2, e, repT_le h a _ _ h1, repT_le h b _ _ h2⟩
  | .arr n t, l, cs, ⟨hl, hr⟩ => ⟨hl, rowOf_mono (fun x ds => repT_le h t x ds) l cs hr⟩
  | .sl t, l, _, ⟨a, n, c, e, hl, hc, hr⟩ => ⟨a, n, c, e, hl, hc, fun hn => by
      obtain ⟨p, ds, ea, h1, h2⟩ := hr hn
      exact ⟨p, ds, ea, rowOf_mono (fun x ds => repT_le h t x ds) l ds h1, Cx.at_le h h2⟩⟩

theorem repC_le {X Y : Cx} (h : X.le Y) {v : Value} : ∀ {c : Cell}, (∀ i, c.id? = some i → X.okAt Y i) → repC X v c → repC Y v c
  | .sc _, _, hh => hh
  | .oerr _, _, hh => hh
  | .err _, _, hh => by simpa only [repC, h.E] using hh
  | .fs t l _, _, ⟨h1, h2⟩ => ⟨repT_le h (.sl t) l _ h1, h2⟩
  | .os id _ _ _ _ _, hi, ⟨hn, hh⟩ => ⟨(hi id rfl hn).1, fun ha => by
      obtain ⟨h1, h2⟩ := (hi id rfl hn).2 ha
      rw [h2]; exact hh h1⟩
  | .ptr id _, hi, ⟨hn, hh⟩ => ⟨(hi id rfl hn).1, fun ha => by
      obtain ⟨h1, h2⟩ := (hi id rfl hn).2 ha
      rw [h2]; exact hh h1⟩
  | .ip _ id, hi, ⟨hn, q, e, hh⟩ => ⟨(hi id rfl hn).1, q, e, fun ha => by
      obtain ⟨h1, h2⟩ := (hi id rfl hn).2 ha
      rw [h2]; exact hh h1⟩
  | .fp t x sub, _, ⟨p, ds, e, h0, h1, h2, h3⟩ => ⟨p, ds, e, h0, h.Z _ h1, repT_le h t x ds h2, fun j u hj => by
      rw [cell_of_heap (w := X.w) (by rw [add_block]; exact h.heap _ h1)]; exact h3 j u hj⟩

def Piece.id? : Piece → Option Nat
  | .c x => x.id?
  | _ => none

def idsOf (ps : List Piece) : List Nat := ps.filterMap Piece.id?

theorem repP_le {X Y : Cx} (h : X.le Y) {cs : List Value} : ∀ {p : Piece}, (∀ i, p.id? = some i → X.okAt Y i) → repP X cs p → repP Y cs p
  | .c _, hi, ⟨v, e, hh, ho⟩ => ⟨v, e, repC_le h hi hh, ho⟩
  | .row _ t l, _, ⟨hl, hr⟩ => ⟨hl, rowOf_mono (fun x ds => repT_le h t x ds) l cs hr⟩

theorem repPs_le {X Y : Cx} (h : X.le Y) : ∀ {ps : List Piece} {cs : List Value}, (∀ i, i ∈ idsOf ps → X.okAt Y i) → repPs X ps cs → repPs Y ps cs
  | [], _, _, hh => hh
  | p :: ps, _, hi, ⟨c1, c2, e, h1, h2⟩ => ⟨c1, c2, e, repP_le h (fun i hp => hi i (by simp [idsOf, List.filterMap_cons, hp])) h1,
      repPs_le h (fun i hp => hi i (by
        unfold idsOf at hp ⊢
        rw [List.filterMap_cons]
        split
        · exact hp
        · exact List.mem_cons_of_mem _ hp)) h2⟩

def AV.ids : AV → List Nat
  | .one x => x.id?.toList
  | .agg ps => idsOf ps
  | .clo _ _ ps => idsOf ps
def Tm.ids : Tm → List Nat
  | .any => []
  | .v x => x.ids
  | .tup xs => xs.flatMap AV.ids

theorem repAV_le {X Y : Cx} (h : X.le Y) {v : Value} : ∀ {x : AV}, (∀ i, i ∈ x.ids → X.okAt Y i) → repAV X v x → repAV Y v x
  | .one _, hi, ⟨hh, ho⟩ => ⟨repC_le h (fun i he => hi i (by simp [AV.ids, he])) hh, ho⟩
  | .agg _, hi, ⟨cs, e, hh⟩ => ⟨cs, e, repPs_le h hi hh⟩
  | .clo _ _ _, hi, ⟨cs, e, hh⟩ => ⟨cs, e, repPs_le h hi hh⟩

theorem repAVs_le {X Y : Cx} (h : X.le Y) : ∀ {xs : List AV} {vs : List Value}, (∀ i, i ∈ xs.flatMap AV.ids → X.okAt Y i) → repAVs X xs vs → repAVs Y xs vs
  | [], _, _, hh => hh
  | x :: xs, _, hi, ⟨v, us, e, h1, h2⟩ => ⟨v, us, e, repAV_le h (fun i he => hi i (by simp [he])) h1, repAVs_le h (fun i he => hi i (by
      simp only [List.flatMap_cons, List.mem_append]; exact .inr he)) h2⟩

theorem repTm_le {X Y : Cx} (h : X.le Y) {v : Value} : ∀ {x : Tm}, (∀ i, i ∈ x.ids → X.okAt Y i) → repTm X v x → repTm Y v x
  | .any, _, _ => trivial
  | .v _, hi, hh => repAV_le h hi hh
  | .tup _, hi, ⟨vs, e, hh⟩ => ⟨vs, e, repAVs_le h hi hh⟩

/-! ### Lengths, parts -/
theorem rowOf_length {α : Type} {R : α → List Value → Prop} {z : Nat} (h : ∀ x cs, R x cs → cs.length = z) : ∀ (l : List α) (cs : List Value), rowOf R l cs → cs.length = l.length * z
  | [], _, hh => by rw [show _ = [] from hh]; simp
  | _ :: xs, _, ⟨c1, c2, e, h1, h2⟩ => by
    rw [e, List.length_append, h _ _ h1, rowOf_length h xs c2 h2, List.length_cons, Nat.succ_mul]; omega

theorem repT_length (X : Cx) : ∀ (t : Ty) (x : t.T) (cs : List Value), repT X t x cs → cs.length = t.size
  | .int _, _, _, hh => by rw [show _ = _ from hh]; rfl
  | .bool, _, _, hh => by rw [show _ = _ from hh]; rfl
  | .str, _, _, hh => by rw [show _ = _ from hh]; rfl
  | .pair a b, _, _, ⟨c1, c2, e, h1, h2⟩ => by rw [e, List.length_append, repT_length X a _ _ h1, repT_length X b _ _ h2]; rfl
  | .arr n t, l, cs, ⟨hl, hr⟩ => by
    have := rowOf_length (fun x ds => repT_length X t x ds) l cs hr
    rw [this, hl]; rfl
  | .sl t, l, _, ⟨a, n, c, e, _⟩ => by rw [e]; rfl

theorem repP_length {X : Cx} {cs : List Value} : ∀ {p : Piece}, repP X cs p → cs.length = p.size
  | .c _, ⟨v, e, _⟩ => by rw [e]; rfl
  | .row n t l, ⟨hl, hr⟩ => by rw [rowOf_length (fun x ds => repT_length X t x ds) l cs hr, hl]; rfl

def psize : List Piece → Nat
  | [] => 0
  | p :: ps => p.size + psize ps

theorem repPs_length {X : Cx} : ∀ {ps : List Piece} {cs : List Value}, repPs X ps cs → cs.length = psize ps
  | [], _, hh => by rw [show _ = [] from hh]; rfl
  | p :: ps, _, ⟨c1, c2, e, h1, h2⟩ => by rw [e, List.length_append, repP_length h1, repPs_length h2]; rfl

theorem repT_one (X : Cx) : ∀ (t : Ty) (x : t.T) (cs : List Value), repT X t x cs → ∀ v ∈ cs, v.oneCell' = true
  | .int _, _, _, hh => by rw [show _ = _ from hh]; simp [Value.oneCell']
  | .bool, _, _, hh => by rw [show _ = _ from hh]; simp [Value.oneCell']
  | .str, _, _, hh => by rw [show _ = _ from hh]; simp [Value.oneCell']
  | .pair a b, _, _, ⟨c1, c2, e, h1, h2⟩ => by
    intro v hv
    rw [e, List.mem_append] at hv
    rcases hv with hv | hv
    · exact repT_one X a _ _ h1 v hv
    · exact repT_one X b _ _ h2 v hv
  | .arr n t, l, cs, ⟨hl, hr⟩ => by
    have key : ∀ (l : List t.T) (cs : List Value), rowOf (repT X t) l cs → ∀ v ∈ cs, v.oneCell' = true := by
      intro l
      induction l with
      | nil => intro cs h v hv; rw [show _ = [] from h] at hv; simp at hv
      | cons x xs ih =>
        rintro cs ⟨c1, c2, e, h1, h2⟩ v hv
        rw [e, List.mem_append] at hv
        rcases hv with hv | hv
        · exact repT_one X t _ _ h1 v hv
        · exact ih c2 h2 v hv
    exact key l cs hr
  | .sl t, l, _, ⟨a, n, c, e, _⟩ => by rw [e]; simp [Value.oneCell']

theorem rowOf_one {X : Cx} {t : Ty} : ∀ (l : List t.T) (cs : List Value), rowOf (repT X t) l cs → ∀ v ∈ cs, v.oneCell' = true
  | [], _, h, v, hv => by rw [show _ = [] from h] at hv; simp at hv
  | x :: xs, _, ⟨c1, c2, e, h1, h2⟩, v, hv => by
    rw [e, List.mem_append] at hv
    rcases hv with hv | hv
    · exact repT_one X t _ _ h1 v hv
    · exact rowOf_one xs c2 h2 v hv

theorem repPs_one {X : Cx} : ∀ {ps : List Piece} {cs : List Value}, repPs X ps cs → ∀ v ∈ cs, v.oneCell' = true
  | [], _, h, v, hv => by rw [show _ = [] from h] at hv; simp at hv
  | p :: ps, _, ⟨c1, c2, e, h1, h2⟩, v, hv => by
    rw [e, List.mem_append] at hv
    rcases hv with hv | hv
    · cases p with
      | c x => obtain ⟨u, rfl, _, ho⟩ := h1; simp at hv; rw [hv]; exact ho
      | row n t l => exact rowOf_one l c1 h1.2 v hv
    · exact repPs_one h2 v hv

theorem repPs_append {X : Cx} : ∀ {ps qs : List Piece} {cs : List Value}, repPs X (ps ++ qs) cs ↔ ∃ c1 c2, cs = c1 ++ c2 ∧ repPs X ps c1 ∧ repPs X qs c2
  | [], qs, cs => ⟨fun h => ⟨[], cs, rfl, rfl, h⟩, fun ⟨c1, c2, e, h1, h2⟩ => by rw [show c1 = [] from h1] at e; rw [e]; exact h2⟩
  | p :: ps, qs, cs => by
    constructor
    · rintro ⟨d1, d2, e, h1, h2⟩
      obtain ⟨c1, c2, e2, h3, h4⟩ := repPs_append.1 h2
      exact ⟨d1 ++ c1, c2, by rw [e, e2, List.append_assoc], ⟨d1, c1, rfl, h1, h3⟩, h4⟩
    · rintro ⟨c1, c2, e, ⟨d1, d2, e1, h1, h2⟩, h3⟩
      exact ⟨d1, d2 ++ c2, by rw [e, e1, List.append_assoc], h1, repPs_append.2 ⟨d2, c2, rfl, h2, h3⟩⟩

theorem rowOf_append {α : Type} {R : α → List Value → Prop} : ∀ {xs ys : List α} {cs : List Value}, rowOf R (xs ++ ys) cs ↔ ∃ c1 c2, cs = c1 ++ c2 ∧ rowOf R xs c1 ∧ rowOf R ys c2
  | [], ys, cs => ⟨fun h => ⟨[], cs, rfl, rfl, h⟩, fun ⟨c1, c2, e, h1, h2⟩ => by rw [show c1 = [] from h1] at e; rw [e]; exact h2⟩
  | x :: xs, ys, cs => by
    constructor
    · rintro ⟨d1, d2, e, h1, h2⟩
      obtain ⟨c1, c2, e2, h3, h4⟩ := rowOf_append.1 h2
      exact ⟨d1 ++ c1, c2, by rw [e, e2, List.append_assoc], ⟨d1, c1, rfl, h1, h3⟩, h4⟩
    · rintro ⟨c1, c2, e, ⟨d1, d2, e1, h1, h2⟩, h3⟩
      exact ⟨d1, d2 ++ c2, by rw [e, e1, List.append_assoc], h1, rowOf_append.2 ⟨d2, c2, rfl, h2, h3⟩⟩

/-- A row around one of its elements. -/
theorem rowOf_at {X : Cx} {t : Ty} {l : List t.T} {cs : List Value} (h : rowOf (repT X t) l cs) {i : Nat} (hi : i < l.length) :
    ∃ c1 c2 c3, cs = c1 ++ (c2 ++ c3) ∧ c1.length = i * t.size ∧ repT X t (l.getD i t.dflt) c2 ∧ rowOf (repT X t) (l.take i) c1 ∧ rowOf (repT X t) (l.drop (i + 1)) c3 := by
  have e : l = l.take i ++ (l.getD i t.dflt :: l.drop (i + 1)) := by
    rw [List.getD_eq_getElem?_getD, List.getElem?_eq_getElem hi, Option.getD_some, List.getElem_cons_drop, List.take_append_drop]
  rw [e] at h
  obtain ⟨c1, c4, e1, h1, c2, c3, e2, h2, h3⟩ := rowOf_append.1 h
  refine ⟨c1, c2, c3, by rw [e1, e2], ?_, h2, h1, h3⟩
  rw [rowOf_length (fun x ds => repT_length X t x ds) _ c1 h1, List.length_take, Nat.min_eq_left (Nat.le_of_lt hi)]

theorem rowOf_set {X : Cx} {t : Ty} {l : List t.T} {i : Nat} (hi : i < l.length) {x : t.T} {c1 c2 c3 : List Value} (h1 : rowOf (repT X t) (l.take i) c1) (h2 : repT X t x c2) (h3 : rowOf (repT X t) (l.drop (i + 1)) c3) :
    rowOf (repT X t) (l.set i x) (c1 ++ (c2 ++ c3)) := by
  rw [List.set_eq_take_append_cons_drop, if_pos hi]
  exact rowOf_append.2 ⟨c1, c2 ++ c3, rfl, h1, c2, c3, rfl, h2, h3⟩

/-- A part of a row. -/
theorem rowOf_part {X : Cx} {t : Ty} {l : List t.T} {cs : List Value} (h : rowOf (repT X t) l cs) (i k : Nat) (hk : i + k ≤ l.length) :
    ∃ c1 c2 c3, cs = c1 ++ (c2 ++ c3) ∧ c1.length = i * t.size ∧ c2.length = k * t.size ∧ rowOf (repT X t) ((l.drop i).take k) c2 ∧ rowOf (repT X t) (l.take i) c1 ∧ rowOf (repT X t) (l.drop (i + k)) c3 := by
  have e : l = l.take i ++ ((l.drop i).take k ++ l.drop (i + k)) := by
    rw [← List.drop_drop, List.take_append_drop, List.take_append_drop]
  rw [e] at h
  obtain ⟨c1, c4, e1, h1, h4⟩ := rowOf_append.1 h
  obtain ⟨c2, c3, e2, h2, h3⟩ := rowOf_append.1 h4
  refine ⟨c1, c2, c3, by rw [e1, e2], ?_, ?_, h2, h1, h3⟩
  · rw [rowOf_length (fun x ds => repT_length X t x ds) _ c1 h1, List.length_take, Nat.min_eq_left (by omega)]
  · rw [rowOf_length (fun x ds => repT_length X t x ds) _ c2 h2, List.length_take, List.length_drop, Nat.min_eq_left (by omega)]

end Go.Proofs.YtllannmegnklmaaE
