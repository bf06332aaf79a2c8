/- Operations that turn nothing in memory. -/
import Derived.Test.YtllannmegnklmaaE3
import Derived.Laws.Shifts
import Derived.Laws.Concat
set_option linter.unusedVariables false
set_option linter.unusedSimpArgs false
set_option linter.unnecessarySimpa false
namespace Go.Proofs.YtllannmegnklmaaE
open Go

def constTm (E : TypeId) (v : Value) : Tm := match v with
  | .agg cs => bif cs.toList.all Value.oneCell' then .v (.agg (cs.toList.map fun c => .c (.sc c))) else .any
  | .tuple _ => .any
  | .nilIface => .v (.one (.err none))
  | .iface t (.int .i64 k) => bif Nat.beq t E then .v (.one (.err (some k))) else .v (.one (.sc v))
  | v => .v (.one (.sc v))

def evalO (E : TypeId) (env : List Tm) : Operand → Tm
  | .tmp t => env.getD t .any
  | .const v => constTm E v
  | .global g => .v (.one (.sc (.pointer (some ⟨g, 0, none⟩))))
  | .func f => .v (.one (.sc (.func (.func f) #[] #[])))

theorem constTm_rep (X : Cx) (v : Value) : repTm X v (constTm X.E v) := by
  cases v with
  | agg cs =>
    unfold constTm
    dsimp only
    cases hb : cs.toList.all Value.oneCell' with
    | false => trivial
    | true =>
      rw [List.all_eq_true] at hb
      refine ⟨cs.toList, by simp, ?_⟩
      generalize cs.toList = l at hb
      induction l with
      | nil => rfl
      | cons c l ih => exact ⟨[c], _, rfl, ⟨c, rfl, ⟨rfl, hb c (by simp)⟩, hb c (by simp)⟩, ih fun x hx => hb x (by simp [hx])⟩
  | tuple vs => trivial
  | nilIface => exact ⟨rfl, rfl⟩
  | iface t u =>
    unfold constTm
    split
    · rename_i h; cases h
    · rename_i h; cases h
    · rename_i h; cases h
    · rename_i t' k h
      cases h
      cases hb : Nat.beq t X.E with
      | false => exact ⟨⟨rfl, rfl⟩, rfl⟩
      | true => exact ⟨by rw [beq_eq hb]; rfl, rfl⟩
    · exact ⟨⟨rfl, rfl⟩, rfl⟩
  | _ => exact ⟨⟨rfl, rfl⟩, rfl⟩

theorem evalO_rep {X : Cx} {a : Act} {env : List Tm} (h : RelE X a.tmps env) (x : Operand) : repTm X (a.eval x) (evalO X.E env x) := by
  cases x with
  | tmp t =>
    simp only [Act.eval, evalO]
    by_cases ht : t < env.length
    · have ht2 : t < a.tmps.size := by rw [h.1]; exact ht
      rw [Array.getD_eq_getD_getElem?, List.getD_eq_getElem?_getD, Array.getElem?_eq_getElem ht2, List.getElem?_eq_getElem ht]
      exact h.2 t _ _ (Array.getElem?_eq_getElem ht2) (List.getElem?_eq_getElem ht)
    · have hn : env.getD t .any = .any := by rw [List.getD_eq_getElem?_getD, List.getElem?_eq_none (Nat.le_of_not_lt ht)]; rfl
      rw [hn]
      trivial
  | const v => exact constTm_rep X v
  | global g => exact ⟨⟨rfl, rfl⟩, rfl⟩
  | func f => exact ⟨⟨rfl, rfl⟩, rfl⟩

def Tm.sc? : Tm → Option Value
  | .v (.one (.sc u)) => some u
  | _ => none

theorem sc_rep {X : Cx} {v u : Value} {tm : Tm} (h : repTm X v tm) (e : tm.sc? = some u) : v = u := by
  unfold Tm.sc? at e
  split at e
  · cases e; exact h.1.1
  · cases e

/-! ### Numbers -/
def intBin (op : BinOp) (k : IntKind) (a b : Int) : Option (Prop × Value) := match op with
  | .add => some (True, .int k (k.wrap (a + b)))
  | .sub => some (True, .int k (k.wrap (a - b)))
  | .mul => some (True, .int k (k.wrap (a * b)))
  | .quo => some (b ≠ 0, .int k (k.wrap (a.tdiv b)))
  | .rem => some (b ≠ 0, .int k (a.tmod b))
  | .and => some (True, .int k (bits .and k a b))
  | .or => some (True, .int k (bits .or k a b))
  | .xor => some (True, .int k (bits .xor k a b))
  | .andNot => some (True, .int k (bits .andNot k a b))
  | .eql => some (True, .bool (a == b))
  | .neq => some (True, .bool (a != b))
  | .lss => some (True, .bool (decide (a < b)))
  | .leq => some (True, .bool (decide (a ≤ b)))
  | .gtr => some (True, .bool (decide (a > b)))
  | .geq => some (True, .bool (decide (a ≥ b)))
  | _ => none

def shl (k : IntKind) (x y : Int) : Int := k.wrap (x * 2 ^ min y.toNat k.bits)
def shr (k : IntKind) (x y : Int) : Int := x / 2 ^ min y.toNat k.bits

def runV (P : Program) (w : World) (s : Sem Value) (v : Value) : Prop := s.run P w = .ok v w

theorem eqGuard_plain {P : Program} {w : World} {op : BinOp} {t : TypeId} {x y : Operand} {a b : Value} (h1 : a ≠ .nilIface) (h2 : ∀ cs, a ≠ .agg cs) : (eqGuard op t x y a b).run P w = .ok () w := by
  cases op <;> first | rfl | (cases a <;> first | rfl | (exact absurd rfl h1) | (exact absurd rfl (h2 _)))

theorem intBin_run {P : Program} {w : World} {op : BinOp} {k : IntKind} {a b : Int} {t : TypeId} {x y : Operand} {φ : Prop} {v : Value} (h : intBin op k a b = some (φ, v)) (hφ : φ) :
    ((do eqGuard op t x y (.int k a) (.int k b); binOp op t (.int k a) (.int k b)) : Sem Value).run P w = .ok v w := by
  rw [Sem.run_bind, eqGuard_plain (by simp) (by simp)]
  show (binOp op t (.int k a) (.int k b)).run P w = _
  cases op <;> simp only [intBin] at h <;> cases h <;> simp_all [binOp, Op.intArith, Op.intDiv, Op.intCmp, intBits_and, intBits_or, intBits_xor, intBits_andNot]

theorem shift_run {P : Program} {w : World} {op : BinOp} {k yk : IntKind} {a b : Int} {t : TypeId} {x y : Operand} (hop : op = .shl ∨ op = .shr) (hb : 0 ≤ b) :
    ((do eqGuard op t x y (.int k a) (.int yk b); binOp op t (.int k a) (.int yk b)) : Sem Value).run P w = .ok (.int k (match op with | .shl => shl k a b | _ => shr k a b)) w := by
  rw [Sem.run_bind, eqGuard_plain (by simp) (by simp)]
  show (binOp op t (.int k a) (.int yk b)).run P w = _
  rcases hop with rfl | rfl
  · simp [binOp, shift_shl_any _ _ _ _ hb, shl]
  · simp [binOp, shift_shr_any _ _ _ _ hb, shr]

def strBin (op : BinOp) (a b : ByteArray) : Option (Prop × Value) := match op with
  | .add => some (a.size + b.size ≤ 9223372036854775807, .string (a ++ b))
  | .eql => some (True, .bool (a.toList == b.toList))
  | .neq => some (True, .bool (!(a.toList == b.toList)))
  | .lss => some (True, .bool (Op.bytesLess a.toList b.toList))
  | .leq => some (True, .bool (Op.bytesLess a.toList b.toList || a.toList == b.toList))
  | .gtr => some (True, .bool (!(Op.bytesLess a.toList b.toList || a.toList == b.toList)))
  | .geq => some (True, .bool (!Op.bytesLess a.toList b.toList))
  | _ => none

theorem strBin_run {P : Program} {w : World} {op : BinOp} {a b : ByteArray} {t : TypeId} {x y : Operand} {φ : Prop} {v : Value} (h : strBin op a b = some (φ, v)) (hφ : φ) :
    ((do eqGuard op t x y (.string a) (.string b); binOp op t (.string a) (.string b)) : Sem Value).run P w = .ok v w := by
  rw [Sem.run_bind, eqGuard_plain (by simp) (by simp)]
  show (binOp op t (.string a) (.string b)).run P w = _
  cases op <;> simp only [strBin] at h <;> cases h
  case add => simp only [binOp]; exact run_string_add_sum _ a b (by omega)
  all_goals simp [binOp, Op.stringOp]

def isConstO : Operand → Bool
  | .const _ => true
  | _ => false

def eqPlain (sk : Sk) (x y : Operand) (a b : Tm) : Option Bool := match sk, a, b with
  | .bool, .v (.one (.sc (.bool p))), .v (.one (.sc (.bool q))) => some (p == q)
  | .iface, .v (.one (.err e)), .v (.one (.err none)) => bif isConstO x || isConstO y then some e.isNone else none
  | .iface, .v (.one (.oerr _)), .v (.one (.err none)) => some false
  | .iface, .v (.one (.ip _ _)), .v (.one (.err none)) => some false
  | .iface, .v (.one (.sc (.iface _ _))), .v (.one (.err none)) => some false
  | .ptr _, .v (.one (.sc (.pointer none))), .v (.one (.sc (.pointer none))) => some true
  | .ptr _, .v (.one (.ptr _ _)), .v (.one (.sc (.pointer none))) => some false
  | _, _, _ => none


theorem err_rep {X : Cx} {v : Value} {e : Option Int} (h : repTm X v (.v (.one (.err e)))) : v = errV X.E e := h.1

theorem run_equal {P : Program} {w : World} {t : TypeId} {d : TypeDesc} (hu : P.underlying t = some d) (x y : Value) (r : Bool) (h : ∀ n, (Op.equalIn (n + 1) t x y).run P w = .ok r w) : (Op.equal t x y).run P w = .ok r w := h 9999

theorem run_eqneq {P : Program} {w : World} {t : TypeId} {x y : Operand} {u v : Value} {r : Bool} (hg : ∀ op, (eqGuard op t x y u v).run P w = .ok () w)
    (h1 : binOp .eql t u v = (do pure (.bool (← Op.equal t u v)))) (h2 : binOp .neq t u v = (do pure (.bool (!(← Op.equal t u v))))) (he : (Op.equal t u v).run P w = .ok r w) :
    ((do eqGuard .eql t x y u v; binOp .eql t u v) : Sem Value).run P w = .ok (.bool r) w ∧ ((do eqGuard .neq t x y u v; binOp .neq t u v) : Sem Value).run P w = .ok (.bool (!r)) w := by
  rw [Sem.run_bind, Sem.run_bind, hg, hg]
  constructor
  · rw [Result.andThen_ok, h1, Sem.run_bind, he]; rfl
  · rw [Result.andThen_ok, h2, Sem.run_bind, he]; rfl

theorem eqPlain_run {P : Program} {w : World} {X : Cx} {t : TypeId} {i : TI} (hT : TOk P t i) {x y : Operand} {a b : Tm} {u v : Value} {r : Bool} (h : eqPlain i.sk x y a b = some r) (ha : repTm X u a) (hb : repTm X v b)
    (hal : ∀ id o, a = .v (.one (.ptr id o)) → X.al id = true) :
    ((do eqGuard .eql t x y u v; binOp .eql t u v) : Sem Value).run P w = .ok (.bool r) w ∧ ((do eqGuard .neq t x y u v; binOp .neq t u v) : Sem Value).run P w = .ok (.bool (!r)) w := by
  obtain ⟨d, hu, hs⟩ := hT.under
  unfold eqPlain at h
  split at h
  · rename_i p q hsk
    cases h
    rw [hsk] at hs
    obtain rfl := sc_rep ha rfl
    obtain rfl := sc_rep hb rfl
    have hd' : d = .bool := by cases d <;> simp [skel] at hs; rfl
    subst hd'
    refine run_eqneq (fun op => eqGuard_plain (by simp) (by simp)) rfl rfl (run_equal hu _ _ _ fun n => ?_)
    simp only [Op.equalIn]; rw [Sem.run_bind, run_underlying hu]; rfl
  · rename_i e hsk
    cases hc : (isConstO x || isConstO y) with
    | false => simp [hc] at h
    | true =>
      simp only [hc, cond_true, Option.some.injEq] at h
      subst h
      rw [hsk] at hs
      obtain rfl := err_rep ha
      obtain rfl := err_rep hb
      obtain ⟨ms, rfl⟩ : ∃ ms, d = .interface ms := by cases d <;> simp [skel] at hs; exact ⟨_, rfl⟩
      have hg : ∀ op, (eqGuard op t x y (errV X.E e) (errV X.E none)).run P w = .ok () w := by
        intro op
        cases e with
        | some k => exact eqGuard_plain (by simp [errV]) (by simp [errV])
        | none =>
          cases op <;> first | rfl | skip
          all_goals
            simp only [Bool.or_eq_true] at hc
            rcases hc with hc | hc
            · cases x <;> first | rfl | cases hc
            · cases y <;> first | (cases x <;> rfl) | cases hc
      refine run_eqneq hg (by cases e <;> rfl) (by cases e <;> rfl) (run_equal hu _ _ _ fun n => ?_)
      simp only [Op.equalIn]; rw [Sem.run_bind, run_underlying hu]
      cases e <;> rfl
  · rename_i hsk
    cases h
    rw [hsk] at hs
    obtain ⟨⟨ty, u0, rfl⟩, _⟩ := ha
    obtain rfl := err_rep hb
    obtain ⟨ms, rfl⟩ : ∃ ms, d = .interface ms := by cases d <;> simp [skel] at hs; exact ⟨_, rfl⟩
    refine run_eqneq (fun op => eqGuard_plain (by simp [errV]) (by simp [errV])) rfl rfl (run_equal hu _ _ _ fun n => ?_)
    simp only [Op.equalIn]; rw [Sem.run_bind, run_underlying hu]; rfl
  · rename_i ty id hsk
    cases h
    rw [hsk] at hs
    obtain ⟨⟨_, q, rfl, _⟩, _⟩ := ha
    obtain rfl := err_rep hb
    obtain ⟨ms, rfl⟩ : ∃ ms, d = .interface ms := by cases d <;> simp [skel] at hs; exact ⟨_, rfl⟩
    refine run_eqneq (fun op => eqGuard_plain (by simp [errV]) (by simp [errV])) rfl rfl (run_equal hu _ _ _ fun n => ?_)
    simp only [Op.equalIn]; rw [Sem.run_bind, run_underlying hu]; rfl
  · rename_i ty u0 hsk
    cases h
    rw [hsk] at hs
    obtain rfl := ha.1.1
    obtain rfl := err_rep hb
    obtain ⟨ms, rfl⟩ : ∃ ms, d = .interface ms := by cases d <;> simp [skel] at hs; exact ⟨_, rfl⟩
    refine run_eqneq (fun op => eqGuard_plain (by simp [errV]) (by simp [errV])) rfl rfl (run_equal hu _ _ _ fun n => ?_)
    simp only [Op.equalIn]; rw [Sem.run_bind, run_underlying hu]; rfl
  · rename_i el hsk
    cases h
    rw [hsk] at hs
    obtain rfl := sc_rep ha rfl
    obtain rfl := sc_rep hb rfl
    obtain ⟨q, rfl⟩ : ∃ q, d = .pointer q := by cases d <;> simp [skel] at hs; exact ⟨_, rfl⟩
    refine run_eqneq (fun op => eqGuard_plain (by simp) (by simp)) rfl rfl (run_equal hu _ _ _ fun n => ?_)
    simp only [Op.equalIn]; rw [Sem.run_bind, run_underlying hu]; rfl
  · rename_i el id o hsk
    cases h
    rw [hsk] at hs
    obtain ⟨⟨_, ha⟩, _⟩ := ha
    obtain ⟨bb, z, _, rfl⟩ := ha (hal id o rfl)
    obtain rfl := sc_rep hb rfl
    obtain ⟨q, rfl⟩ : ∃ q, d = .pointer q := by cases d <;> simp [skel] at hs; exact ⟨_, rfl⟩
    refine run_eqneq (fun op => eqGuard_plain (by simp) (by simp)) rfl rfl (run_equal hu _ _ _ fun n => ?_)
    simp only [Op.equalIn]; rw [Sem.run_bind, run_underlying hu]; rfl
  · cases h

/-! ### Addresses -/
theorem add_add (p : Addr) (h : p.spot = none) (m n : Nat) : (p.add m).add n = p.add (m + n) := by
  obtain ⟨b, o, s⟩ := p
  cases h
  rw [lookup_add, lookup_add, lookup_add, Nat.add_assoc]
theorem add_spot (p : Addr) (h : p.spot = none) (m : Nat) : (p.add m).spot = none := by
  unfold Addr.add; split <;> simp_all

def offAdd (o : Off) (n : Nat) : Off := bif Nat.beq o.sz 0 then { o with base := o.base + n } else { o with sub := o.sub + n }
theorem offAdd_val (o : Off) (n : Nat) : (offAdd o n).val = o.val + n := by
  unfold offAdd
  cases Nat.beq o.sz 0 <;> simp only [cond_true, cond_false, Off.val] <;> omega

def qFieldAddr (L : List (Nat × TI)) (s : TypeId) (x : Tm) (f : Nat) : Option (Prop × Tm) := match look L s with
  | some ⟨_, _, _, .struct fs, _, _⟩ => match fs[f]? with
    | some (off, ft) => match look L ft with
      | some fi => bif Nat.beq fi.cells 0 then none else match x with
        | .v (.one (.ptr id o)) => some (True, .v (.one (.ptr id (offAdd o off))))
        | .v (.one (.fp t y sub)) => some (True, .v (.one (.fp t y (sub + off))))
        | _ => none
      | none => none
    | none => none
  | _ => none

def Tm.id1 : Tm → Option Nat
  | .v (.one c) => c.id?
  | _ => none

/-- An address that is alive. -/
def Tm.okAl (bs : List Box) : Tm → Bool
  | .v (.one (.ptr id _)) => bAl bs id
  | .v (.one (.os id _ _ _ _ _)) => bAl bs id
  | .v (.one (.ip _ id)) => bAl bs id
  | _ => true

theorem ptr_rep {X : Cx} {v : Value} {id : Nat} {o : Off} (h : repTm X v (.v (.one (.ptr id o)))) (ha : X.al id = true) : id < X.nb ∧ ∃ b z, X.β id = some (b, z) ∧ v = .pointer (some ⟨b, o.val, none⟩) :=
  ⟨h.1.1, h.1.2 ha⟩

theorem qFieldAddr_run {C : Cfg} (hC : COk C) {w : World} {X : Cx} {s : TypeId} {x : Tm} {f : Nat} {φ : Prop} {tm : Tm} {v : Value} (h : qFieldAddr C.L s x f = some (φ, tm)) (hv : repTm X v x)
    (hal : ∀ id o, x = .v (.one (.ptr id o)) → X.al id = true) : ∃ u, (Instr.fieldAt s v f).run C.P w = .ok u w ∧ repTm X u tm := by
  unfold qFieldAddr at h
  split at h
  · rename_i n1 n2 n3 fs n4 n5 hl
    have hT := hC.at hl
    obtain ⟨d, hu, hs⟩ := hT.under
    obtain ⟨fl, rfl⟩ : ∃ fl, d = .struct fl := by cases d <;> simp [skel] at hs; exact ⟨_, rfl⟩
    simp only [skel, Sk.struct.injEq] at hs
    split at h
    · rename_i off ft hf
      split at h
      · rename_i fi hfi
        have hF := hC.at hfi
        cases hz : Nat.beq fi.cells 0 with
        | true => simp [hz] at h
        | false =>
          simp only [hz, cond_false] at h
          have hz0 : fi.cells ≠ 0 := fun e => by rw [e] at hz; cases hz
          rw [← hs, List.getElem?_map] at hf
          cases hq : fl.toList[f]? with
          | none => simp [hq] at hf
          | some g =>
            simp [hq] at hf
            have hq2 : fl[f]? = some g := by simpa using hq
            obtain ⟨ho, ht⟩ := hf
            have hsz := hF.size w
            rw [← ht] at hsz
            split at h
            · rename_i id o
              cases h
              obtain ⟨hn, b, z, hb, rfl⟩ := ptr_rep hv (hal id o rfl)
              refine ⟨.pointer (some ⟨b, o.val + off, none⟩), ?_, ⟨hn, fun _ => ⟨b, z, hb, by rw [offAdd_val]⟩⟩, rfl⟩
              simp [Instr.fieldAt, run_underlying hu, hq2, Instr.sureAddr, fieldPlace, hsz, hz0, lookup_add, ho]
            · rename_i t y sub
              cases h
              obtain ⟨⟨p, ds, rfl, hsp, hZ, hr, hc⟩, _⟩ := hv
              refine ⟨.pointer (some (p.add off)), ?_, ⟨p.add off, ds, rfl, add_spot p hsp off, by rw [add_block]; exact hZ, hr, fun j u hj => ?_⟩, rfl⟩
              · simp [Instr.fieldAt, run_underlying hu, hq2, Instr.sureAddr, fieldPlace, hsz, hz0, ho]
              · rw [add_add p hsp]; exact hc (off + j) u (by rw [← Nat.add_assoc]; exact hj)
            · cases h
      · cases h
    · cases h
  · cases h

def qIndexAddr (L : List (Nat × TI)) (t : TypeId) (x : Tm) (i : Int) : Option (Prop × Tm) := match look L t with
  | some ⟨_, _, _, .array n e, _, _⟩ => match look L e with
    | some ei => match x with
      | .v (.one (.ptr id o)) => bif Nat.beq o.sz 0 then some (0 ≤ i ∧ i < n, .v (.one (.ptr id ⟨o.base + o.sub, i.toNat, ei.cells, 0⟩))) else none
      | _ => none
    | none => none
  | some ⟨_, _, _, .slice e, _, _⟩ => match look L e with
    | some ei => match x with
      | .v (.one (.os id base lo esz len cap)) => bif Nat.beq esz ei.cells then some (0 ≤ i ∧ i < len, .v (.one (.ptr id ⟨base, lo + i.toNat, esz, 0⟩))) else none
      | .v (.one (.fs u l _)) => bif Nat.beq u.size ei.cells then some (0 ≤ i ∧ i < l.length, .v (.one (.fp u (l.getD i.toNat u.dflt) 0))) else none
      | _ => none
    | none => none
  | _ => none

theorem qIndexAddr_run {C : Cfg} (hC : COk C) {w : World} {X : Cx} {t : TypeId} {x : Tm} {k : IntKind} {i : Int} {φ : Prop} {tm : Tm} {v : Value} (hw : X.w = w) (h : qIndexAddr C.L t x i = some (φ, tm)) (hφ : φ) (hv : repTm X v x)
    (hal : ∀ id, Tm.id1 x = some id → X.al id = true) : ∃ u, (Instr.indexAt t v (.int k i)).run C.P w = .ok u w ∧ repTm X u tm := by
  subst hw
  unfold qIndexAddr at h
  split at h
  · rename_i n1 n2 n3 n e n4 n5 hl
    have hT := hC.at hl
    obtain ⟨d, hu, hs⟩ := hT.under
    obtain ⟨rfl⟩ : d = .array n e := by cases d <;> simp_all [skel]
    split at h
    · rename_i ei he
      have hsz := (hC.at he).size X.w
      split at h
      · rename_i id o
        cases hz : Nat.beq o.sz 0 with
        | false => simp [hz] at h
        | true =>
          have hz0 := beq_eq hz
          simp only [hz, cond_true, Option.some.injEq, Prod.mk.injEq] at h
          obtain ⟨e1, e2⟩ := h
          subst e1; subst e2
          obtain ⟨hn, b, z, hb, rfl⟩ := ptr_rep hv (hal id rfl)
          refine ⟨.pointer (some ⟨b, o.val + i.toNat * ei.cells, none⟩), ?_, ⟨hn, fun _ => ⟨b, z, hb, ?_⟩⟩, rfl⟩
          · simp [Instr.indexAt, asIntOf, run_underlying hu, Instr.sureAddr, hφ.1, hφ.2, hsz, lookup_add]
          · simp only [Off.val, hz0, Nat.mul_zero, Nat.add_zero]
      · cases h
    · cases h
  · rename_i n1 n2 n3 e n4 n5 hl
    have hT := hC.at hl
    obtain ⟨d, hu, hs⟩ := hT.under
    obtain ⟨rfl⟩ : d = .slice e := by cases d <;> simp_all [skel]
    split at h
    · rename_i ei he
      have hsz := (hC.at he).size X.w
      split at h
      · rename_i id base lo esz len cap
        cases hz : Nat.beq esz ei.cells with
        | false => simp [hz] at h
        | true =>
          have hz0 := beq_eq hz
          simp only [hz, cond_true, Option.some.injEq, Prod.mk.injEq] at h
          obtain ⟨e1, e2⟩ := h
          subst e1; subst e2
          obtain ⟨⟨hn, hr⟩, _⟩ := hv
          obtain ⟨a, c, rfl, hlc, _, hc⟩ := hr (hal id rfl)
          obtain ⟨b, z, hb, rfl, _⟩ := hc (by omega)
          refine ⟨.pointer (some ⟨b, base + lo * esz + i.toNat * esz, none⟩), ?_, ⟨hn, fun _ => ⟨b, z, hb, ?_⟩⟩, rfl⟩
          · simp [Instr.indexAt, asIntOf, run_underlying hu, hφ.1, hφ.2, hsz, lookup_add, hz0]
          · simp only [Off.val, Nat.add_zero, Nat.add_mul]; congr 3; omega
      · rename_i u l tg
        cases hz : Nat.beq u.size ei.cells with
        | false => simp [hz] at h
        | true =>
          have hz0 := beq_eq hz
          simp only [hz, cond_true, Option.some.injEq, Prod.mk.injEq] at h
          obtain ⟨e1, e2⟩ := h
          subst e1; subst e2
          obtain ⟨⟨⟨a, n, c, e3, hl, hlc, hr⟩, _⟩, _⟩ := hv
          cases e3
          obtain ⟨h0, h1⟩ := hφ
          obtain ⟨p, ds, rfl, hrow, hsp, hZ, hcell⟩ := hr (by omega)
          obtain ⟨c1, c2, c3, e4, hc1, hx, _, _⟩ := rowOf_at hrow (i := i.toNat) (by omega)
          refine ⟨.pointer (some (p.add (i.toNat * ei.cells))), ?_, ⟨p.add (i.toNat * ei.cells), c2, rfl, add_spot p hsp _, by rw [add_block]; exact hZ, hx, fun j u' hj => ?_⟩, rfl⟩
          · have : i < n := by omega
            simp [Instr.indexAt, asIntOf, run_underlying hu, h0, this, hsz]
          · rw [add_add p hsp]
            refine hcell _ _ ?_
            have hlt := (List.getElem?_eq_some_iff.1 hj).1
            rw [e4, List.getElem?_append_right (by rw [hc1, hz0]; omega), List.getElem?_append_left (by rw [hc1, hz0]; omega), hc1, hz0]
            simpa using hj
      · cases h
    · cases h
  · cases h

end Go.Proofs.YtllannmegnklmaaE
