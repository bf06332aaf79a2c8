/- Code, run by a script; functions. -/
import Derived.Test.YtllannmegnklmaaEX
set_option linter.unusedVariables false
set_option linter.unusedSimpArgs false
set_option linter.unnecessarySimpa false
namespace Go.Proofs.YtllannmegnklmaaE
open Go

def runE (C : Cfg) : Code → Scr → St → (Scr → Exit → St → Prop) → Prop
  | .skip, k, s, K => peel k s fun k s => K k .normal s
  | .region id ops draw, k, s, K => peel k s fun k s => (match k with
      | .blk T e post k' => ∃ t : T, Trip C (.region id ops draw) s (fun e' s' => e' = e t ∧ s' = post t) ∧ K (k' t) (e t) (post t)
      | k => bif draw then drawS C ops K k s fun k s => K k .normal s else opsA C ops.toList K ops.toList k s fun k s => K k .normal s)
  | .seq x y, k, s, K => runE C x k s fun k e s => match e with
      | .normal => runE C y k s K
      | e => K k e s
  | .cond c x y, k, s, K => peel k s fun k s => match k with
      | .sub T e post k' => ∃ t : T, Trip C (.cond c x y) s (fun e' s' => e' = e t ∧ s' = post t) ∧ K (k' t) (e t) (post t)
      | .altb k1 k2 => altB (fun k => match k with
        | .sub T e post k' => ∃ t : T, Trip C (.cond c x y) s (fun e' s' => e' = e t ∧ s' = post t) ∧ K (k' t) (e t) (post t)
        | _ => False) k1 k2
      | .br k1 k2 => (match evalO C.E s.env c with
        | .v (.one (.sc (.bool b))) => (b = true → runE C x k1 s K) ∧ (b = false → runE C y k2 s K)
        | _ => False)
      | .one q k' => (match evalO C.E s.env c with
        | .v (.one (.sc (.bool b))) => b = q ∧ (bif q then runE C x k' s K else runE C y k' s K)
        | _ => False)
      | _ => False
  | .block id c, k, s, K => peel k s fun k s => (match k with
      | .blk T e post k' => ∃ t : T, Trip C (.block id c) s (fun e' s' => e' = e t ∧ s' = post t) ∧ K (k' t) (e t) (post t)
      | .altb k1 k2 => altB (fun k => match k with
        | .blk T e post k' => ∃ t : T, Trip C (.block id c) s (fun e' s' => e' = e t ∧ s' = post t) ∧ K (k' t) (e t) (post t)
        | _ => False) k1 k2
      | k => runE C c k s fun k e s => match e with
        | .exit j => bif Nat.beq j id then K k .normal s else K k (.exit j) s
        | e => K k e s)
  | .loop c, k, s, K => peel k s fun k s => match k with
      | .sub T e post k' => ∃ t : T, Trip C (.loop c) s (fun e' s' => e' = e t ∧ s' = post t) ∧ K (k' t) (e t) (post t)
      | .alt k1 k2 => altE (fun k => match k with
        | .sub T e post k' => ∃ t : T, Trip C (.loop c) s (fun e' s' => e' = e t ∧ s' = post t) ∧ K (k' t) (e t) (post t)
        | _ => False) k1 k2
      | _ => False
  | .exit id, k, s, K => peel k s fun k s => K k (.exit id) s
  | .ret, k, s, K => peel k s fun k s => K k .ret s
  | _, _, _, _ => False

theorem peel_trip {C : Cfg} {c : Code} {k : Scr} {s : St} {K : Scr → St → Prop} {Q : Exit → St → Prop} (h : peel k s K) (hK : ∀ k' s', K k' s' → Trip C c s' Q) : Trip C c s Q := by
  unfold peel at h
  split at h
  · split at h
    · rename_i φ s' hs
      exact Trip.less (adjs_less hs h.1) (hK _ _ h.2)
    · exact h.elim
  · exact hK _ _ h

theorem Trip.ops {C : Cfg} (hC : COk C) {id : Nat} {ops : Array Oper} {k : Scr} {s : St} {X : Scr → Exit → St → Prop} {K : Scr → St → Prop} (h : opsA C ops.toList X ops.toList k s K) {Q : Exit → St → Prop} (hX : ∀ k' e s', X k' e s' → Q e s') (hK : ∀ k' s', K k' s' → Q .normal s') : Trip C (.region id ops false) s Q := fun Z β w a hr => by
  refine wp_region ?_
  have := opsA_wp hC (ops := ops) (Q := fun e a' w' => ∃ Z' β' s', Q e s' ∧ s'.m = s.m ∧ RelM C Z' β' w' a' s' ∧ Ext s.m Z β s.boxes w Z' β' s'.boxes w') ops.toList 0 rfl hr h (fun k' e s' hs hk Z' β' a' w' h1 h2 => ⟨Z', β', s', hX k' e s' hk, hs, h1, h2⟩) (fun k' s' hs hk Z' β' a' w' h1 h2 => ⟨Z', β', s', hK k' s' hk, hs, h1, h2⟩)
  rw [Array.length_toList] at this
  rw [List.range_eq_range']
  exact this

theorem runE_trip {C : Cfg} (hC : COk C) : ∀ (c : Code) {k : Scr} {s : St} {K : Scr → Exit → St → Prop}, runE C c k s K → Trip C c s fun e s' => ∃ k', K k' e s'
  | .skip, k, s, K, h => peel_trip h fun k' s' hk => Trip.leave (fun P R a w hr => wp_skip hr) ⟨k', hk⟩
  | .region id ops draw, k, s, K, h => peel_trip h fun k' s' hk => by
    split at hk
    · obtain ⟨t, h1, h2⟩ := hk
      exact h1.mono (by rintro e s' ⟨rfl, rfl⟩; exact ⟨_, h2⟩)
    · cases draw with
      | true =>
        exact drawS_trip hC (fun k2 e s2 h2 => ⟨k2, h2⟩) (fun k2 s2 h2 => ⟨k2, h2⟩) _ hk
      | false =>
        exact Trip.ops hC hk (fun k2 e s2 h2 => ⟨k2, h2⟩) fun k2 s2 h2 => ⟨k2, h2⟩
  | .seq x y, k, s, K, h => by
    refine Trip.seq (Trip.mono (runE_trip hC x h) ?_)
    rintro e s' ⟨k', hk⟩
    cases e with
    | normal => exact runE_trip hC y hk
    | _ => exact ⟨k', hk⟩
  | .cond c x y, k, s, K, h => peel_trip h fun k' s' hk => by
    split at hk
    · obtain ⟨t, h1, h2⟩ := hk
      exact h1.mono (by rintro e s' ⟨rfl, rfl⟩; exact ⟨_, h2⟩)
    · obtain ⟨k3, hk⟩ := altB_any hk
      split at hk
      · obtain ⟨t, h1, h2⟩ := hk
        exact h1.mono (by rintro e s' ⟨rfl, rfl⟩; exact ⟨_, h2⟩)
      · exact hk.elim
    · split at hk
      · rename_i b hb
        exact Trip.cond hb (fun e => runE_trip hC x (hk.1 e)) (fun e => runE_trip hC y (hk.2 e))
      · exact hk.elim
    · split at hk
      · rename_i b hb
        obtain ⟨rfl, hk⟩ := hk
        cases b with
        | true => exact Trip.cond hb (fun _ => runE_trip hC x hk) (fun e => by cases e)
        | false => exact Trip.cond hb (fun e => by cases e) (fun _ => runE_trip hC y hk)
      · exact hk.elim
    · exact hk.elim
  | .block id c, k, s, K, h => peel_trip h fun k' s' hk => by
    split at hk
    · obtain ⟨t, h1, h2⟩ := hk
      exact h1.mono (by rintro e s' ⟨rfl, rfl⟩; exact ⟨_, h2⟩)
    · obtain ⟨k3, hk⟩ := altB_any hk
      split at hk
      · obtain ⟨t, h1, h2⟩ := hk
        exact h1.mono (by rintro e s' ⟨rfl, rfl⟩; exact ⟨_, h2⟩)
      · exact hk.elim
    · refine Trip.block (Trip.mono (runE_trip hC c hk) ?_)
      rintro e s' ⟨k', hk⟩
      cases e with
      | exit j =>
        cases hb : Nat.beq j id with
        | true => simp only [hb, cond_true] at hk ⊢; exact ⟨k', hk⟩
        | false => simp only [hb, cond_false] at hk ⊢; exact ⟨k', hk⟩
      | _ => exact ⟨k', hk⟩
  | .loop c, k, s, K, h => peel_trip h fun k' s' hk => by
    split at hk
    · obtain ⟨t, h1, h2⟩ := hk
      exact h1.mono (by rintro e s' ⟨rfl, rfl⟩; exact ⟨_, h2⟩)
    · obtain ⟨k3, hk⟩ := altE_any hk
      split at hk
      · obtain ⟨t, h1, h2⟩ := hk
        exact h1.mono (by rintro e s' ⟨rfl, rfl⟩; exact ⟨_, h2⟩)
      · exact hk.elim
    · exact hk.elim
  | .exit id, k, s, K, h => peel_trip h fun k' s' hk => Trip.leave (fun P R a w hr => wp_exit hr) ⟨k', hk⟩
  | .ret, k, s, K, h => peel_trip h fun k' s' hk => Trip.leave (fun P R a w hr => wp_ret hr) ⟨k', hk⟩
  | .rangeFunc _ _ _ _, _, _, _, h => h.elim
  | .scope _, _, _, _, h => h.elim
  | .label _, _, _, _, h => h.elim
  | .goto _, _, _, _, h => h.elim
  | .refuse _, _, _, _, h => h.elim

theorem Trip.weaken {C : Cfg} {c : Code} {s : St} {Q : Exit → St → Prop} (h : Trip C c s fun e s' => ∃ s2, Less C s' s2 ∧ Q e s2) : Trip C c s Q := fun Z β w a hr => by
  refine wp_mono (h Z β w a hr) ?_
  rintro e a' w' ⟨Z', β', s', ⟨s2, hl, hq⟩, h2, h3, h4⟩
  obtain ⟨e2, hl⟩ := hl
  obtain ⟨Z2, β2, r2, x2⟩ := hl Z' β' w' a' h3
  rw [h2] at x2
  exact ⟨Z2, β2, s2, hq, e2.trans h2, r2, h4.trans x2⟩

theorem peel_less {C : Cfg} {k : Scr} {s : St} {K : Scr → St → Prop} (h : peel k s K) : ∃ k' s', Less C s s' ∧ K k' s' := by
  unfold peel at h
  split at h
  · split at h
    · rename_i φ s' hs
      exact ⟨_, s', adjs_less hs h.1, h.2⟩
    · exact h.elim
  · exact ⟨_, s, Less.refl C s, h⟩

/-- A piece of code, run by itself. -/
theorem Trip.of_run {C : Cfg} (hC : COk C) {c : Code} {k : Scr} {s : St} {Q : Exit → St → Prop} (h : runE C c k s fun k' e s' => match e with | .normal => peel k' s' fun _ s2 => Q .normal s2 | e => Q e s') : Trip C c s Q := by
  refine Trip.weaken (Trip.mono (runE_trip hC c h) ?_)
  rintro e s' ⟨k', hk⟩
  cases e with
  | normal =>
    obtain ⟨k2, s2, h1, h2⟩ := peel_less hk
    exact ⟨s2, h1, h2⟩
  | _ => exact ⟨s', Less.refl C s', hk⟩

theorem TripN.less {C : Cfg} {c : Code} {n : Nat} {s s1 : St} {Q : Exit → St → Prop} (hl : Less C s s1) (h : TripN C c n s1 Q) : TripN C c n s Q := fun Z β w a hr => by
  obtain ⟨Z1, β1, r1, x1⟩ := hl.2 Z β w a hr
  refine rounds_mono ?_ n a w (h Z1 β1 w a r1)
  rintro e a' w' ⟨Z', β', s', h1, h2, h3, h4⟩
  rw [hl.1] at h4
  exact ⟨Z', β', s', h1, h2.trans hl.1, h3, x1.trans h4⟩

/-- A round of a loop. -/
theorem TripN.of_run {C : Cfg} (hC : COk C) {c : Code} {n : Nat} {k : Scr} {s : St} {Q : Exit → St → Prop} (h : runE C c k s fun k' e s' => match e with | .normal => peel k' s' fun _ s2 => TripN C c n s2 Q | e => Q e s') : TripN C c (n + 1) s Q := by
  refine TripN.succ (Trip.mono (runE_trip hC c h) ?_)
  rintro e s' ⟨k', hk⟩
  cases e with
  | normal =>
    obtain ⟨k2, s2, h1, h2⟩ := peel_less (C := C) hk
    exact h2.less h1
  | _ => exact hk

def cpath : Code → List Nat → Code
  | c, [] => c
  | .seq x _, 0 :: p => cpath x p
  | .seq _ y, _ :: p => cpath y p
  | .cond _ x _, 0 :: p => cpath x p
  | .cond _ _ y, _ :: p => cpath y p
  | .block _ x, _ :: p => cpath x p
  | .loop x, _ :: p => cpath x p
  | c, _ => c

def FUEL : Nat := 18446744073709551616

/-! Words for what is printed. -/
theorem of_guard {α : Type} {p : Prop} [Decidable p] {x : Option α} {r : α} (h : (if p then x else none) = some r) : p ∧ x = some r := by
  by_cases hp : p
  · rw [if_pos hp] at h; exact ⟨hp, h⟩
  · rw [if_neg hp] at h; cases h
theorem ff {b : Bool} (h : b = false) : ¬ b = true := by rw [h]; exact Bool.false_ne_true
theorem bne_t {a b : Int} (h : (a != b) = true) : ¬ a = b := by simpa using h
theorem bne_f {a b : Int} (h : (a != b) = false) : a = b := by simpa using h
theorem beq_t {a b : Int} (h : (a == b) = true) : a = b := by simpa using h
theorem beq_f {a b : Int} (h : (a == b) = false) : ¬ a = b := by simpa using h
theorem toList_loop (c : ByteArray) : ∀ (d i : Nat) (r : List UInt8), c.size - i = d → ByteArray.toList.loop c i r = r.reverse ++ c.data.toList.drop i := by
  intro d
  induction d with
  | zero =>
    intro i r h
    unfold ByteArray.toList.loop
    rw [if_neg (by omega), List.drop_eq_nil_of_le (by have : c.data.toList.length = c.size := rfl; omega)]
    simp
  | succ d ih =>
    intro i r h
    unfold ByteArray.toList.loop
    have hi : i < c.size := by omega
    have hi2 : i < c.data.toList.length := hi
    rw [if_pos hi, ih (i + 1) _ (by omega), List.drop_eq_getElem_cons hi2]
    have : c.get! i = c.data.toList[i] := by
      show c.data[i]! = _
      rw [getElem!_pos c.data i hi]
      simp
    rw [this]
    simp
theorem toList_eq (c : ByteArray) : c.toList = c.data.toList := by
  unfold ByteArray.toList
  rw [toList_loop c _ 0 [] rfl]
  simp
theorem toList_inj {a b : ByteArray} (h : a.toList = b.toList) : a = b := by
  rw [toList_eq, toList_eq] at h
  cases a; cases b
  simp at h
  rw [h]
theorem str_t {a b : ByteArray} (h : (a.toList == b.toList) = true) : a = b := toList_inj (by simpa using h)
theorem str_f {a b : ByteArray} (h : (a.toList == b.toList) = false) : ¬ a = b := fun e => by rw [e] at h; simp at h
theorem none_t {e : Option Int} (h : e.isNone = true) : e = none := by simpa using h
theorem none_f {e : Option Int} (h : e.isNone = false) : ¬ e = none := fun e' => by rw [e'] at h; cases h
theorem ints_t {a b : List Int} (h : intsEq a b = true) : a = b := by unfold intsEq at h; simpa using h
theorem ints_f {a b : List Int} (h : intsEq a b = false) : ¬ a = b := by unfold intsEq at h; simpa using h
theorem bb_t {a b : Bool} (h : (a == b) = true) : a = b := by simpa using h
theorem bb_f {a b : Bool} (h : (a == b) = false) : ¬ a = b := by simpa using h
theorem and_l {a b : Bool} (h : (a && b) = true) : a = true := by cases a <;> simp_all
theorem and_l0 {a : Bool} (h : (a && true) = false) : a = false := by simpa using h
theorem and_t {a b : Bool} {p q : Prop} (hp : a = true → p) (hq : b = true → q) (h : (a && b) = true) : p ∧ q := by
  cases a
  · cases h
  · exact ⟨hp rfl, hq h⟩
theorem and_f {a b : Bool} {p q : Prop} (hp : a = false → ¬ p) (hq : b = false → ¬ q) (h : (a && b) = false) : ¬ (p ∧ q) := fun k => by
  cases a
  · exact hp rfl k.1
  · exact hq h k.2
theorem lit_t {p : Prop} (h : false = true) : p := by cases h
theorem lit_f {p : Prop} (h : true = false) : p := by cases h
theorem of_bind {α β : Type} {x : Option α} {f : α → Option β} {r : β} (h : x.bind f = some r) : ∃ a, x = some a ∧ f a = some r := by
  cases x with
  | none => cases h
  | some a => exact ⟨a, rfl, h⟩
/-- Two ways that must come to the same. -/
def same {α : Type} [DecidableEq α] (a b : Option α) : Option α := if a = b then a else none
theorem of_same {α : Type} [DecidableEq α] {a b : Option α} {r : α} (h : same a b = some r) : a = some r ∧ b = some r := by
  unfold same at h
  split at h
  · rename_i e; exact ⟨h, e ▸ h⟩
  · cases h
theorem same_a {α : Type} [DecidableEq α] {c : Prop} [Decidable c] {a b : Option α} {r : α} (hc : c) (h : (if c then same a b else b) = some r) : a = some r := by
  rw [if_pos hc] at h; exact (of_same h).1
theorem same_b {α : Type} [DecidableEq α] {c : Prop} [Decidable c] {a b : Option α} {r : α} (h : (if c then same a b else b) = some r) : b = some r := by
  split at h
  · exact (of_same h).2
  · exact h
theorem not_of {b q : Bool} (h : b = q) : (!b) = !q := by rw [h]
theorem not_t {b : Bool} (h : (!b) = true) : b = false := by simpa using h
theorem not_f {b : Bool} (h : (!b) = false) : b = true := by simpa using h
theorem to_goal {p q : Prop} (h : p = q) (hq : q) : p := h ▸ hq

/-! Short words. -/
def dN : PD := ⟨none, .no, false⟩
def dF : PD := ⟨(some false), .no, false⟩
def dT : PD := ⟨(some true), .no, false⟩
def dC : PD := ⟨(some false), .callP true [] .any, false⟩
def d0 : PD := ⟨none, .b false, false⟩
def d1 : PD := ⟨none, .b true, false⟩
/-! Runs of one word in a script. -/
noncomputable def oT (n : Nat) (k : Scr) : Scr := Nat.rec k (fun _ r => .one true r) n
noncomputable def oF (n : Nat) (k : Scr) : Scr := Nat.rec k (fun _ r => .one false r) n
noncomputable def aE (n : Nat) (k : Scr) : Scr := Nat.rec k (fun _ r => .adj [] r) n

/-! ### Functions -/
/-- What the result variables hold. -/
def resA (C : Cfg) (s : St) : List ResultVar → Option (Prop × List Tm)
  | [] => some (True, [])
  | .tmp t :: r => (match resA C s r with | some (φ, l) => some (φ, s.env.getD t .any :: l) | none => none)
  | .cell p t :: r => (match s.env.getD p .any, resA C s r with
    | x, some (ψ, l) => bif x.okAl s.boxes then (match qLoad C.L s.boxes t x with | some (φ, y) => some (φ ∧ ψ, y :: l) | none => none) else none
    | _, none => none)

def tms? : List Tm → Option (List AV)
  | [] => some []
  | .v x :: r => (match tms? r with | some l => some (x :: l) | none => none)
  | _ => none

/-- What is handed back: the results, as slots; then what is said less of them. -/
def finE (C : Cfg) (rs : List ResultVar) (l : List Adj) (s : St) (r : Tm) (bs' : List Box) : Prop := match resA C s rs with
  | some (φ, ts) => (match adjs ⟨ts, s.boxes, s.m⟩ l with
    | some (ψ, s') => (match s'.env, tms? s'.env with
      | [x], _ => φ ∧ ψ ∧ x = r ∧ s'.boxes = bs'
      | _, some xs => φ ∧ ψ ∧ Tm.tup xs = r ∧ s'.boxes = bs'
      | _, none => False)
    | none => False)
  | none => False

def resSem (tmps : Array Value) : ResultVar → Sem Value
  | .tmp t => pure (tmps.getD t undef)
  | .cell a t => do loadVar t (← asAddr (tmps.getD a undef))

theorem resA_run {C : Cfg} (hC : COk C) {Z : Nat → Prop} {β : Nat → Option (Nat × Nat)} {w : World} {a : Act} {s : St} (h : RelM C Z β w a s) : ∀ (rs : List ResultVar) {φ : Prop} {ts : List Tm}, resA C s rs = some (φ, ts) → φ →
    ∃ vs : List Value, (rs.mapM (resSem a.tmps)).run C.P w = .ok vs w ∧ All2 (fun v t => repTm (mkX C.E Z β w s.boxes) v t) vs ts
  | [], φ, ts, hq, _ => by cases hq; exact ⟨[], rfl, .nil⟩
  | .tmp t :: r, φ, ts, hq, hφ => by
    simp only [resA] at hq
    split at hq
    · rename_i ψ l hl
      cases hq
      obtain ⟨vs, h1, h2⟩ := resA_run hC h r hl hφ
      exact ⟨_ :: vs, by simp only [List.mapM_cons, Sem.run_bind, resSem, Sem.run_pure, Result.andThen_ok, h1]; rfl, .cons (evalO_rep h.1.env (.tmp t)) h2⟩
    · cases hq
  | .cell p t :: r, φ, ts, hq, hφ => by
    simp only [resA] at hq
    split at hq
    · rename_i x ψ l hl
      obtain ⟨hal, hq⟩ := cond_some hq
      split at hq
      · rename_i φ1 y hy
        cases hq
        obtain ⟨vs, h1, h2⟩ := resA_run hC h r hl hφ.2
        have hp := evalO_rep h.1.env (.tmp p)
        obtain ⟨u, hu1, hu2⟩ := qLoad_run hC h.1.bx hy hφ.1 hp
        have hu1' : (resSem a.tmps (.cell p t)).run C.P w = .ok u w := by
          have hv : ∃ q, a.tmps.getD p undef = .pointer (some q) := by
            have hu1 : (Instr.loadAt t (a.tmps.getD p undef)).run C.P w = .ok u w := hu1
            unfold Instr.loadAt at hu1
            rw [Sem.run_bind] at hu1
            cases hv : a.tmps.getD p undef with
            | pointer o => cases o with
              | some q => exact ⟨q, rfl⟩
              | none => rw [hv] at hu1; cases hu1
            | _ => rw [hv] at hu1; cases hu1
          obtain ⟨q, hv⟩ := hv
          have hu1 : (Instr.loadAt t (a.tmps.getD p undef)).run C.P w = .ok u w := hu1
          rw [hv] at hu1
          show ((do loadVar t (← asAddr (a.tmps.getD p undef))) : Sem Value).run C.P w = _
          rw [hv]
          exact hu1
        refine ⟨u :: vs, ?_, .cons hu2 h2⟩
        rw [List.mapM_cons, Sem.run_bind]
        rw [hu1', Result.andThen_ok, Sem.run_bind, h1]
        rfl
      · cases hq
    · cases hq

theorem tms_rep {X : Cx} : ∀ {ts : List Tm} {xs : List AV} {vs : List Value}, tms? ts = some xs → All2 (fun v t => repTm X v t) vs ts → repAVs X xs vs
  | [], xs, _, h, .nil => by cases h; rfl
  | .v x :: r, xs, _, h, .cons (a := v) (as := vs) h1 h2 => by
    simp only [tms?] at h
    split at h
    · rename_i l hl
      cases h
      exact ⟨v, vs, rfl, h1, tms_rep hl h2⟩
    · cases h
  | .any :: _, _, _, h, _ => by cases h
  | .tup _ :: _, _, _, h, _ => by cases h

theorem results_eq (fn : Func) (tmps : Array Value) : results fn tmps = (do
    let vs ← fn.results.mapM (resSem tmps)
    pure (if h : vs.size = 1 then vs[0] else .tuple vs)) := rfl

theorem All2.toE {X : Cx} : ∀ {vs : List Value} {ts : List Tm}, All2 (fun v t => repTm X v t) vs ts → RelE X vs.toArray ts := fun {vs ts} h => by
  refine ⟨by simp [h.length], fun i v t h1 h2 => ?_⟩
  have h1' : vs[i]? = some v := by simpa using h1
  obtain ⟨b, hb, hr⟩ := h.get (i := i) (a := v) h1'
  rw [h2] at hb
  cases hb
  exact hr
theorem All2.ofE {X : Cx} : ∀ {vs : List Value} {ts : List Tm}, RelE X vs.toArray ts → All2 (fun v t => repTm X v t) vs ts
  | [], [], _ => .nil
  | [], _ :: _, h => by have := h.1; simp at this
  | _ :: _, [], h => by have := h.1; simp at this
  | v :: vs, t :: ts, h => .cons (h.2 0 v t (by simp) (by simp)) (All2.ofE ⟨by have := h.1; simpa using this, fun i v' t' h1 h2 => h.2 (i + 1) v' t' (by simpa using h1) (by simpa using h2)⟩)

/-- What a run hands back. -/
theorem finE_post {C : Cfg} (hC : COk C) {fn : Func} {rs : List ResultVar} (hrs : fn.results.toList = rs) {Z Z1 : Nat → Prop} {β β1 : Nat → Option (Nat × Nat)} {w w' : World} {a' : Act} {s1 : St} {bs bs' : List Box} {l : List Adj} {r : Tm}
    (hr1 : RelM C Z1 β1 w' a' s1) (hm : s1.m = bs.length) (hx1 : Ext bs.length Z β bs w Z1 β1 s1.boxes w') (hfin : finE C rs l s1 r bs') :
    a'.defers = [] ∧ ∃ v, (results fn a'.tmps).run C.P w' = .ok v w' ∧ ∃ v', Ending.returned v = .returned v' ∧ Post C Z β w bs r bs' v' w' := by
  refine ⟨hr1.1.defers, ?_⟩
  unfold finE at hfin
  split at hfin
  · rename_i φ ts hres
    split at hfin
    · rename_i ψ s2 hadj
      have common : ∀ (hφ : φ) (hψ : ψ), ∃ us : List Value, (fn.results.mapM (resSem a'.tmps)).run C.P w' = .ok us.toArray w' ∧ us.length = ts.length ∧ ∃ Z2 β2, RelB C.E C.G Z2 β2 w' s2.boxes ∧ All2 (fun v t => repTm (mkX C.E Z2 β2 w' s2.boxes) v t) us s2.env ∧ Ext bs.length Z β bs w Z2 β2 s2.boxes w' := by
        intro hφ hψ
        obtain ⟨us, hu1, hu2⟩ := resA_run hC hr1 rs hres hφ
        have hrr : RelM C Z1 β1 w' ⟨us.toArray, []⟩ ⟨ts, s1.boxes, s1.m⟩ := ⟨⟨rfl, hu2.toE, hr1.1.bx⟩, hr1.2⟩
        obtain ⟨_, hless⟩ := adjs_less (C := C) hadj hψ
        obtain ⟨Z2, β2, hr2, hx2⟩ := hless Z1 β1 w' _ hrr
        have hm : s1.m = bs.length := hm
        have hx2 : Ext s1.m Z1 β1 s1.boxes w' Z2 β2 s2.boxes w' := hx2
        rw [hm] at hx2
        refine ⟨us, ?_, hu2.length, Z2, β2, hr2.1.bx, All2.ofE hr2.1.env, hx1.trans hx2⟩
        rw [Array.mapM_eq_mapM_toList, hrs]
        show ((rs.mapM (resSem a'.tmps)) >>= fun l => pure l.toArray).run C.P w' = _
        rw [Sem.run_bind, hu1]
        rfl
      rw [results_eq]
      split at hfin
      · rename_i x _ henv
        obtain ⟨hφ, hψ, rfl, rfl⟩ := hfin
        obtain ⟨us, h1, h2, Z2, β2, h3, h4, h5⟩ := common hφ hψ
        rw [henv] at h4
        cases h4 with
        | cons h6 h7 =>
          cases h7
          refine ⟨_, ?_, _, rfl, Z2, β2, h3, h6, h5⟩
          rw [Sem.run_bind, h1]
          simp
      · rename_i xs hxs hne
        obtain ⟨hφ, hψ, rfl, rfl⟩ := hfin
        obtain ⟨us, h1, h2, Z2, β2, h3, h4, h5⟩ := common hφ hψ
        refine ⟨.tuple us.toArray, ?_, _, rfl, Z2, β2, h3, ⟨us, rfl, tms_rep hxs h4⟩, h5⟩
        rw [Sem.run_bind, h1]
        have : ¬ us.length = 1 := fun e => by
          have hl := h4.length
          rw [e] at hl
          cases hq : s2.env with
          | nil => rw [hq] at hl; simp at hl
          | cons y ys =>
            rw [hq] at hl
            cases ys with
            | nil => exact hne y hq
            | cons _ _ => simp at hl
        simp [this]
      · exact hfin.elim
    · exact hfin.elim
  · exact hfin.elim

/-- A function's body, run. -/
theorem run_body {C : Cfg} (hC : COk C) {f : FuncId} {fn : Func} {c : Code} (hf : C.P.funcs[f]? = some fn) (hb : fn.body = some c) (hname : (fn.name == "runtime.NumGoroutine") = false) {as : List AV} {bs : List Box} {k : Scr} {nt : Nat} (hnt : fn.ntmps = nt) {K : Scr → Exit → St → Prop}
    (h : runE C c k ⟨as.map .v ++ List.replicate (nt - as.length) .any, bs, bs.length⟩ K) {Z : Nat → Prop} {β : Nat → Option (Nat × Nat)} {w : World} {vs : List Value} (hB : RelB C.E C.G Z β w bs) (hvs : repAVs (mkX C.E Z β w bs) as vs) {R : Ending → World → Prop}
    (hK : ∀ k' e s' Z1 β1 a' w', K k' e s' → s'.m = bs.length → RelM C Z1 β1 w' a' s' → Ext bs.length Z β bs w Z1 β1 s'.boxes w' → bodyPost C.P fn R e a' w') :
    (callFunc f vs.toArray).run C.P w = .ok (.enter f vs.toArray) w ∧ Calls C.P f vs.toArray w R := by
  refine ⟨?_, ?_⟩
  · unfold callFunc
    rw [Sem.run_bind]
    show ((match C.P.funcs[f]? with | none => _ | some fn => _) : Sem Next).run C.P w = _
    rw [hf]
    simp [hname, hb]
  · refine calls_of_wp hf hb ?_
    have hlen : vs.length = as.length := by
      have key : ∀ (xs : List AV) (us : List Value), repAVs (mkX C.E Z β w bs) xs us → us.length = xs.length := by
        intro xs
        induction xs with
        | nil => intro us h; rw [show us = [] from h]; rfl
        | cons x xs ih =>
          rintro us ⟨v, us', e, _, h⟩
          rw [e, List.length_cons, List.length_cons, ih us' h]
      exact key as vs hvs
    have hE : RelE (mkX C.E Z β w bs) (vs.toArray ++ Array.replicate (fn.ntmps - vs.toArray.size) undef) (as.map .v ++ List.replicate (nt - as.length) .any) := by
      have h1 : RelE (mkX C.E Z β w bs) vs.toArray (as.map .v) := by
        refine All2.toE ?_
        have key : ∀ (xs : List AV) (us : List Value), repAVs (mkX C.E Z β w bs) xs us → All2 (fun v t => repTm (mkX C.E Z β w bs) v t) us (xs.map .v) := by
          intro xs
          induction xs with
          | nil => intro us h; rw [show us = [] from h]; exact .nil
          | cons x xs ih =>
            rintro us ⟨v, us', e, h0, h⟩
            rw [e]
            exact .cons h0 (ih us' h)
        exact key as vs hvs
      refine ⟨by simp [hlen, hnt], fun i v t h2 h3 => ?_⟩
      by_cases hi : i < as.length
      · rw [Array.getElem?_append_left (by simp [hlen, hi])] at h2
        rw [List.getElem?_append_left (by simp [hi])] at h3
        exact h1.2 i v t h2 h3
      · rw [List.getElem?_append_right (by simp; omega)] at h3
        rw [List.getElem?_replicate] at h3
        split at h3
        · cases h3; trivial
        · cases h3
    have hR : RelM C Z β w { tmps := vs.toArray ++ Array.replicate (fn.ntmps - vs.toArray.size) undef, defers := [] } ⟨as.map .v ++ List.replicate (nt - as.length) .any, bs, bs.length⟩ := ⟨⟨rfl, hE, hB⟩, Nat.le_refl _⟩
    refine wp_mono (runE_trip hC c h Z β w _ hR) ?_
    rintro e a' w' ⟨Z1, β1, s1, ⟨k', hk⟩, hm, hr1, hx1⟩
    exact hK k' e s1 Z1 β1 a' w' hk hm hr1 hx1

/-- A function's body, run. -/
theorem fun_of_run {C : Cfg} (hC : COk C) {f : FuncId} {fn : Func} {c : Code} (hf : C.P.funcs[f]? = some fn) (hb : fn.body = some c) (hname : (fn.name == "runtime.NumGoroutine") = false) {as : List AV} {bs : List Box} {r : Tm} {bs' : List Box} {k : Scr}
    {rs : List ResultVar} (hrs : fn.results.toList = rs) {nt : Nat} (hnt : fn.ntmps = nt) {l : Scr → List Adj}
    (h : runE C c k ⟨as.map .v ++ List.replicate (nt - as.length) .any, bs, bs.length⟩ fun k' e s' => match e with
      | .normal => finE C rs (l k') s' r bs'
      | .ret => finE C rs (l k') s' r bs'
      | _ => False) : Fun C f as bs r bs' := by
  intro Z β w vs hB hvs
  refine .inr (run_body hC hf hb hname hnt h hB hvs fun k' e s' Z1 β1 a' w' hk hm hr hx => ?_)
  cases e with
  | normal => exact finE_post hC hrs hr hm hx hk
  | ret => exact finE_post hC hrs hr hm hx hk
  | _ => exact hk.elim

/-- It returns (false), or panics (true). -/
def FunG (C : Cfg) (f : FuncId) (as : List AV) (bs : List Box) : Bool → Tm → List Box → Prop
  | false, r, bs' => Fun C f as bs r bs'
  | true, .v (.one (.sc p)), bs' => FunX C f as bs p bs'
  | true, _, _ => False

def finP (l : List Adj) (s : St) (p : Value) (r : Tm) (bs' : List Box) : Prop := match adjs ⟨[], s.boxes, s.m⟩ l with
  | some (ψ, s') => ψ ∧ Tm.v (.one (.sc p)) = r ∧ s'.boxes = bs'
  | none => False

/-- What is handed back, or raised. -/
def finG (C : Cfg) (rs : List ResultVar) (o : Bool) (l : List Adj) (r : Tm) (bs' : List Box) (e : Exit) (s : St) : Prop := match e with
  | .normal => o = false ∧ finE C rs l s r bs'
  | .ret => o = false ∧ finE C rs l s r bs'
  | .panic [⟨p, false, false⟩] => o = true ∧ finP l s p r bs'
  | _ => False

theorem finG_ret {C : Cfg} {rs : List ResultVar} {l : List Adj} {r : Tm} {bs' : List Box} {e : Exit} {s : St} (h : finG C rs false l r bs' e s) : (e = .normal ∨ e = .ret) ∧ finE C rs l s r bs' := by
  unfold finG at h
  split at h
  · exact ⟨.inl rfl, h.2⟩
  · exact ⟨.inr rfl, h.2⟩
  · cases h.1
  · exact h.elim
theorem finG_pan {C : Cfg} {rs : List ResultVar} {l : List Adj} {r : Tm} {bs' : List Box} {e : Exit} {s : St} (h : finG C rs true l r bs' e s) : ∃ p, e = .panic [⟨p, false, false⟩] ∧ finP l s p r bs' := by
  unfold finG at h
  split at h
  · cases h.1
  · cases h.1
  · exact ⟨_, rfl, h.2⟩
  · exact h.elim

theorem funG_of_run {C : Cfg} (hC : COk C) {f : FuncId} {fn : Func} {c : Code} (hf : C.P.funcs[f]? = some fn) (hb : fn.body = some c) (hname : (fn.name == "runtime.NumGoroutine") = false) {as : List AV} {bs : List Box} {o : Bool} {r : Tm} {bs' : List Box} {k : Scr}
    {rs : List ResultVar} (hrs : fn.results.toList = rs) {nt : Nat} (hnt : fn.ntmps = nt) {l : Scr → List Adj} (ho : o = true → ∃ t p, r = .v (.one (.sc (.iface t p))))
    (h : runE C c k ⟨as.map .v ++ List.replicate (nt - as.length) .any, bs, bs.length⟩ fun k' e s' => finG C rs o (l k') r bs' e s') : FunG C f as bs o r bs' := by
  cases o with
  | false =>
    intro Z β w vs hB hvs
    refine .inr (run_body hC hf hb hname hnt h hB hvs fun k' e s' Z1 β1 a' w' hk hm hr hx => ?_)
    obtain ⟨he, hk2⟩ := finG_ret hk
    rcases he with rfl | rfl
    · exact finE_post hC hrs hr hm hx hk2
    · exact finE_post hC hrs hr hm hx hk2
  | true =>
    obtain ⟨t, p, rfl⟩ := ho rfl
    intro Z β w vs hB hvs
    refine run_body hC hf hb hname hnt h hB hvs fun k' e s' Z1 β1 a' w' hk hm hr hx => ?_
    obtain ⟨p', rfl, hk2⟩ := finG_pan hk
    refine ⟨hr.1.defers, .iface t p, ?_⟩
    unfold finP at hk2
    split at hk2
    · rename_i ψ s2 hadj
      obtain ⟨hψ, e1, rfl⟩ := hk2
      cases e1
      obtain ⟨_, hless⟩ := adjs_less (C := C) hadj hψ
      obtain ⟨Z2, β2, hr2, hx2⟩ := hless Z1 β1 w' ⟨#[], []⟩ ⟨⟨rfl, All2.toE .nil, hr.1.bx⟩, hr.2⟩
      have hx2 : Ext s'.m Z1 β1 s'.boxes w' Z2 β2 s2.boxes w' := hx2
      rw [hm] at hx2
      exact ⟨rfl, Z2, β2, hr2.1.bx, ⟨⟨rfl, rfl⟩, rfl⟩, hx.trans hx2⟩
    · exact hk2.elim

/-- A function whose contract is proved otherwise: it looks at what it is handed, and changes nothing that stood. -/
theorem Fun.of_below {C : Cfg} {f : FuncId} {fn : Func} {c : Code} (hf : C.P.funcs[f]? = some fn) (hb : fn.body = some c) (hname : (fn.name == "runtime.NumGoroutine") = false) {as : List AV} {r : Value} {tm : Tm} (hr : ∀ X, repTm X r tm)
    (h : ∀ (X : Cx) (vs : List Value), X.E = C.E → repAVs X as vs → (∀ g ∈ C.G, globOK (X.w.cell? g.1) g.2) → Calls C.P f vs.toArray X.w fun e w' => e = .returned r ∧ Go.RowKit.Below X.w.heap.size X.w w') : Fun C f as [] tm [] := by
  intro Z β w vs hB hvs
  refine .inr ⟨?_, (h (mkX C.E Z β w []) vs rfl hvs fun g hg => (hB.glob g hg).1).mono ?_⟩
  · unfold callFunc
    rw [Sem.run_bind]
    show ((match C.P.funcs[f]? with | none => _ | some fn => _) : Sem Next).run C.P w = _
    rw [hf]
    simp [hname, hb]
  · rintro e w' ⟨rfl, hbel⟩
    have hbel : Go.RowKit.Below w.heap.size w w' := hbel
    exact ⟨r, rfl, Z, β, (hB.quiet hbel.size hbel.block).1, hr _, Ext.quiet hbel.os hbel.tape hbel.output hbel.size hbel.block⟩

/-- .. whose result is told by its cell alone. -/
theorem Fun.of_below2 {C : Cfg} {f : FuncId} {fn : Func} {c : Code} (hf : C.P.funcs[f]? = some fn) (hb : fn.body = some c) (hname : (fn.name == "runtime.NumGoroutine") = false) {as : List AV} {tm : Tm}
    (h : ∀ (X : Cx) (vs : List Value), X.E = C.E → repAVs X as vs → (∀ g ∈ C.G, globOK (X.w.cell? g.1) g.2) → Calls C.P f vs.toArray X.w fun e w' => (∃ r, e = .returned r ∧ ∀ Y, repTm Y r tm) ∧ Go.RowKit.Below X.w.heap.size X.w w') : Fun C f as [] tm [] := by
  intro Z β w vs hB hvs
  refine .inr ⟨?_, (h (mkX C.E Z β w []) vs rfl hvs fun g hg => (hB.glob g hg).1).mono ?_⟩
  · unfold callFunc
    rw [Sem.run_bind]
    show ((match C.P.funcs[f]? with | none => _ | some fn => _) : Sem Next).run C.P w = _
    rw [hf]
    simp [hname, hb]
  · rintro e w' ⟨⟨r, rfl, hr⟩, hbel⟩
    have hbel : Go.RowKit.Below w.heap.size w w' := hbel
    exact ⟨r, rfl, Z, β, (hB.quiet hbel.size hbel.block).1, hr _, Ext.quiet hbel.os hbel.tape hbel.output hbel.size hbel.block⟩

end Go.Proofs.YtllannmegnklmaaE
