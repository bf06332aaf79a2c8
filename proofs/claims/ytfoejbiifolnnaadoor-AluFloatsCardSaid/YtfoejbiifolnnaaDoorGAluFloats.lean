/- Printed by gen.py: the next part. -/
import Derived.Test.YtfoejbiifolnnaaDoorGAluFloatsp1
set_option linter.unusedVariables false
set_option maxRecDepth 100000
set_option maxHeartbeats 4000000
namespace Go.Proofs.YtfoejbiifolnnaaDoorGAluFloats
open Go Go.Proofs.YtfoejbiifolnnaaDoorE
theorem halterref02_Div.l11_ok (t1 : Bool) (t2 : Bool) (t200 : Bool × Int × Int × Bool) (t201 : Bool × Int × Int × Bool) (t208 : Int × Int) (t220 : Int × Int) : ∀ (n : Nat) (x228 : Int) (x229 : Int) (x230 : Int) (r : Int × Int), halterref02_Div.l11 t1 t2 t200 t201 t208 t220 n x228 x229 x230 = some r → TripN cfg (cpath (Tryd.f39.body.getD .skip) [1, 1, 1, 1, 1, 1, 1, 1, 1, 0, 1, 0, 0]) n (halterref02_Div.l11_S t1 t2 t200 t201 t208 t220 x228 x229 x230) (halterref02_Div.l11_Q t1 t2 t200 t201 t208 t220 r) := by
  intro n
  induction n with
  | zero => intro x228 x229 x230 r h; cases h
  | succ n ih =>
    intro x228 x229 x230 r h
    rw [halterref02_Div.l11] at h
    refine TripN.of_run cfg_ok (k := (.br (aE 6 (.adj [.keep [5, 6, 7, 8, 9, 10], .drop 2] .nil)) (.adj [.keep [5, 6, 7, 8, 9], .drop 2] .nil))) (to_goal (q := (True) ∧ (((decide (x230 < (60 : Int))) = true → (True ∧ (True ∧ (True ∧ (True) ∧ (True ∧ (True) ∧ (True) ∧ (t220.1 ≠ 0) ∧ (True) ∧ (True ∧ (True) ∧ (t220.1 ≠ 0) ∧ (True ∧ (True) ∧ (((True) ∧ (True) ∧ True) ∧ TripN cfg (cpath (Tryd.f39.body.getD .skip) [1, 1, 1, 1, 1, 1, 1, 1, 1, 0, 1, 0, 0]) n (halterref02_Div.l11_S t1 t2 t200 t201 t208 t220 (IntKind.wrap .u64 ((IntKind.wrap .u64 ((2 : Int) * x228)) + (IntKind.wrap .u64 (Int.tdiv (IntKind.wrap .u64 ((2 : Int) * x229)) t220.1)))) (Int.tmod (IntKind.wrap .u64 ((2 : Int) * x229)) t220.1) (IntKind.wrap .i64 (x230 + (1 : Int)))) (halterref02_Div.l11_Q t1 t2 t200 t201 t208 t220 r))))))))) ∧ ((decide (x230 < (60 : Int))) = false → (((True) ∧ (True) ∧ True) ∧ halterref02_Div.l11_Q t1 t2 t200 t201 t208 t220 r (.exit 4) ⟨[.any, .any, .any, .any, .any, .v (.one (.sc (.bool (!(t1 == t2))))), .v (.one (.ptr 0 ⟨0, 0, 0, 0⟩)), .v (.one (.ptr 1 ⟨0, 0, 0, 0⟩)), .v (.one (.sc (.int .u64 x228))), .v (.one (.sc (.int .u64 x229))), .any, .any, .any, .any, .any, .any, .any, .any, .any, .any, .any, .any, .any, .any, .any, .any, .any, .any, .any, .any, .any, .any, .any, .any, .any, .any, .any, .any, .any, .any, .any, .any, .any, .any, .any, .any, .any, .any, .any, .any, .any, .any, .any, .any, .any, .any, .any, .any, .any, .any, .any, .any, .any, .any, .any, .any, .any, .any, .any, .any, .any, .any, .any, .any, .any, .any, .any, .any, .any, .any, .any, .any, .any, .any, .any, .any, .any, .any, .any, .any, .any, .any, .any, .any, .any, .any, .any, .any, .any, .any, .any, .any, .any, .any, .any, .any, .any, .any, .any, .any, .any, .any, .any, .any, .any, .any, .any, .any, .any, .any, .any, .any, .any, .any], [.ex false [.c (.sc (.bool t200.1)), .c (.sc (.int .u64 t208.1)), .c (.sc (.int .i64 t208.2)), .c (.sc (.bool (z3 t200)))] 93, .ex false [.c (.sc (.bool t201.1)), .c (.sc (.int .u64 t220.1)), .c (.sc (.int .i64 t220.2)), .c (.sc (.bool (z3 t201)))] 93], 0⟩)))) (by kernel_rfl) ?_)
    refine ⟨trivial, ?_⟩
    refine ⟨fun b237 => ?_, fun b237 => ?_⟩
    · rw [if_pos (of_decide_eq_true b237)] at h
      refine ⟨trivial, trivial, trivial, trivial, trivial, trivial, trivial, ?_⟩
      obtain ⟨g239, h⟩ := of_guard h
      refine ⟨g239, ?_⟩
      refine ⟨trivial, trivial, trivial, ?_⟩
      obtain ⟨g238, h⟩ := of_guard h
      refine ⟨g238, ?_⟩
      refine ⟨trivial, trivial, ?_⟩
      exact ⟨⟨trivial, trivial, trivial⟩, ih (IntKind.wrap .u64 ((IntKind.wrap .u64 ((2 : Int) * x228)) + (IntKind.wrap .u64 (Int.tdiv (IntKind.wrap .u64 ((2 : Int) * x229)) t220.1)))) (Int.tmod (IntKind.wrap .u64 ((2 : Int) * x229)) t220.1) (IntKind.wrap .i64 (x230 + (1 : Int))) r h⟩
    · rw [if_neg (of_decide_eq_false b237)] at h
      obtain rfl := Option.some.inj h
      exact ⟨⟨trivial, trivial, trivial⟩, rfl, rfl⟩
def halterref02_Div.f (a0 : Int) (a1 : Int) : Option Int :=
  (halterref02_Neg.f a0).bind fun t1 =>
  (halterref02_Neg.f a1).bind fun t2 =>
  (halterref02_none.f a0 a1).bind fun t3 =>
  if t3 = true then
    some (9221120237041090560 : Int)
  else
    (halterref02_Class.f a0).bind fun t5 =>
    if t5 = (3 : Int) then
      (halterref02_Class.f a1).bind fun t7 =>
      if t7 = (3 : Int) then
        some (9221120237041090560 : Int)
      else
        (halterref02_Class.f a0).bind fun t9 =>
        if t9 = (0 : Int) then
          (halterref02_Class.f a1).bind fun t11 =>
          if t11 = (0 : Int) then
            some (9221120237041090560 : Int)
          else
            (halterref02_Class.f a0).bind fun t13 =>
            if t13 = (3 : Int) then
              (halterref02_signed.f (!(t1 == t2)) (9218868437227405312 : Int)).bind fun t15 =>
              some t15
            else
              (halterref02_Class.f a1).bind fun t16 =>
              if t16 = (0 : Int) then
                (halterref02_signed.f (!(t1 == t2)) (9218868437227405312 : Int)).bind fun t18 =>
                some t18
              else
                (halterref02_Class.f a0).bind fun t19 =>
                if t19 = (0 : Int) then
                  (halterref02_signed.f (!(t1 == t2)) (0 : Int)).bind fun t21 =>
                  some t21
                else
                  (halterref02_Class.f a1).bind fun t22 =>
                  if t22 = (3 : Int) then
                    (halterref02_signed.f (!(t1 == t2)) (0 : Int)).bind fun t24 =>
                    some t24
                  else
                    (halterref02_Open.f a0).bind fun t25 =>
                    (halterref02_Open.f a1).bind fun t26 =>
                    (halterref02_Div.l0 t1 t2 t25 t26 FUEL t25.2.1 t25.2.2.1).bind fun t33 =>
                    (halterref02_Div.l1 t1 t2 t25 t26 t33 FUEL t26.2.1 t26.2.2.1).bind fun t45 =>
                    if t45.1 ≠ 0 then
                      if t45.1 ≠ 0 then
                        (halterref02_Div.l2 t1 t2 t25 t26 t33 t45 FUEL (IntKind.wrap .u64 (Int.tdiv t33.1 t45.1)) (Int.tmod t33.1 t45.1) (0 : Int)).bind fun t61 =>
                        (halterref02_Round.f (!(t1 == t2)) t61.1 (IntKind.wrap .i64 ((IntKind.wrap .i64 (t33.2 - t45.2)) - (60 : Int))) (decide (t61.2 > (0 : Int)))).bind fun t69 =>
                        some t69
                      else none
                    else none
        else
          (halterref02_Class.f a0).bind fun t70 =>
          if t70 = (3 : Int) then
            (halterref02_signed.f (!(t1 == t2)) (9218868437227405312 : Int)).bind fun t72 =>
            some t72
          else
            (halterref02_Class.f a1).bind fun t73 =>
            if t73 = (0 : Int) then
              (halterref02_signed.f (!(t1 == t2)) (9218868437227405312 : Int)).bind fun t75 =>
              some t75
            else
              (halterref02_Class.f a0).bind fun t76 =>
              if t76 = (0 : Int) then
                (halterref02_signed.f (!(t1 == t2)) (0 : Int)).bind fun t78 =>
                some t78
              else
                (halterref02_Class.f a1).bind fun t79 =>
                if t79 = (3 : Int) then
                  (halterref02_signed.f (!(t1 == t2)) (0 : Int)).bind fun t81 =>
                  some t81
                else
                  (halterref02_Open.f a0).bind fun t82 =>
                  (halterref02_Open.f a1).bind fun t83 =>
                  (halterref02_Div.l3 t1 t2 t82 t83 FUEL t82.2.1 t82.2.2.1).bind fun t90 =>
                  (halterref02_Div.l4 t1 t2 t82 t83 t90 FUEL t83.2.1 t83.2.2.1).bind fun t102 =>
                  if t102.1 ≠ 0 then
                    if t102.1 ≠ 0 then
                      (halterref02_Div.l5 t1 t2 t82 t83 t90 t102 FUEL (IntKind.wrap .u64 (Int.tdiv t90.1 t102.1)) (Int.tmod t90.1 t102.1) (0 : Int)).bind fun t118 =>
                      (halterref02_Round.f (!(t1 == t2)) t118.1 (IntKind.wrap .i64 ((IntKind.wrap .i64 (t90.2 - t102.2)) - (60 : Int))) (decide (t118.2 > (0 : Int)))).bind fun t126 =>
                      some t126
                    else none
                  else none
    else
      (halterref02_Class.f a0).bind fun t127 =>
      if t127 = (0 : Int) then
        (halterref02_Class.f a1).bind fun t129 =>
        if t129 = (0 : Int) then
          some (9221120237041090560 : Int)
        else
          (halterref02_Class.f a0).bind fun t131 =>
          if t131 = (3 : Int) then
            (halterref02_signed.f (!(t1 == t2)) (9218868437227405312 : Int)).bind fun t133 =>
            some t133
          else
            (halterref02_Class.f a1).bind fun t134 =>
            if t134 = (0 : Int) then
              (halterref02_signed.f (!(t1 == t2)) (9218868437227405312 : Int)).bind fun t136 =>
              some t136
            else
              (halterref02_Class.f a0).bind fun t137 =>
              if t137 = (0 : Int) then
                (halterref02_signed.f (!(t1 == t2)) (0 : Int)).bind fun t139 =>
                some t139
              else
                (halterref02_Class.f a1).bind fun t140 =>
                if t140 = (3 : Int) then
                  (halterref02_signed.f (!(t1 == t2)) (0 : Int)).bind fun t142 =>
                  some t142
                else
                  (halterref02_Open.f a0).bind fun t143 =>
                  (halterref02_Open.f a1).bind fun t144 =>
                  (halterref02_Div.l6 t1 t2 t143 t144 FUEL t143.2.1 t143.2.2.1).bind fun t151 =>
                  (halterref02_Div.l7 t1 t2 t143 t144 t151 FUEL t144.2.1 t144.2.2.1).bind fun t163 =>
                  if t163.1 ≠ 0 then
                    if t163.1 ≠ 0 then
                      (halterref02_Div.l8 t1 t2 t143 t144 t151 t163 FUEL (IntKind.wrap .u64 (Int.tdiv t151.1 t163.1)) (Int.tmod t151.1 t163.1) (0 : Int)).bind fun t179 =>
                      (halterref02_Round.f (!(t1 == t2)) t179.1 (IntKind.wrap .i64 ((IntKind.wrap .i64 (t151.2 - t163.2)) - (60 : Int))) (decide (t179.2 > (0 : Int)))).bind fun t187 =>
                      some t187
                    else none
                  else none
      else
        (halterref02_Class.f a0).bind fun t188 =>
        if t188 = (3 : Int) then
          (halterref02_signed.f (!(t1 == t2)) (9218868437227405312 : Int)).bind fun t190 =>
          some t190
        else
          (halterref02_Class.f a1).bind fun t191 =>
          if t191 = (0 : Int) then
            (halterref02_signed.f (!(t1 == t2)) (9218868437227405312 : Int)).bind fun t193 =>
            some t193
          else
            (halterref02_Class.f a0).bind fun t194 =>
            if t194 = (0 : Int) then
              (halterref02_signed.f (!(t1 == t2)) (0 : Int)).bind fun t196 =>
              some t196
            else
              (halterref02_Class.f a1).bind fun t197 =>
              if t197 = (3 : Int) then
                (halterref02_signed.f (!(t1 == t2)) (0 : Int)).bind fun t199 =>
                some t199
              else
                (halterref02_Open.f a0).bind fun t200 =>
                (halterref02_Open.f a1).bind fun t201 =>
                (halterref02_Div.l9 t1 t2 t200 t201 FUEL t200.2.1 t200.2.2.1).bind fun t208 =>
                (halterref02_Div.l10 t1 t2 t200 t201 t208 FUEL t201.2.1 t201.2.2.1).bind fun t220 =>
                if t220.1 ≠ 0 then
                  if t220.1 ≠ 0 then
                    (halterref02_Div.l11 t1 t2 t200 t201 t208 t220 FUEL (IntKind.wrap .u64 (Int.tdiv t208.1 t220.1)) (Int.tmod t208.1 t220.1) (0 : Int)).bind fun t236 =>
                    (halterref02_Round.f (!(t1 == t2)) t236.1 (IntKind.wrap .i64 ((IntKind.wrap .i64 (t208.2 - t220.2)) - (60 : Int))) (decide (t236.2 > (0 : Int)))).bind fun t244 =>
                    some t244
                  else none
                else none
def halterref02_Div.R (r : Int) : Tm := .v (.one (.sc (.int .u64 r)))
theorem halterref02_Div.fun_ {a0 : Int} {a1 : Int} {r : Int} (h : halterref02_Div.f a0 a1 = some r) : Fun cfg 39 [.one (.sc (.int .u64 a0)), .one (.sc (.int .u64 a1))] [] (halterref02_Div.R r) [] := by
  unfold halterref02_Div.f at h
  refine fun_of_run cfg_ok (f := 39) (fn := Tryd.f39) Tryd.func39 rfl (by kernel_rfl) (rs := [.tmp 4]) rfl (nt := 124) rfl (l := fin) (k := (.call true [] (Bool) halterref02_Neg.R (fun t1 => (.call true [] (Bool) halterref02_Neg.R (fun t2 => (.call true [] (Bool) halterref02_none.R (fun t3 => (.br (oT 12 (aE 3 .nil)) (.one false (.call true [] (Int) halterref02_Class.R (fun t5 => (oF 2 (.br (.one true (.call true [] (Int) halterref02_Class.R (fun t7 => (.one true (.one false (.one true (.one false (.br (oT 6 (aE 3 .nil)) (.one false (.call true [] (Int) halterref02_Class.R (fun t9 => (oF 2 (.br (.one true (.call true [] (Int) halterref02_Class.R (fun t11 => (.one true (.one false (.one true (.one false (.br (aE 3 .nil) (.call true [] (Int) halterref02_Class.R (fun t13 => (.br (oT 4 (.call true [] (Int) halterref02_signed.R (fun t15 => (aE 2 .nil)))) (.one false (.call true [] (Int) halterref02_Class.R (fun t16 => (oF 2 (.br (.call true [] (Int) halterref02_signed.R (fun t18 => (aE 2 .nil))) (.call true [] (Int) halterref02_Class.R (fun t19 => (.br (oT 4 (.call true [] (Int) halterref02_signed.R (fun t21 => (aE 2 .nil)))) (.one false (.call true [] (Int) halterref02_Class.R (fun t22 => (oF 2 (.br (.call true [] (Int) halterref02_signed.R (fun t24 => (aE 2 .nil))) (.call true [] (Bool × Int × Int × Bool) halterref02_Open.R (fun t25 => (.call true [] (Bool × Int × Int × Bool) halterref02_Open.R (fun t26 => (.adj [] (.adj [.keep [5, 6, 7]] (.sub (Int × Int) (fun _ => (.exit 0)) (fun t33 => ⟨[.any, .any, .any, .any, .any, .v (.one (.sc (.bool (!(t1 == t2))))), .v (.one (.ptr 0 ⟨0, 0, 0, 0⟩)), .v (.one (.ptr 1 ⟨0, 0, 0, 0⟩)), .any, .any, .any, .any, .any, .any, .any, .any, .any, .any, .any, .any, .any, .any, .any, .any, .any, .any, .any, .any, .any, .any, .any, .any, .any, .any, .any, .any, .any, .any, .any, .any, .any, .any, .any, .any, .any, .any, .any, .any, .any, .any, .any, .any, .any, .any, .any, .any, .any, .any, .any, .any, .any, .any, .any, .any, .any, .any, .any, .any, .any, .any, .any, .any, .any, .any, .any, .any, .any, .any, .any, .any, .any, .any, .any, .any, .any, .any, .any, .any, .any, .any, .any, .any, .any, .any, .any, .any, .any, .any, .any, .any, .any, .any, .any, .any, .any, .any, .any, .any, .any, .any, .any, .any, .any, .any, .any, .any, .any, .any, .any, .any, .any, .any, .any, .any], [.ex false [.c (.sc (.bool t25.1)), .c (.sc (.int .u64 t33.1)), .c (.sc (.int .i64 t33.2)), .c (.sc (.bool (z3 t25)))] 93, .ex false [.c (.sc (.bool t26.1)), .c (.sc (.int .u64 t26.2.1)), .c (.sc (.int .i64 (p2 t26))), .c (.sc (.bool (z3 t26)))] 93], 0⟩) (fun t33 => (.adj [] (.adj [.keep [5, 6, 7]] (.sub (Int × Int) (fun _ => (.exit 2)) (fun t45 => ⟨[.any, .any, .any, .any, .any, .v (.one (.sc (.bool (!(t1 == t2))))), .v (.one (.ptr 0 ⟨0, 0, 0, 0⟩)), .v (.one (.ptr 1 ⟨0, 0, 0, 0⟩)), .any, .any, .any, .any, .any, .any, .any, .any, .any, .any, .any, .any, .any, .any, .any, .any, .any, .any, .any, .any, .any, .any, .any, .any, .any, .any, .any, .any, .any, .any, .any, .any, .any, .any, .any, .any, .any, .any, .any, .any, .any, .any, .any, .any, .any, .any, .any, .any, .any, .any, .any, .any, .any, .any, .any, .any, .any, .any, .any, .any, .any, .any, .any, .any, .any, .any, .any, .any, .any, .any, .any, .any, .any, .any, .any, .any, .any, .any, .any, .any, .any, .any, .any, .any, .any, .any, .any, .any, .any, .any, .any, .any, .any, .any, .any, .any, .any, .any, .any, .any, .any, .any, .any, .any, .any, .any, .any, .any, .any, .any, .any, .any, .any, .any, .any, .any], [.ex false [.c (.sc (.bool t25.1)), .c (.sc (.int .u64 t33.1)), .c (.sc (.int .i64 t33.2)), .c (.sc (.bool (z3 t25)))] 93, .ex false [.c (.sc (.bool t26.1)), .c (.sc (.int .u64 t45.1)), .c (.sc (.int .i64 t45.2)), .c (.sc (.bool (z3 t26)))] 93], 0⟩) (fun t45 => (.dr [(0, dN), (2, dN), (5, dN), (7, dN), (1, dN), (3, dN), (4, dN), (10, dN), (6, dN), (8, dN), (9, dN), (11, dN)] (aE 2 (.adj [.keep [5, 6, 7, 8, 9, 10]] (.sub (Int × Int) (fun _ => (.exit 4)) (fun t61 => ⟨[.any, .any, .any, .any, .any, .v (.one (.sc (.bool (!(t1 == t2))))), .v (.one (.ptr 0 ⟨0, 0, 0, 0⟩)), .v (.one (.ptr 1 ⟨0, 0, 0, 0⟩)), .v (.one (.sc (.int .u64 t61.1))), .v (.one (.sc (.int .u64 t61.2))), .any, .any, .any, .any, .any, .any, .any, .any, .any, .any, .any, .any, .any, .any, .any, .any, .any, .any, .any, .any, .any, .any, .any, .any, .any, .any, .any, .any, .any, .any, .any, .any, .any, .any, .any, .any, .any, .any, .any, .any, .any, .any, .any, .any, .any, .any, .any, .any, .any, .any, .any, .any, .any, .any, .any, .any, .any, .any, .any, .any, .any, .any, .any, .any, .any, .any, .any, .any, .any, .any, .any, .any, .any, .any, .any, .any, .any, .any, .any, .any, .any, .any, .any, .any, .any, .any, .any, .any, .any, .any, .any, .any, .any, .any, .any, .any, .any, .any, .any, .any, .any, .any, .any, .any, .any, .any, .any, .any, .any, .any, .any, .any, .any, .any], [.ex false [.c (.sc (.bool t25.1)), .c (.sc (.int .u64 t33.1)), .c (.sc (.int .i64 t33.2)), .c (.sc (.bool (z3 t25)))] 93, .ex false [.c (.sc (.bool t26.1)), .c (.sc (.int .u64 t45.1)), .c (.sc (.int .i64 t45.2)), .c (.sc (.bool (z3 t26)))] 93], 0⟩) (fun t61 => (.call true [] (Int) halterref02_Round.R (fun t69 => (.adj [] (.adj [.drop 0] .nil))))))))))))))))))))))))))))))))))))))))))))) (oF 6 (.call true [] (Int) halterref02_Class.R (fun t70 => (.br (oT 4 (.call true [] (Int) halterref02_signed.R (fun t72 => (aE 2 .nil)))) (.one false (.call true [] (Int) halterref02_Class.R (fun t73 => (oF 2 (.br (.call true [] (Int) halterref02_signed.R (fun t75 => (aE 2 .nil))) (.call true [] (Int) halterref02_Class.R (fun t76 => (.br (oT 4 (.call true [] (Int) halterref02_signed.R (fun t78 => (aE 2 .nil)))) (.one false (.call true [] (Int) halterref02_Class.R (fun t79 => (oF 2 (.br (.call true [] (Int) halterref02_signed.R (fun t81 => (aE 2 .nil))) (.call true [] (Bool × Int × Int × Bool) halterref02_Open.R (fun t82 => (.call true [] (Bool × Int × Int × Bool) halterref02_Open.R (fun t83 => (.adj [] (.adj [.keep [5, 6, 7]] (.sub (Int × Int) (fun _ => (.exit 0)) (fun t90 => ⟨[.any, .any, .any, .any, .any, .v (.one (.sc (.bool (!(t1 == t2))))), .v (.one (.ptr 0 ⟨0, 0, 0, 0⟩)), .v (.one (.ptr 1 ⟨0, 0, 0, 0⟩)), .any, .any, .any, .any, .any, .any, .any, .any, .any, .any, .any, .any, .any, .any, .any, .any, .any, .any, .any, .any, .any, .any, .any, .any, .any, .any, .any, .any, .any, .any, .any, .any, .any, .any, .any, .any, .any, .any, .any, .any, .any, .any, .any, .any, .any, .any, .any, .any, .any, .any, .any, .any, .any, .any, .any, .any, .any, .any, .any, .any, .any, .any, .any, .any, .any, .any, .any, .any, .any, .any, .any, .any, .any, .any, .any, .any, .any, .any, .any, .any, .any, .any, .any, .any, .any, .any, .any, .any, .any, .any, .any, .any, .any, .any, .any, .any, .any, .any, .any, .any, .any, .any, .any, .any, .any, .any, .any, .any, .any, .any, .any, .any, .any, .any, .any, .any], [.ex false [.c (.sc (.bool t82.1)), .c (.sc (.int .u64 t90.1)), .c (.sc (.int .i64 t90.2)), .c (.sc (.bool (z3 t82)))] 93, .ex false [.c (.sc (.bool t83.1)), .c (.sc (.int .u64 t83.2.1)), .c (.sc (.int .i64 (p2 t83))), .c (.sc (.bool (z3 t83)))] 93], 0⟩) (fun t90 => (.adj [] (.adj [.keep [5, 6, 7]] (.sub (Int × Int) (fun _ => (.exit 2)) (fun t102 => ⟨[.any, .any, .any, .any, .any, .v (.one (.sc (.bool (!(t1 == t2))))), .v (.one (.ptr 0 ⟨0, 0, 0, 0⟩)), .v (.one (.ptr 1 ⟨0, 0, 0, 0⟩)), .any, .any, .any, .any, .any, .any, .any, .any, .any, .any, .any, .any, .any, .any, .any, .any, .any, .any, .any, .any, .any, .any, .any, .any, .any, .any, .any, .any, .any, .any, .any, .any, .any, .any, .any, .any, .any, .any, .any, .any, .any, .any, .any, .any, .any, .any, .any, .any, .any, .any, .any, .any, .any, .any, .any, .any, .any, .any, .any, .any, .any, .any, .any, .any, .any, .any, .any, .any, .any, .any, .any, .any, .any, .any, .any, .any, .any, .any, .any, .any, .any, .any, .any, .any, .any, .any, .any, .any, .any, .any, .any, .any, .any, .any, .any, .any, .any, .any, .any, .any, .any, .any, .any, .any, .any, .any, .any, .any, .any, .any, .any, .any, .any, .any, .any, .any], [.ex false [.c (.sc (.bool t82.1)), .c (.sc (.int .u64 t90.1)), .c (.sc (.int .i64 t90.2)), .c (.sc (.bool (z3 t82)))] 93, .ex false [.c (.sc (.bool t83.1)), .c (.sc (.int .u64 t102.1)), .c (.sc (.int .i64 t102.2)), .c (.sc (.bool (z3 t83)))] 93], 0⟩) (fun t102 => (.dr [(0, dN), (2, dN), (5, dN), (7, dN), (1, dN), (3, dN), (4, dN), (10, dN), (6, dN), (8, dN), (9, dN), (11, dN)] (aE 2 (.adj [.keep [5, 6, 7, 8, 9, 10]] (.sub (Int × Int) (fun _ => (.exit 4)) (fun t118 => ⟨[.any, .any, .any, .any, .any, .v (.one (.sc (.bool (!(t1 == t2))))), .v (.one (.ptr 0 ⟨0, 0, 0, 0⟩)), .v (.one (.ptr 1 ⟨0, 0, 0, 0⟩)), .v (.one (.sc (.int .u64 t118.1))), .v (.one (.sc (.int .u64 t118.2))), .any, .any, .any, .any, .any, .any, .any, .any, .any, .any, .any, .any, .any, .any, .any, .any, .any, .any, .any, .any, .any, .any, .any, .any, .any, .any, .any, .any, .any, .any, .any, .any, .any, .any, .any, .any, .any, .any, .any, .any, .any, .any, .any, .any, .any, .any, .any, .any, .any, .any, .any, .any, .any, .any, .any, .any, .any, .any, .any, .any, .any, .any, .any, .any, .any, .any, .any, .any, .any, .any, .any, .any, .any, .any, .any, .any, .any, .any, .any, .any, .any, .any, .any, .any, .any, .any, .any, .any, .any, .any, .any, .any, .any, .any, .any, .any, .any, .any, .any, .any, .any, .any, .any, .any, .any, .any, .any, .any, .any, .any, .any, .any, .any, .any], [.ex false [.c (.sc (.bool t82.1)), .c (.sc (.int .u64 t90.1)), .c (.sc (.int .i64 t90.2)), .c (.sc (.bool (z3 t82)))] 93, .ex false [.c (.sc (.bool t83.1)), .c (.sc (.int .u64 t102.1)), .c (.sc (.int .i64 t102.2)), .c (.sc (.bool (z3 t83)))] 93], 0⟩) (fun t118 => (.call true [] (Int) halterref02_Round.R (fun t126 => (.adj [] (.adj [.drop 0] .nil))))))))))))))))))))))))))))))))))))))))))))))))))) (oF 7 (.call true [] (Int) halterref02_Class.R (fun t127 => (oF 2 (.br (.one true (.call true [] (Int) halterref02_Class.R (fun t129 => (.one true (.one false (.one true (.one false (.br (aE 3 .nil) (.call true [] (Int) halterref02_Class.R (fun t131 => (.br (oT 4 (.call true [] (Int) halterref02_signed.R (fun t133 => (aE 2 .nil)))) (.one false (.call true [] (Int) halterref02_Class.R (fun t134 => (oF 2 (.br (.call true [] (Int) halterref02_signed.R (fun t136 => (aE 2 .nil))) (.call true [] (Int) halterref02_Class.R (fun t137 => (.br (oT 4 (.call true [] (Int) halterref02_signed.R (fun t139 => (aE 2 .nil)))) (.one false (.call true [] (Int) halterref02_Class.R (fun t140 => (oF 2 (.br (.call true [] (Int) halterref02_signed.R (fun t142 => (aE 2 .nil))) (.call true [] (Bool × Int × Int × Bool) halterref02_Open.R (fun t143 => (.call true [] (Bool × Int × Int × Bool) halterref02_Open.R (fun t144 => (.adj [] (.adj [.keep [5, 6, 7]] (.sub (Int × Int) (fun _ => (.exit 0)) (fun t151 => ⟨[.any, .any, .any, .any, .any, .v (.one (.sc (.bool (!(t1 == t2))))), .v (.one (.ptr 0 ⟨0, 0, 0, 0⟩)), .v (.one (.ptr 1 ⟨0, 0, 0, 0⟩)), .any, .any, .any, .any, .any, .any, .any, .any, .any, .any, .any, .any, .any, .any, .any, .any, .any, .any, .any, .any, .any, .any, .any, .any, .any, .any, .any, .any, .any, .any, .any, .any, .any, .any, .any, .any, .any, .any, .any, .any, .any, .any, .any, .any, .any, .any, .any, .any, .any, .any, .any, .any, .any, .any, .any, .any, .any, .any, .any, .any, .any, .any, .any, .any, .any, .any, .any, .any, .any, .any, .any, .any, .any, .any, .any, .any, .any, .any, .any, .any, .any, .any, .any, .any, .any, .any, .any, .any, .any, .any, .any, .any, .any, .any, .any, .any, .any, .any, .any, .any, .any, .any, .any, .any, .any, .any, .any, .any, .any, .any, .any, .any, .any, .any, .any, .any], [.ex false [.c (.sc (.bool t143.1)), .c (.sc (.int .u64 t151.1)), .c (.sc (.int .i64 t151.2)), .c (.sc (.bool (z3 t143)))] 93, .ex false [.c (.sc (.bool t144.1)), .c (.sc (.int .u64 t144.2.1)), .c (.sc (.int .i64 (p2 t144))), .c (.sc (.bool (z3 t144)))] 93], 0⟩) (fun t151 => (.adj [] (.adj [.keep [5, 6, 7]] (.sub (Int × Int) (fun _ => (.exit 2)) (fun t163 => ⟨[.any, .any, .any, .any, .any, .v (.one (.sc (.bool (!(t1 == t2))))), .v (.one (.ptr 0 ⟨0, 0, 0, 0⟩)), .v (.one (.ptr 1 ⟨0, 0, 0, 0⟩)), .any, .any, .any, .any, .any, .any, .any, .any, .any, .any, .any, .any, .any, .any, .any, .any, .any, .any, .any, .any, .any, .any, .any, .any, .any, .any, .any, .any, .any, .any, .any, .any, .any, .any, .any, .any, .any, .any, .any, .any, .any, .any, .any, .any, .any, .any, .any, .any, .any, .any, .any, .any, .any, .any, .any, .any, .any, .any, .any, .any, .any, .any, .any, .any, .any, .any, .any, .any, .any, .any, .any, .any, .any, .any, .any, .any, .any, .any, .any, .any, .any, .any, .any, .any, .any, .any, .any, .any, .any, .any, .any, .any, .any, .any, .any, .any, .any, .any, .any, .any, .any, .any, .any, .any, .any, .any, .any, .any, .any, .any, .any, .any, .any, .any, .any, .any], [.ex false [.c (.sc (.bool t143.1)), .c (.sc (.int .u64 t151.1)), .c (.sc (.int .i64 t151.2)), .c (.sc (.bool (z3 t143)))] 93, .ex false [.c (.sc (.bool t144.1)), .c (.sc (.int .u64 t163.1)), .c (.sc (.int .i64 t163.2)), .c (.sc (.bool (z3 t144)))] 93], 0⟩) (fun t163 => (.dr [(0, dN), (2, dN), (5, dN), (7, dN), (1, dN), (3, dN), (4, dN), (10, dN), (6, dN), (8, dN), (9, dN), (11, dN)] (aE 2 (.adj [.keep [5, 6, 7, 8, 9, 10]] (.sub (Int × Int) (fun _ => (.exit 4)) (fun t179 => ⟨[.any, .any, .any, .any, .any, .v (.one (.sc (.bool (!(t1 == t2))))), .v (.one (.ptr 0 ⟨0, 0, 0, 0⟩)), .v (.one (.ptr 1 ⟨0, 0, 0, 0⟩)), .v (.one (.sc (.int .u64 t179.1))), .v (.one (.sc (.int .u64 t179.2))), .any, .any, .any, .any, .any, .any, .any, .any, .any, .any, .any, .any, .any, .any, .any, .any, .any, .any, .any, .any, .any, .any, .any, .any, .any, .any, .any, .any, .any, .any, .any, .any, .any, .any, .any, .any, .any, .any, .any, .any, .any, .any, .any, .any, .any, .any, .any, .any, .any, .any, .any, .any, .any, .any, .any, .any, .any, .any, .any, .any, .any, .any, .any, .any, .any, .any, .any, .any, .any, .any, .any, .any, .any, .any, .any, .any, .any, .any, .any, .any, .any, .any, .any, .any, .any, .any, .any, .any, .any, .any, .any, .any, .any, .any, .any, .any, .any, .any, .any, .any, .any, .any, .any, .any, .any, .any, .any, .any, .any, .any, .any, .any, .any, .any], [.ex false [.c (.sc (.bool t143.1)), .c (.sc (.int .u64 t151.1)), .c (.sc (.int .i64 t151.2)), .c (.sc (.bool (z3 t143)))] 93, .ex false [.c (.sc (.bool t144.1)), .c (.sc (.int .u64 t163.1)), .c (.sc (.int .i64 t163.2)), .c (.sc (.bool (z3 t144)))] 93], 0⟩) (fun t179 => (.call true [] (Int) halterref02_Round.R (fun t187 => (.adj [] (.adj [.drop 0] .nil))))))))))))))))))))))))))))))))))))))))))))) (oF 6 (.call true [] (Int) halterref02_Class.R (fun t188 => (.br (oT 4 (.call true [] (Int) halterref02_signed.R (fun t190 => (aE 2 .nil)))) (.one false (.call true [] (Int) halterref02_Class.R (fun t191 => (oF 2 (.br (.call true [] (Int) halterref02_signed.R (fun t193 => (aE 2 .nil))) (.call true [] (Int) halterref02_Class.R (fun t194 => (.br (oT 4 (.call true [] (Int) halterref02_signed.R (fun t196 => (aE 2 .nil)))) (.one false (.call true [] (Int) halterref02_Class.R (fun t197 => (oF 2 (.br (.call true [] (Int) halterref02_signed.R (fun t199 => (aE 2 .nil))) (.call true [] (Bool × Int × Int × Bool) halterref02_Open.R (fun t200 => (.call true [] (Bool × Int × Int × Bool) halterref02_Open.R (fun t201 => (.adj [] (.adj [.keep [5, 6, 7]] (.sub (Int × Int) (fun _ => (.exit 0)) (fun t208 => ⟨[.any, .any, .any, .any, .any, .v (.one (.sc (.bool (!(t1 == t2))))), .v (.one (.ptr 0 ⟨0, 0, 0, 0⟩)), .v (.one (.ptr 1 ⟨0, 0, 0, 0⟩)), .any, .any, .any, .any, .any, .any, .any, .any, .any, .any, .any, .any, .any, .any, .any, .any, .any, .any, .any, .any, .any, .any, .any, .any, .any, .any, .any, .any, .any, .any, .any, .any, .any, .any, .any, .any, .any, .any, .any, .any, .any, .any, .any, .any, .any, .any, .any, .any, .any, .any, .any, .any, .any, .any, .any, .any, .any, .any, .any, .any, .any, .any, .any, .any, .any, .any, .any, .any, .any, .any, .any, .any, .any, .any, .any, .any, .any, .any, .any, .any, .any, .any, .any, .any, .any, .any, .any, .any, .any, .any, .any, .any, .any, .any, .any, .any, .any, .any, .any, .any, .any, .any, .any, .any, .any, .any, .any, .any, .any, .any, .any, .any, .any, .any, .any, .any], [.ex false [.c (.sc (.bool t200.1)), .c (.sc (.int .u64 t208.1)), .c (.sc (.int .i64 t208.2)), .c (.sc (.bool (z3 t200)))] 93, .ex false [.c (.sc (.bool t201.1)), .c (.sc (.int .u64 t201.2.1)), .c (.sc (.int .i64 (p2 t201))), .c (.sc (.bool (z3 t201)))] 93], 0⟩) (fun t208 => (.adj [] (.adj [.keep [5, 6, 7]] (.sub (Int × Int) (fun _ => (.exit 2)) (fun t220 => ⟨[.any, .any, .any, .any, .any, .v (.one (.sc (.bool (!(t1 == t2))))), .v (.one (.ptr 0 ⟨0, 0, 0, 0⟩)), .v (.one (.ptr 1 ⟨0, 0, 0, 0⟩)), .any, .any, .any, .any, .any, .any, .any, .any, .any, .any, .any, .any, .any, .any, .any, .any, .any, .any, .any, .any, .any, .any, .any, .any, .any, .any, .any, .any, .any, .any, .any, .any, .any, .any, .any, .any, .any, .any, .any, .any, .any, .any, .any, .any, .any, .any, .any, .any, .any, .any, .any, .any, .any, .any, .any, .any, .any, .any, .any, .any, .any, .any, .any, .any, .any, .any, .any, .any, .any, .any, .any, .any, .any, .any, .any, .any, .any, .any, .any, .any, .any, .any, .any, .any, .any, .any, .any, .any, .any, .any, .any, .any, .any, .any, .any, .any, .any, .any, .any, .any, .any, .any, .any, .any, .any, .any, .any, .any, .any, .any, .any, .any, .any, .any, .any, .any], [.ex false [.c (.sc (.bool t200.1)), .c (.sc (.int .u64 t208.1)), .c (.sc (.int .i64 t208.2)), .c (.sc (.bool (z3 t200)))] 93, .ex false [.c (.sc (.bool t201.1)), .c (.sc (.int .u64 t220.1)), .c (.sc (.int .i64 t220.2)), .c (.sc (.bool (z3 t201)))] 93], 0⟩) (fun t220 => (.dr [(0, dN), (2, dN), (5, dN), (7, dN), (1, dN), (3, dN), (4, dN), (10, dN), (6, dN), (8, dN), (9, dN), (11, dN)] (aE 2 (.adj [.keep [5, 6, 7, 8, 9, 10]] (.sub (Int × Int) (fun _ => (.exit 4)) (fun t236 => ⟨[.any, .any, .any, .any, .any, .v (.one (.sc (.bool (!(t1 == t2))))), .v (.one (.ptr 0 ⟨0, 0, 0, 0⟩)), .v (.one (.ptr 1 ⟨0, 0, 0, 0⟩)), .v (.one (.sc (.int .u64 t236.1))), .v (.one (.sc (.int .u64 t236.2))), .any, .any, .any, .any, .any, .any, .any, .any, .any, .any, .any, .any, .any, .any, .any, .any, .any, .any, .any, .any, .any, .any, .any, .any, .any, .any, .any, .any, .any, .any, .any, .any, .any, .any, .any, .any, .any, .any, .any, .any, .any, .any, .any, .any, .any, .any, .any, .any, .any, .any, .any, .any, .any, .any, .any, .any, .any, .any, .any, .any, .any, .any, .any, .any, .any, .any, .any, .any, .any, .any, .any, .any, .any, .any, .any, .any, .any, .any, .any, .any, .any, .any, .any, .any, .any, .any, .any, .any, .any, .any, .any, .any, .any, .any, .any, .any, .any, .any, .any, .any, .any, .any, .any, .any, .any, .any, .any, .any, .any, .any, .any, .any, .any, .any], [.ex false [.c (.sc (.bool t200.1)), .c (.sc (.int .u64 t208.1)), .c (.sc (.int .i64 t208.2)), .c (.sc (.bool (z3 t200)))] 93, .ex false [.c (.sc (.bool t201.1)), .c (.sc (.int .u64 t220.1)), .c (.sc (.int .i64 t220.2)), .c (.sc (.bool (z3 t201)))] 93], 0⟩) (fun t236 => (.call true [] (Int) halterref02_Round.R (fun t244 => (.adj [] (.adj [.drop 0] .nil)))))))))))))))))))))))))))))))))))))))))))))))))))))))) (to_goal (q := (∃ t1 : Bool, (Fun cfg 60 [.one (.sc (.int .u64 a0))] [] (halterref02_Neg.R t1) [] ∧ True) ∧ (∃ t2 : Bool, (Fun cfg 60 [.one (.sc (.int .u64 a1))] [] (halterref02_Neg.R t2) [] ∧ True) ∧ (True) ∧ (∃ t3 : Bool, (Fun cfg 59 [.one (.sc (.int .u64 a0)), .one (.sc (.int .u64 a1))] [] (halterref02_none.R t3) [] ∧ True) ∧ ((t3 = false → (t3 = false ∧ (∃ t5 : Int, (Fun cfg 36 [.one (.sc (.int .u64 a0))] [] (halterref02_Class.R t5) [] ∧ True) ∧ (t3 = false ∧ (True) ∧ (t3 = false ∧ (((t5 == (3 : Int)) = true → ((t5 == (3 : Int)) = true ∧ (∃ t7 : Int, (Fun cfg 36 [.one (.sc (.int .u64 a1))] [] (halterref02_Class.R t7) [] ∧ True) ∧ ((t5 == (3 : Int)) = true ∧ (True) ∧ (t3 = false ∧ ((t5 == (3 : Int)) = true ∧ (t3 = false ∧ (((t7 == (3 : Int)) = false → ((t7 == (3 : Int)) = false ∧ (∃ t9 : Int, (Fun cfg 36 [.one (.sc (.int .u64 a0))] [] (halterref02_Class.R t9) [] ∧ True) ∧ ((t7 == (3 : Int)) = false ∧ (True) ∧ ((t7 == (3 : Int)) = false ∧ (((t9 == (0 : Int)) = true → ((t9 == (0 : Int)) = true ∧ (∃ t11 : Int, (Fun cfg 36 [.one (.sc (.int .u64 a1))] [] (halterref02_Class.R t11) [] ∧ True) ∧ ((t9 == (0 : Int)) = true ∧ (True) ∧ ((t7 == (3 : Int)) = false ∧ ((t9 == (0 : Int)) = true ∧ ((t7 == (3 : Int)) = false ∧ (((t11 == (0 : Int)) = true → (True ∧ (True ∧ ((True) ∧ (True) ∧ (.v (.one (.sc (.int .u64 (9221120237041090560 : Int)))) : Tm) = halterref02_Div.R r ∧ ([] : List Box) = [])))) ∧ ((t11 == (0 : Int)) = false → (∃ t13 : Int, (Fun cfg 36 [.one (.sc (.int .u64 a0))] [] (halterref02_Class.R t13) [] ∧ True) ∧ (True) ∧ (((t13 == (3 : Int)) = false → ((t13 == (3 : Int)) = false ∧ (∃ t16 : Int, (Fun cfg 36 [.one (.sc (.int .u64 a1))] [] (halterref02_Class.R t16) [] ∧ True) ∧ ((t13 == (3 : Int)) = false ∧ (True) ∧ ((t13 == (3 : Int)) = false ∧ (((t16 == (0 : Int)) = true → (∃ t18 : Int, (Fun cfg 62 [.one (.sc (.bool (!(t1 == t2)))), .one (.sc (.int .u64 (9218868437227405312 : Int)))] [] (halterref02_signed.R t18) [] ∧ True) ∧ (True ∧ ((True) ∧ (True) ∧ (.v (.one (.sc (.int .u64 t18))) : Tm) = halterref02_Div.R r ∧ ([] : List Box) = [])))) ∧ ((t16 == (0 : Int)) = false → (∃ t19 : Int, (Fun cfg 36 [.one (.sc (.int .u64 a0))] [] (halterref02_Class.R t19) [] ∧ True) ∧ (True) ∧ (((t19 == (0 : Int)) = false → ((t19 == (0 : Int)) = false ∧ (∃ t22 : Int, (Fun cfg 36 [.one (.sc (.int .u64 a1))] [] (halterref02_Class.R t22) [] ∧ True) ∧ ((t19 == (0 : Int)) = false ∧ (True) ∧ ((t19 == (0 : Int)) = false ∧ (((t22 == (3 : Int)) = true → (∃ t24 : Int, (Fun cfg 62 [.one (.sc (.bool (!(t1 == t2)))), .one (.sc (.int .u64 (0 : Int)))] [] (halterref02_signed.R t24) [] ∧ True) ∧ (True ∧ ((True) ∧ (True) ∧ (.v (.one (.sc (.int .u64 t24))) : Tm) = halterref02_Div.R r ∧ ([] : List Box) = [])))) ∧ ((t22 == (3 : Int)) = false → (∃ t25 : Bool × Int × Int × Bool, (Fun cfg 61 [.one (.sc (.int .u64 a0))] [] (halterref02_Open.R t25) [] ∧ True) ∧ (∃ t26 : Bool × Int × Int × Bool, (Fun cfg 61 [.one (.sc (.int .u64 a1))] [] (halterref02_Open.R t26) [] ∧ True) ∧ (True) ∧ (True) ∧ (True ∧ (((True) ∧ True) ∧ (∃ t33 : Int × Int, Trip cfg (.loop (cpath (Tryd.f39.body.getD .skip) [1, 1, 1, 1, 1, 1, 0, 0, 0])) ⟨[.any, .any, .any, .any, .any, .v (.one (.sc (.bool (!(t1 == t2))))), .v (.one (.ptr 0 ⟨0, 0, 0, 0⟩)), .v (.one (.ptr 1 ⟨0, 0, 0, 0⟩)), .any, .any, .any, .any, .any, .any, .any, .any, .any, .any, .any, .any, .any, .any, .any, .any, .any, .any, .any, .any, .any, .any, .any, .any, .any, .any, .any, .any, .any, .any, .any, .any, .any, .any, .any, .any, .any, .any, .any, .any, .any, .any, .any, .any, .any, .any, .any, .any, .any, .any, .any, .any, .any, .any, .any, .any, .any, .any, .any, .any, .any, .any, .any, .any, .any, .any, .any, .any, .any, .any, .any, .any, .any, .any, .any, .any, .any, .any, .any, .any, .any, .any, .any, .any, .any, .any, .any, .any, .any, .any, .any, .any, .any, .any, .any, .any, .any, .any, .any, .any, .any, .any, .any, .any, .any, .any, .any, .any, .any, .any, .any, .any, .any, .any, .any, .any], [.ex false [.c (.sc (.bool t25.1)), .c (.sc (.int .u64 t25.2.1)), .c (.sc (.int .i64 (p2 t25))), .c (.sc (.bool (z3 t25)))] 93, .ex false [.c (.sc (.bool t26.1)), .c (.sc (.int .u64 t26.2.1)), .c (.sc (.int .i64 (p2 t26))), .c (.sc (.bool (z3 t26)))] 93], 0⟩ (fun e s => e = (.exit 0) ∧ s = ⟨[.any, .any, .any, .any, .any, .v (.one (.sc (.bool (!(t1 == t2))))), .v (.one (.ptr 0 ⟨0, 0, 0, 0⟩)), .v (.one (.ptr 1 ⟨0, 0, 0, 0⟩)), .any, .any, .any, .any, .any, .any, .any, .any, .any, .any, .any, .any, .any, .any, .any, .any, .any, .any, .any, .any, .any, .any, .any, .any, .any, .any, .any, .any, .any, .any, .any, .any, .any, .any, .any, .any, .any, .any, .any, .any, .any, .any, .any, .any, .any, .any, .any, .any, .any, .any, .any, .any, .any, .any, .any, .any, .any, .any, .any, .any, .any, .any, .any, .any, .any, .any, .any, .any, .any, .any, .any, .any, .any, .any, .any, .any, .any, .any, .any, .any, .any, .any, .any, .any, .any, .any, .any, .any, .any, .any, .any, .any, .any, .any, .any, .any, .any, .any, .any, .any, .any, .any, .any, .any, .any, .any, .any, .any, .any, .any, .any, .any, .any, .any, .any, .any], [.ex false [.c (.sc (.bool t25.1)), .c (.sc (.int .u64 t33.1)), .c (.sc (.int .i64 t33.2)), .c (.sc (.bool (z3 t25)))] 93, .ex false [.c (.sc (.bool t26.1)), .c (.sc (.int .u64 t26.2.1)), .c (.sc (.int .i64 (p2 t26))), .c (.sc (.bool (z3 t26)))] 93], 0⟩) ∧ (True ∧ (((True) ∧ True) ∧ (∃ t45 : Int × Int, Trip cfg (.loop (cpath (Tryd.f39.body.getD .skip) [1, 1, 1, 1, 1, 1, 1, 0, 0, 0])) ⟨[.any, .any, .any, .any, .any, .v (.one (.sc (.bool (!(t1 == t2))))), .v (.one (.ptr 0 ⟨0, 0, 0, 0⟩)), .v (.one (.ptr 1 ⟨0, 0, 0, 0⟩)), .any, .any, .any, .any, .any, .any, .any, .any, .any, .any, .any, .any, .any, .any, .any, .any, .any, .any, .any, .any, .any, .any, .any, .any, .any, .any, .any, .any, .any, .any, .any, .any, .any, .any, .any, .any, .any, .any, .any, .any, .any, .any, .any, .any, .any, .any, .any, .any, .any, .any, .any, .any, .any, .any, .any, .any, .any, .any, .any, .any, .any, .any, .any, .any, .any, .any, .any, .any, .any, .any, .any, .any, .any, .any, .any, .any, .any, .any, .any, .any, .any, .any, .any, .any, .any, .any, .any, .any, .any, .any, .any, .any, .any, .any, .any, .any, .any, .any, .any, .any, .any, .any, .any, .any, .any, .any, .any, .any, .any, .any, .any, .any, .any, .any, .any, .any], [.ex false [.c (.sc (.bool t25.1)), .c (.sc (.int .u64 t33.1)), .c (.sc (.int .i64 t33.2)), .c (.sc (.bool (z3 t25)))] 93, .ex false [.c (.sc (.bool t26.1)), .c (.sc (.int .u64 t26.2.1)), .c (.sc (.int .i64 (p2 t26))), .c (.sc (.bool (z3 t26)))] 93], 0⟩ (fun e s => e = (.exit 2) ∧ s = ⟨[.any, .any, .any, .any, .any, .v (.one (.sc (.bool (!(t1 == t2))))), .v (.one (.ptr 0 ⟨0, 0, 0, 0⟩)), .v (.one (.ptr 1 ⟨0, 0, 0, 0⟩)), .any, .any, .any, .any, .any, .any, .any, .any, .any, .any, .any, .any, .any, .any, .any, .any, .any, .any, .any, .any, .any, .any, .any, .any, .any, .any, .any, .any, .any, .any, .any, .any, .any, .any, .any, .any, .any, .any, .any, .any, .any, .any, .any, .any, .any, .any, .any, .any, .any, .any, .any, .any, .any, .any, .any, .any, .any, .any, .any, .any, .any, .any, .any, .any, .any, .any, .any, .any, .any, .any, .any, .any, .any, .any, .any, .any, .any, .any, .any, .any, .any, .any, .any, .any, .any, .any, .any, .any, .any, .any, .any, .any, .any, .any, .any, .any, .any, .any, .any, .any, .any, .any, .any, .any, .any, .any, .any, .any, .any, .any, .any, .any, .any, .any, .any, .any], [.ex false [.c (.sc (.bool t25.1)), .c (.sc (.int .u64 t33.1)), .c (.sc (.int .i64 t33.2)), .c (.sc (.bool (z3 t25)))] 93, .ex false [.c (.sc (.bool t26.1)), .c (.sc (.int .u64 t45.1)), .c (.sc (.int .i64 t45.2)), .c (.sc (.bool (z3 t26)))] 93], 0⟩) ∧ (True) ∧ (True) ∧ (t45.1 ≠ 0) ∧ (True) ∧ (True) ∧ (t45.1 ≠ 0) ∧ (True ∧ (True ∧ (((True) ∧ True) ∧ (∃ t61 : Int × Int, Trip cfg (.loop (cpath (Tryd.f39.body.getD .skip) [1, 1, 1, 1, 1, 1, 1, 1, 1, 0, 1, 0, 0])) ⟨[.any, .any, .any, .any, .any, .v (.one (.sc (.bool (!(t1 == t2))))), .v (.one (.ptr 0 ⟨0, 0, 0, 0⟩)), .v (.one (.ptr 1 ⟨0, 0, 0, 0⟩)), .v (.one (.sc (.int .u64 (IntKind.wrap .u64 (Int.tdiv t33.1 t45.1))))), .v (.one (.sc (.int .u64 (Int.tmod t33.1 t45.1)))), .v (.one (.sc (.int .i64 (0 : Int)))), .any, .any, .any, .any, .any, .any, .any, .any, .any, .any, .any, .any, .any, .any, .any, .any, .any, .any, .any, .any, .any, .any, .any, .any, .any, .any, .any, .any, .any, .any, .any, .any, .any, .any, .any, .any, .any, .any, .any, .any, .any, .any, .any, .any, .any, .any, .any, .any, .any, .any, .any, .any, .any, .any, .any, .any, .any, .any, .any, .any, .any, .any, .any, .any, .any, .any, .any, .any, .any, .any, .any, .any, .any, .any, .any, .any, .any, .any, .any, .any, .any, .any, .any, .any, .any, .any, .any, .any, .any, .any, .any, .any, .any, .any, .any, .any, .any, .any, .any, .any, .any, .any, .any, .any, .any, .any, .any, .any, .any, .any, .any, .any, .any], [.ex false [.c (.sc (.bool t25.1)), .c (.sc (.int .u64 t33.1)), .c (.sc (.int .i64 t33.2)), .c (.sc (.bool (z3 t25)))] 93, .ex false [.c (.sc (.bool t26.1)), .c (.sc (.int .u64 t45.1)), .c (.sc (.int .i64 t45.2)), .c (.sc (.bool (z3 t26)))] 93], 0⟩ (fun e s => e = (.exit 4) ∧ s = ⟨[.any, .any, .any, .any, .any, .v (.one (.sc (.bool (!(t1 == t2))))), .v (.one (.ptr 0 ⟨0, 0, 0, 0⟩)), .v (.one (.ptr 1 ⟨0, 0, 0, 0⟩)), .v (.one (.sc (.int .u64 t61.1))), .v (.one (.sc (.int .u64 t61.2))), .any, .any, .any, .any, .any, .any, .any, .any, .any, .any, .any, .any, .any, .any, .any, .any, .any, .any, .any, .any, .any, .any, .any, .any, .any, .any, .any, .any, .any, .any, .any, .any, .any, .any, .any, .any, .any, .any, .any, .any, .any, .any, .any, .any, .any, .any, .any, .any, .any, .any, .any, .any, .any, .any, .any, .any, .any, .any, .any, .any, .any, .any, .any, .any, .any, .any, .any, .any, .any, .any, .any, .any, .any, .any, .any, .any, .any, .any, .any, .any, .any, .any, .any, .any, .any, .any, .any, .any, .any, .any, .any, .any, .any, .any, .any, .any, .any, .any, .any, .any, .any, .any, .any, .any, .any, .any, .any, .any, .any, .any, .any, .any, .any, .any], [.ex false [.c (.sc (.bool t25.1)), .c (.sc (.int .u64 t33.1)), .c (.sc (.int .i64 t33.2)), .c (.sc (.bool (z3 t25)))] 93, .ex false [.c (.sc (.bool t26.1)), .c (.sc (.int .u64 t45.1)), .c (.sc (.int .i64 t45.2)), .c (.sc (.bool (z3 t26)))] 93], 0⟩) ∧ (True) ∧ (True) ∧ (True) ∧ (True) ∧ (True) ∧ (∃ t69 : Int, (Fun cfg 63 [.agg [.c (.sc (.bool (!(t1 == t2)))), .c (.sc (.int .u64 t61.1)), .c (.sc (.int .i64 (IntKind.wrap .i64 ((IntKind.wrap .i64 (t33.2 - t45.2)) - (60 : Int))))), .c (.sc (.bool (decide (t61.2 > (0 : Int)))))]] [] (halterref02_Round.R t69) [] ∧ True) ∧ (True ∧ ((True) ∧ ((True) ∧ True) ∧ (.v (.one (.sc (.int .u64 t69))) : Tm) = halterref02_Div.R r ∧ ([] : List Box) = [])))))))))))))))))))))) ∧ ((t19 == (0 : Int)) = true → ((t19 == (0 : Int)) = true ∧ ((t19 == (0 : Int)) = true ∧ ((t19 == (0 : Int)) = true ∧ (true = true ∧ (∃ t21 : Int, (Fun cfg 62 [.one (.sc (.bool (!(t1 == t2)))), .one (.sc (.int .u64 (0 : Int)))] [] (halterref02_signed.R t21) [] ∧ True) ∧ (True ∧ ((True) ∧ (True) ∧ (.v (.one (.sc (.int .u64 t21))) : Tm) = halterref02_Div.R r ∧ ([] : List Box) = []))))))))))))))))) ∧ ((t13 == (3 : Int)) = true → ((t13 == (3 : Int)) = true ∧ ((t13 == (3 : Int)) = true ∧ ((t13 == (3 : Int)) = true ∧ (true = true ∧ (∃ t15 : Int, (Fun cfg 62 [.one (.sc (.bool (!(t1 == t2)))), .one (.sc (.int .u64 (9218868437227405312 : Int)))] [] (halterref02_signed.R t15) [] ∧ True) ∧ (True ∧ ((True) ∧ (True) ∧ (.v (.one (.sc (.int .u64 t15))) : Tm) = halterref02_Div.R r ∧ ([] : List Box) = []))))))))))))))))))) ∧ ((t9 == (0 : Int)) = false → ((t9 == (0 : Int)) = false ∧ ((t9 == (0 : Int)) = false ∧ ((t7 == (3 : Int)) = false ∧ ((t9 == (0 : Int)) = false ∧ ((t7 == (3 : Int)) = false ∧ (false = false ∧ (∃ t70 : Int, (Fun cfg 36 [.one (.sc (.int .u64 a0))] [] (halterref02_Class.R t70) [] ∧ True) ∧ (True) ∧ (((t70 == (3 : Int)) = false → ((t70 == (3 : Int)) = false ∧ (∃ t73 : Int, (Fun cfg 36 [.one (.sc (.int .u64 a1))] [] (halterref02_Class.R t73) [] ∧ True) ∧ ((t70 == (3 : Int)) = false ∧ (True) ∧ ((t70 == (3 : Int)) = false ∧ (((t73 == (0 : Int)) = true → (∃ t75 : Int, (Fun cfg 62 [.one (.sc (.bool (!(t1 == t2)))), .one (.sc (.int .u64 (9218868437227405312 : Int)))] [] (halterref02_signed.R t75) [] ∧ True) ∧ (True ∧ ((True) ∧ (True) ∧ (.v (.one (.sc (.int .u64 t75))) : Tm) = halterref02_Div.R r ∧ ([] : List Box) = [])))) ∧ ((t73 == (0 : Int)) = false → (∃ t76 : Int, (Fun cfg 36 [.one (.sc (.int .u64 a0))] [] (halterref02_Class.R t76) [] ∧ True) ∧ (True) ∧ (((t76 == (0 : Int)) = false → ((t76 == (0 : Int)) = false ∧ (∃ t79 : Int, (Fun cfg 36 [.one (.sc (.int .u64 a1))] [] (halterref02_Class.R t79) [] ∧ True) ∧ ((t76 == (0 : Int)) = false ∧ (True) ∧ ((t76 == (0 : Int)) = false ∧ (((t79 == (3 : Int)) = true → (∃ t81 : Int, (Fun cfg 62 [.one (.sc (.bool (!(t1 == t2)))), .one (.sc (.int .u64 (0 : Int)))] [] (halterref02_signed.R t81) [] ∧ True) ∧ (True ∧ ((True) ∧ (True) ∧ (.v (.one (.sc (.int .u64 t81))) : Tm) = halterref02_Div.R r ∧ ([] : List Box) = [])))) ∧ ((t79 == (3 : Int)) = false → (∃ t82 : Bool × Int × Int × Bool, (Fun cfg 61 [.one (.sc (.int .u64 a0))] [] (halterref02_Open.R t82) [] ∧ True) ∧ (∃ t83 : Bool × Int × Int × Bool, (Fun cfg 61 [.one (.sc (.int .u64 a1))] [] (halterref02_Open.R t83) [] ∧ True) ∧ (True) ∧ (True) ∧ (True ∧ (((True) ∧ True) ∧ (∃ t90 : Int × Int, Trip cfg (.loop (cpath (Tryd.f39.body.getD .skip) [1, 1, 1, 1, 1, 1, 0, 0, 0])) ⟨[.any, .any, .any, .any, .any, .v (.one (.sc (.bool (!(t1 == t2))))), .v (.one (.ptr 0 ⟨0, 0, 0, 0⟩)), .v (.one (.ptr 1 ⟨0, 0, 0, 0⟩)), .any, .any, .any, .any, .any, .any, .any, .any, .any, .any, .any, .any, .any, .any, .any, .any, .any, .any, .any, .any, .any, .any, .any, .any, .any, .any, .any, .any, .any, .any, .any, .any, .any, .any, .any, .any, .any, .any, .any, .any, .any, .any, .any, .any, .any, .any, .any, .any, .any, .any, .any, .any, .any, .any, .any, .any, .any, .any, .any, .any, .any, .any, .any, .any, .any, .any, .any, .any, .any, .any, .any, .any, .any, .any, .any, .any, .any, .any, .any, .any, .any, .any, .any, .any, .any, .any, .any, .any, .any, .any, .any, .any, .any, .any, .any, .any, .any, .any, .any, .any, .any, .any, .any, .any, .any, .any, .any, .any, .any, .any, .any, .any, .any, .any, .any, .any], [.ex false [.c (.sc (.bool t82.1)), .c (.sc (.int .u64 t82.2.1)), .c (.sc (.int .i64 (p2 t82))), .c (.sc (.bool (z3 t82)))] 93, .ex false [.c (.sc (.bool t83.1)), .c (.sc (.int .u64 t83.2.1)), .c (.sc (.int .i64 (p2 t83))), .c (.sc (.bool (z3 t83)))] 93], 0⟩ (fun e s => e = (.exit 0) ∧ s = ⟨[.any, .any, .any, .any, .any, .v (.one (.sc (.bool (!(t1 == t2))))), .v (.one (.ptr 0 ⟨0, 0, 0, 0⟩)), .v (.one (.ptr 1 ⟨0, 0, 0, 0⟩)), .any, .any, .any, .any, .any, .any, .any, .any, .any, .any, .any, .any, .any, .any, .any, .any, .any, .any, .any, .any, .any, .any, .any, .any, .any, .any, .any, .any, .any, .any, .any, .any, .any, .any, .any, .any, .any, .any, .any, .any, .any, .any, .any, .any, .any, .any, .any, .any, .any, .any, .any, .any, .any, .any, .any, .any, .any, .any, .any, .any, .any, .any, .any, .any, .any, .any, .any, .any, .any, .any, .any, .any, .any, .any, .any, .any, .any, .any, .any, .any, .any, .any, .any, .any, .any, .any, .any, .any, .any, .any, .any, .any, .any, .any, .any, .any, .any, .any, .any, .any, .any, .any, .any, .any, .any, .any, .any, .any, .any, .any, .any, .any, .any, .any, .any, .any], [.ex false [.c (.sc (.bool t82.1)), .c (.sc (.int .u64 t90.1)), .c (.sc (.int .i64 t90.2)), .c (.sc (.bool (z3 t82)))] 93, .ex false [.c (.sc (.bool t83.1)), .c (.sc (.int .u64 t83.2.1)), .c (.sc (.int .i64 (p2 t83))), .c (.sc (.bool (z3 t83)))] 93], 0⟩) ∧ (True ∧ (((True) ∧ True) ∧ (∃ t102 : Int × Int, Trip cfg (.loop (cpath (Tryd.f39.body.getD .skip) [1, 1, 1, 1, 1, 1, 1, 0, 0, 0])) ⟨[.any, .any, .any, .any, .any, .v (.one (.sc (.bool (!(t1 == t2))))), .v (.one (.ptr 0 ⟨0, 0, 0, 0⟩)), .v (.one (.ptr 1 ⟨0, 0, 0, 0⟩)), .any, .any, .any, .any, .any, .any, .any, .any, .any, .any, .any, .any, .any, .any, .any, .any, .any, .any, .any, .any, .any, .any, .any, .any, .any, .any, .any, .any, .any, .any, .any, .any, .any, .any, .any, .any, .any, .any, .any, .any, .any, .any, .any, .any, .any, .any, .any, .any, .any, .any, .any, .any, .any, .any, .any, .any, .any, .any, .any, .any, .any, .any, .any, .any, .any, .any, .any, .any, .any, .any, .any, .any, .any, .any, .any, .any, .any, .any, .any, .any, .any, .any, .any, .any, .any, .any, .any, .any, .any, .any, .any, .any, .any, .any, .any, .any, .any, .any, .any, .any, .any, .any, .any, .any, .any, .any, .any, .any, .any, .any, .any, .any, .any, .any, .any, .any], [.ex false [.c (.sc (.bool t82.1)), .c (.sc (.int .u64 t90.1)), .c (.sc (.int .i64 t90.2)), .c (.sc (.bool (z3 t82)))] 93, .ex false [.c (.sc (.bool t83.1)), .c (.sc (.int .u64 t83.2.1)), .c (.sc (.int .i64 (p2 t83))), .c (.sc (.bool (z3 t83)))] 93], 0⟩ (fun e s => e = (.exit 2) ∧ s = ⟨[.any, .any, .any, .any, .any, .v (.one (.sc (.bool (!(t1 == t2))))), .v (.one (.ptr 0 ⟨0, 0, 0, 0⟩)), .v (.one (.ptr 1 ⟨0, 0, 0, 0⟩)), .any, .any, .any, .any, .any, .any, .any, .any, .any, .any, .any, .any, .any, .any, .any, .any, .any, .any, .any, .any, .any, .any, .any, .any, .any, .any, .any, .any, .any, .any, .any, .any, .any, .any, .any, .any, .any, .any, .any, .any, .any, .any, .any, .any, .any, .any, .any, .any, .any, .any, .any, .any, .any, .any, .any, .any, .any, .any, .any, .any, .any, .any, .any, .any, .any, .any, .any, .any, .any, .any, .any, .any, .any, .any, .any, .any, .any, .any, .any, .any, .any, .any, .any, .any, .any, .any, .any, .any, .any, .any, .any, .any, .any, .any, .any, .any, .any, .any, .any, .any, .any, .any, .any, .any, .any, .any, .any, .any, .any, .any, .any, .any, .any, .any, .any, .any], [.ex false [.c (.sc (.bool t82.1)), .c (.sc (.int .u64 t90.1)), .c (.sc (.int .i64 t90.2)), .c (.sc (.bool (z3 t82)))] 93, .ex false [.c (.sc (.bool t83.1)), .c (.sc (.int .u64 t102.1)), .c (.sc (.int .i64 t102.2)), .c (.sc (.bool (z3 t83)))] 93], 0⟩) ∧ (True) ∧ (True) ∧ (t102.1 ≠ 0) ∧ (True) ∧ (True) ∧ (t102.1 ≠ 0) ∧ (True ∧ (True ∧ (((True) ∧ True) ∧ (∃ t118 : Int × Int, Trip cfg (.loop (cpath (Tryd.f39.body.getD .skip) [1, 1, 1, 1, 1, 1, 1, 1, 1, 0, 1, 0, 0])) ⟨[.any, .any, .any, .any, .any, .v (.one (.sc (.bool (!(t1 == t2))))), .v (.one (.ptr 0 ⟨0, 0, 0, 0⟩)), .v (.one (.ptr 1 ⟨0, 0, 0, 0⟩)), .v (.one (.sc (.int .u64 (IntKind.wrap .u64 (Int.tdiv t90.1 t102.1))))), .v (.one (.sc (.int .u64 (Int.tmod t90.1 t102.1)))), .v (.one (.sc (.int .i64 (0 : Int)))), .any, .any, .any, .any, .any, .any, .any, .any, .any, .any, .any, .any, .any, .any, .any, .any, .any, .any, .any, .any, .any, .any, .any, .any, .any, .any, .any, .any, .any, .any, .any, .any, .any, .any, .any, .any, .any, .any, .any, .any, .any, .any, .any, .any, .any, .any, .any, .any, .any, .any, .any, .any, .any, .any, .any, .any, .any, .any, .any, .any, .any, .any, .any, .any, .any, .any, .any, .any, .any, .any, .any, .any, .any, .any, .any, .any, .any, .any, .any, .any, .any, .any, .any, .any, .any, .any, .any, .any, .any, .any, .any, .any, .any, .any, .any, .any, .any, .any, .any, .any, .any, .any, .any, .any, .any, .any, .any, .any, .any, .any, .any, .any, .any], [.ex false [.c (.sc (.bool t82.1)), .c (.sc (.int .u64 t90.1)), .c (.sc (.int .i64 t90.2)), .c (.sc (.bool (z3 t82)))] 93, .ex false [.c (.sc (.bool t83.1)), .c (.sc (.int .u64 t102.1)), .c (.sc (.int .i64 t102.2)), .c (.sc (.bool (z3 t83)))] 93], 0⟩ (fun e s => e = (.exit 4) ∧ s = ⟨[.any, .any, .any, .any, .any, .v (.one (.sc (.bool (!(t1 == t2))))), .v (.one (.ptr 0 ⟨0, 0, 0, 0⟩)), .v (.one (.ptr 1 ⟨0, 0, 0, 0⟩)), .v (.one (.sc (.int .u64 t118.1))), .v (.one (.sc (.int .u64 t118.2))), .any, .any, .any, .any, .any, .any, .any, .any, .any, .any, .any, .any, .any, .any, .any, .any, .any, .any, .any, .any, .any, .any, .any, .any, .any, .any, .any, .any, .any, .any, .any, .any, .any, .any, .any, .any, .any, .any, .any, .any, .any, .any, .any, .any, .any, .any, .any, .any, .any, .any, .any, .any, .any, .any, .any, .any, .any, .any, .any, .any, .any, .any, .any, .any, .any, .any, .any, .any, .any, .any, .any, .any, .any, .any, .any, .any, .any, .any, .any, .any, .any, .any, .any, .any, .any, .any, .any, .any, .any, .any, .any, .any, .any, .any, .any, .any, .any, .any, .any, .any, .any, .any, .any, .any, .any, .any, .any, .any, .any, .any, .any, .any, .any, .any], [.ex false [.c (.sc (.bool t82.1)), .c (.sc (.int .u64 t90.1)), .c (.sc (.int .i64 t90.2)), .c (.sc (.bool (z3 t82)))] 93, .ex false [.c (.sc (.bool t83.1)), .c (.sc (.int .u64 t102.1)), .c (.sc (.int .i64 t102.2)), .c (.sc (.bool (z3 t83)))] 93], 0⟩) ∧ (True) ∧ (True) ∧ (True) ∧ (True) ∧ (True) ∧ (∃ t126 : Int, (Fun cfg 63 [.agg [.c (.sc (.bool (!(t1 == t2)))), .c (.sc (.int .u64 t118.1)), .c (.sc (.int .i64 (IntKind.wrap .i64 ((IntKind.wrap .i64 (t90.2 - t102.2)) - (60 : Int))))), .c (.sc (.bool (decide (t118.2 > (0 : Int)))))]] [] (halterref02_Round.R t126) [] ∧ True) ∧ (True ∧ ((True) ∧ ((True) ∧ True) ∧ (.v (.one (.sc (.int .u64 t126))) : Tm) = halterref02_Div.R r ∧ ([] : List Box) = [])))))))))))))))))))))) ∧ ((t76 == (0 : Int)) = true → ((t76 == (0 : Int)) = true ∧ ((t76 == (0 : Int)) = true ∧ ((t76 == (0 : Int)) = true ∧ (true = true ∧ (∃ t78 : Int, (Fun cfg 62 [.one (.sc (.bool (!(t1 == t2)))), .one (.sc (.int .u64 (0 : Int)))] [] (halterref02_signed.R t78) [] ∧ True) ∧ (True ∧ ((True) ∧ (True) ∧ (.v (.one (.sc (.int .u64 t78))) : Tm) = halterref02_Div.R r ∧ ([] : List Box) = []))))))))))))))))) ∧ ((t70 == (3 : Int)) = true → ((t70 == (3 : Int)) = true ∧ ((t70 == (3 : Int)) = true ∧ ((t70 == (3 : Int)) = true ∧ (true = true ∧ (∃ t72 : Int, (Fun cfg 62 [.one (.sc (.bool (!(t1 == t2)))), .one (.sc (.int .u64 (9218868437227405312 : Int)))] [] (halterref02_signed.R t72) [] ∧ True) ∧ (True ∧ ((True) ∧ (True) ∧ (.v (.one (.sc (.int .u64 t72))) : Tm) = halterref02_Div.R r ∧ ([] : List Box) = []))))))))))))))))))))))) ∧ ((t7 == (3 : Int)) = true → ((t7 == (3 : Int)) = true ∧ ((t7 == (3 : Int)) = true ∧ ((t7 == (3 : Int)) = true ∧ ((t7 == (3 : Int)) = true ∧ ((t7 == (3 : Int)) = true ∧ (true = true ∧ (True ∧ (True ∧ ((True) ∧ (True) ∧ (.v (.one (.sc (.int .u64 (9221120237041090560 : Int)))) : Tm) = halterref02_Div.R r ∧ ([] : List Box) = [])))))))))))))))))) ∧ ((t5 == (3 : Int)) = false → ((t5 == (3 : Int)) = false ∧ ((t5 == (3 : Int)) = false ∧ (t3 = false ∧ ((t5 == (3 : Int)) = false ∧ (t3 = false ∧ (false = false ∧ (false = false ∧ (∃ t127 : Int, (Fun cfg 36 [.one (.sc (.int .u64 a0))] [] (halterref02_Class.R t127) [] ∧ True) ∧ (false = false ∧ (True) ∧ (false = false ∧ (((t127 == (0 : Int)) = true → ((t127 == (0 : Int)) = true ∧ (∃ t129 : Int, (Fun cfg 36 [.one (.sc (.int .u64 a1))] [] (halterref02_Class.R t129) [] ∧ True) ∧ ((t127 == (0 : Int)) = true ∧ (True) ∧ (false = false ∧ ((t127 == (0 : Int)) = true ∧ (false = false ∧ (((t129 == (0 : Int)) = true → (True ∧ (True ∧ ((True) ∧ (True) ∧ (.v (.one (.sc (.int .u64 (9221120237041090560 : Int)))) : Tm) = halterref02_Div.R r ∧ ([] : List Box) = [])))) ∧ ((t129 == (0 : Int)) = false → (∃ t131 : Int, (Fun cfg 36 [.one (.sc (.int .u64 a0))] [] (halterref02_Class.R t131) [] ∧ True) ∧ (True) ∧ (((t131 == (3 : Int)) = false → ((t131 == (3 : Int)) = false ∧ (∃ t134 : Int, (Fun cfg 36 [.one (.sc (.int .u64 a1))] [] (halterref02_Class.R t134) [] ∧ True) ∧ ((t131 == (3 : Int)) = false ∧ (True) ∧ ((t131 == (3 : Int)) = false ∧ (((t134 == (0 : Int)) = true → (∃ t136 : Int, (Fun cfg 62 [.one (.sc (.bool (!(t1 == t2)))), .one (.sc (.int .u64 (9218868437227405312 : Int)))] [] (halterref02_signed.R t136) [] ∧ True) ∧ (True ∧ ((True) ∧ (True) ∧ (.v (.one (.sc (.int .u64 t136))) : Tm) = halterref02_Div.R r ∧ ([] : List Box) = [])))) ∧ ((t134 == (0 : Int)) = false → (∃ t137 : Int, (Fun cfg 36 [.one (.sc (.int .u64 a0))] [] (halterref02_Class.R t137) [] ∧ True) ∧ (True) ∧ (((t137 == (0 : Int)) = false → ((t137 == (0 : Int)) = false ∧ (∃ t140 : Int, (Fun cfg 36 [.one (.sc (.int .u64 a1))] [] (halterref02_Class.R t140) [] ∧ True) ∧ ((t137 == (0 : Int)) = false ∧ (True) ∧ ((t137 == (0 : Int)) = false ∧ (((t140 == (3 : Int)) = true → (∃ t142 : Int, (Fun cfg 62 [.one (.sc (.bool (!(t1 == t2)))), .one (.sc (.int .u64 (0 : Int)))] [] (halterref02_signed.R t142) [] ∧ True) ∧ (True ∧ ((True) ∧ (True) ∧ (.v (.one (.sc (.int .u64 t142))) : Tm) = halterref02_Div.R r ∧ ([] : List Box) = [])))) ∧ ((t140 == (3 : Int)) = false → (∃ t143 : Bool × Int × Int × Bool, (Fun cfg 61 [.one (.sc (.int .u64 a0))] [] (halterref02_Open.R t143) [] ∧ True) ∧ (∃ t144 : Bool × Int × Int × Bool, (Fun cfg 61 [.one (.sc (.int .u64 a1))] [] (halterref02_Open.R t144) [] ∧ True) ∧ (True) ∧ (True) ∧ (True ∧ (((True) ∧ True) ∧ (∃ t151 : Int × Int, Trip cfg (.loop (cpath (Tryd.f39.body.getD .skip) [1, 1, 1, 1, 1, 1, 0, 0, 0])) ⟨[.any, .any, .any, .any, .any, .v (.one (.sc (.bool (!(t1 == t2))))), .v (.one (.ptr 0 ⟨0, 0, 0, 0⟩)), .v (.one (.ptr 1 ⟨0, 0, 0, 0⟩)), .any, .any, .any, .any, .any, .any, .any, .any, .any, .any, .any, .any, .any, .any, .any, .any, .any, .any, .any, .any, .any, .any, .any, .any, .any, .any, .any, .any, .any, .any, .any, .any, .any, .any, .any, .any, .any, .any, .any, .any, .any, .any, .any, .any, .any, .any, .any, .any, .any, .any, .any, .any, .any, .any, .any, .any, .any, .any, .any, .any, .any, .any, .any, .any, .any, .any, .any, .any, .any, .any, .any, .any, .any, .any, .any, .any, .any, .any, .any, .any, .any, .any, .any, .any, .any, .any, .any, .any, .any, .any, .any, .any, .any, .any, .any, .any, .any, .any, .any, .any, .any, .any, .any, .any, .any, .any, .any, .any, .any, .any, .any, .any, .any, .any, .any, .any], [.ex false [.c (.sc (.bool t143.1)), .c (.sc (.int .u64 t143.2.1)), .c (.sc (.int .i64 (p2 t143))), .c (.sc (.bool (z3 t143)))] 93, .ex false [.c (.sc (.bool t144.1)), .c (.sc (.int .u64 t144.2.1)), .c (.sc (.int .i64 (p2 t144))), .c (.sc (.bool (z3 t144)))] 93], 0⟩ (fun e s => e = (.exit 0) ∧ s = ⟨[.any, .any, .any, .any, .any, .v (.one (.sc (.bool (!(t1 == t2))))), .v (.one (.ptr 0 ⟨0, 0, 0, 0⟩)), .v (.one (.ptr 1 ⟨0, 0, 0, 0⟩)), .any, .any, .any, .any, .any, .any, .any, .any, .any, .any, .any, .any, .any, .any, .any, .any, .any, .any, .any, .any, .any, .any, .any, .any, .any, .any, .any, .any, .any, .any, .any, .any, .any, .any, .any, .any, .any, .any, .any, .any, .any, .any, .any, .any, .any, .any, .any, .any, .any, .any, .any, .any, .any, .any, .any, .any, .any, .any, .any, .any, .any, .any, .any, .any, .any, .any, .any, .any, .any, .any, .any, .any, .any, .any, .any, .any, .any, .any, .any, .any, .any, .any, .any, .any, .any, .any, .any, .any, .any, .any, .any, .any, .any, .any, .any, .any, .any, .any, .any, .any, .any, .any, .any, .any, .any, .any, .any, .any, .any, .any, .any, .any, .any, .any, .any, .any], [.ex false [.c (.sc (.bool t143.1)), .c (.sc (.int .u64 t151.1)), .c (.sc (.int .i64 t151.2)), .c (.sc (.bool (z3 t143)))] 93, .ex false [.c (.sc (.bool t144.1)), .c (.sc (.int .u64 t144.2.1)), .c (.sc (.int .i64 (p2 t144))), .c (.sc (.bool (z3 t144)))] 93], 0⟩) ∧ (True ∧ (((True) ∧ True) ∧ (∃ t163 : Int × Int, Trip cfg (.loop (cpath (Tryd.f39.body.getD .skip) [1, 1, 1, 1, 1, 1, 1, 0, 0, 0])) ⟨[.any, .any, .any, .any, .any, .v (.one (.sc (.bool (!(t1 == t2))))), .v (.one (.ptr 0 ⟨0, 0, 0, 0⟩)), .v (.one (.ptr 1 ⟨0, 0, 0, 0⟩)), .any, .any, .any, .any, .any, .any, .any, .any, .any, .any, .any, .any, .any, .any, .any, .any, .any, .any, .any, .any, .any, .any, .any, .any, .any, .any, .any, .any, .any, .any, .any, .any, .any, .any, .any, .any, .any, .any, .any, .any, .any, .any, .any, .any, .any, .any, .any, .any, .any, .any, .any, .any, .any, .any, .any, .any, .any, .any, .any, .any, .any, .any, .any, .any, .any, .any, .any, .any, .any, .any, .any, .any, .any, .any, .any, .any, .any, .any, .any, .any, .any, .any, .any, .any, .any, .any, .any, .any, .any, .any, .any, .any, .any, .any, .any, .any, .any, .any, .any, .any, .any, .any, .any, .any, .any, .any, .any, .any, .any, .any, .any, .any, .any, .any, .any, .any], [.ex false [.c (.sc (.bool t143.1)), .c (.sc (.int .u64 t151.1)), .c (.sc (.int .i64 t151.2)), .c (.sc (.bool (z3 t143)))] 93, .ex false [.c (.sc (.bool t144.1)), .c (.sc (.int .u64 t144.2.1)), .c (.sc (.int .i64 (p2 t144))), .c (.sc (.bool (z3 t144)))] 93], 0⟩ (fun e s => e = (.exit 2) ∧ s = ⟨[.any, .any, .any, .any, .any, .v (.one (.sc (.bool (!(t1 == t2))))), .v (.one (.ptr 0 ⟨0, 0, 0, 0⟩)), .v (.one (.ptr 1 ⟨0, 0, 0, 0⟩)), .any, .any, .any, .any, .any, .any, .any, .any, .any, .any, .any, .any, .any, .any, .any, .any, .any, .any, .any, .any, .any, .any, .any, .any, .any, .any, .any, .any, .any, .any, .any, .any, .any, .any, .any, .any, .any, .any, .any, .any, .any, .any, .any, .any, .any, .any, .any, .any, .any, .any, .any, .any, .any, .any, .any, .any, .any, .any, .any, .any, .any, .any, .any, .any, .any, .any, .any, .any, .any, .any, .any, .any, .any, .any, .any, .any, .any, .any, .any, .any, .any, .any, .any, .any, .any, .any, .any, .any, .any, .any, .any, .any, .any, .any, .any, .any, .any, .any, .any, .any, .any, .any, .any, .any, .any, .any, .any, .any, .any, .any, .any, .any, .any, .any, .any, .any], [.ex false [.c (.sc (.bool t143.1)), .c (.sc (.int .u64 t151.1)), .c (.sc (.int .i64 t151.2)), .c (.sc (.bool (z3 t143)))] 93, .ex false [.c (.sc (.bool t144.1)), .c (.sc (.int .u64 t163.1)), .c (.sc (.int .i64 t163.2)), .c (.sc (.bool (z3 t144)))] 93], 0⟩) ∧ (True) ∧ (True) ∧ (t163.1 ≠ 0) ∧ (True) ∧ (True) ∧ (t163.1 ≠ 0) ∧ (True ∧ (True ∧ (((True) ∧ True) ∧ (∃ t179 : Int × Int, Trip cfg (.loop (cpath (Tryd.f39.body.getD .skip) [1, 1, 1, 1, 1, 1, 1, 1, 1, 0, 1, 0, 0])) ⟨[.any, .any, .any, .any, .any, .v (.one (.sc (.bool (!(t1 == t2))))), .v (.one (.ptr 0 ⟨0, 0, 0, 0⟩)), .v (.one (.ptr 1 ⟨0, 0, 0, 0⟩)), .v (.one (.sc (.int .u64 (IntKind.wrap .u64 (Int.tdiv t151.1 t163.1))))), .v (.one (.sc (.int .u64 (Int.tmod t151.1 t163.1)))), .v (.one (.sc (.int .i64 (0 : Int)))), .any, .any, .any, .any, .any, .any, .any, .any, .any, .any, .any, .any, .any, .any, .any, .any, .any, .any, .any, .any, .any, .any, .any, .any, .any, .any, .any, .any, .any, .any, .any, .any, .any, .any, .any, .any, .any, .any, .any, .any, .any, .any, .any, .any, .any, .any, .any, .any, .any, .any, .any, .any, .any, .any, .any, .any, .any, .any, .any, .any, .any, .any, .any, .any, .any, .any, .any, .any, .any, .any, .any, .any, .any, .any, .any, .any, .any, .any, .any, .any, .any, .any, .any, .any, .any, .any, .any, .any, .any, .any, .any, .any, .any, .any, .any, .any, .any, .any, .any, .any, .any, .any, .any, .any, .any, .any, .any, .any, .any, .any, .any, .any, .any], [.ex false [.c (.sc (.bool t143.1)), .c (.sc (.int .u64 t151.1)), .c (.sc (.int .i64 t151.2)), .c (.sc (.bool (z3 t143)))] 93, .ex false [.c (.sc (.bool t144.1)), .c (.sc (.int .u64 t163.1)), .c (.sc (.int .i64 t163.2)), .c (.sc (.bool (z3 t144)))] 93], 0⟩ (fun e s => e = (.exit 4) ∧ s = ⟨[.any, .any, .any, .any, .any, .v (.one (.sc (.bool (!(t1 == t2))))), .v (.one (.ptr 0 ⟨0, 0, 0, 0⟩)), .v (.one (.ptr 1 ⟨0, 0, 0, 0⟩)), .v (.one (.sc (.int .u64 t179.1))), .v (.one (.sc (.int .u64 t179.2))), .any, .any, .any, .any, .any, .any, .any, .any, .any, .any, .any, .any, .any, .any, .any, .any, .any, .any, .any, .any, .any, .any, .any, .any, .any, .any, .any, .any, .any, .any, .any, .any, .any, .any, .any, .any, .any, .any, .any, .any, .any, .any, .any, .any, .any, .any, .any, .any, .any, .any, .any, .any, .any, .any, .any, .any, .any, .any, .any, .any, .any, .any, .any, .any, .any, .any, .any, .any, .any, .any, .any, .any, .any, .any, .any, .any, .any, .any, .any, .any, .any, .any, .any, .any, .any, .any, .any, .any, .any, .any, .any, .any, .any, .any, .any, .any, .any, .any, .any, .any, .any, .any, .any, .any, .any, .any, .any, .any, .any, .any, .any, .any, .any, .any], [.ex false [.c (.sc (.bool t143.1)), .c (.sc (.int .u64 t151.1)), .c (.sc (.int .i64 t151.2)), .c (.sc (.bool (z3 t143)))] 93, .ex false [.c (.sc (.bool t144.1)), .c (.sc (.int .u64 t163.1)), .c (.sc (.int .i64 t163.2)), .c (.sc (.bool (z3 t144)))] 93], 0⟩) ∧ (True) ∧ (True) ∧ (True) ∧ (True) ∧ (True) ∧ (∃ t187 : Int, (Fun cfg 63 [.agg [.c (.sc (.bool (!(t1 == t2)))), .c (.sc (.int .u64 t179.1)), .c (.sc (.int .i64 (IntKind.wrap .i64 ((IntKind.wrap .i64 (t151.2 - t163.2)) - (60 : Int))))), .c (.sc (.bool (decide (t179.2 > (0 : Int)))))]] [] (halterref02_Round.R t187) [] ∧ True) ∧ (True ∧ ((True) ∧ ((True) ∧ True) ∧ (.v (.one (.sc (.int .u64 t187))) : Tm) = halterref02_Div.R r ∧ ([] : List Box) = [])))))))))))))))))))))) ∧ ((t137 == (0 : Int)) = true → ((t137 == (0 : Int)) = true ∧ ((t137 == (0 : Int)) = true ∧ ((t137 == (0 : Int)) = true ∧ (true = true ∧ (∃ t139 : Int, (Fun cfg 62 [.one (.sc (.bool (!(t1 == t2)))), .one (.sc (.int .u64 (0 : Int)))] [] (halterref02_signed.R t139) [] ∧ True) ∧ (True ∧ ((True) ∧ (True) ∧ (.v (.one (.sc (.int .u64 t139))) : Tm) = halterref02_Div.R r ∧ ([] : List Box) = []))))))))))))))))) ∧ ((t131 == (3 : Int)) = true → ((t131 == (3 : Int)) = true ∧ ((t131 == (3 : Int)) = true ∧ ((t131 == (3 : Int)) = true ∧ (true = true ∧ (∃ t133 : Int, (Fun cfg 62 [.one (.sc (.bool (!(t1 == t2)))), .one (.sc (.int .u64 (9218868437227405312 : Int)))] [] (halterref02_signed.R t133) [] ∧ True) ∧ (True ∧ ((True) ∧ (True) ∧ (.v (.one (.sc (.int .u64 t133))) : Tm) = halterref02_Div.R r ∧ ([] : List Box) = []))))))))))))))))))) ∧ ((t127 == (0 : Int)) = false → ((t127 == (0 : Int)) = false ∧ ((t127 == (0 : Int)) = false ∧ (false = false ∧ ((t127 == (0 : Int)) = false ∧ (false = false ∧ (false = false ∧ (∃ t188 : Int, (Fun cfg 36 [.one (.sc (.int .u64 a0))] [] (halterref02_Class.R t188) [] ∧ True) ∧ (True) ∧ (((t188 == (3 : Int)) = false → ((t188 == (3 : Int)) = false ∧ (∃ t191 : Int, (Fun cfg 36 [.one (.sc (.int .u64 a1))] [] (halterref02_Class.R t191) [] ∧ True) ∧ ((t188 == (3 : Int)) = false ∧ (True) ∧ ((t188 == (3 : Int)) = false ∧ (((t191 == (0 : Int)) = true → (∃ t193 : Int, (Fun cfg 62 [.one (.sc (.bool (!(t1 == t2)))), .one (.sc (.int .u64 (9218868437227405312 : Int)))] [] (halterref02_signed.R t193) [] ∧ True) ∧ (True ∧ ((True) ∧ (True) ∧ (.v (.one (.sc (.int .u64 t193))) : Tm) = halterref02_Div.R r ∧ ([] : List Box) = [])))) ∧ ((t191 == (0 : Int)) = false → (∃ t194 : Int, (Fun cfg 36 [.one (.sc (.int .u64 a0))] [] (halterref02_Class.R t194) [] ∧ True) ∧ (True) ∧ (((t194 == (0 : Int)) = false → ((t194 == (0 : Int)) = false ∧ (∃ t197 : Int, (Fun cfg 36 [.one (.sc (.int .u64 a1))] [] (halterref02_Class.R t197) [] ∧ True) ∧ ((t194 == (0 : Int)) = false ∧ (True) ∧ ((t194 == (0 : Int)) = false ∧ (((t197 == (3 : Int)) = true → (∃ t199 : Int, (Fun cfg 62 [.one (.sc (.bool (!(t1 == t2)))), .one (.sc (.int .u64 (0 : Int)))] [] (halterref02_signed.R t199) [] ∧ True) ∧ (True ∧ ((True) ∧ (True) ∧ (.v (.one (.sc (.int .u64 t199))) : Tm) = halterref02_Div.R r ∧ ([] : List Box) = [])))) ∧ ((t197 == (3 : Int)) = false → (∃ t200 : Bool × Int × Int × Bool, (Fun cfg 61 [.one (.sc (.int .u64 a0))] [] (halterref02_Open.R t200) [] ∧ True) ∧ (∃ t201 : Bool × Int × Int × Bool, (Fun cfg 61 [.one (.sc (.int .u64 a1))] [] (halterref02_Open.R t201) [] ∧ True) ∧ (True) ∧ (True) ∧ (True ∧ (((True) ∧ True) ∧ (∃ t208 : Int × Int, Trip cfg (.loop (cpath (Tryd.f39.body.getD .skip) [1, 1, 1, 1, 1, 1, 0, 0, 0])) ⟨[.any, .any, .any, .any, .any, .v (.one (.sc (.bool (!(t1 == t2))))), .v (.one (.ptr 0 ⟨0, 0, 0, 0⟩)), .v (.one (.ptr 1 ⟨0, 0, 0, 0⟩)), .any, .any, .any, .any, .any, .any, .any, .any, .any, .any, .any, .any, .any, .any, .any, .any, .any, .any, .any, .any, .any, .any, .any, .any, .any, .any, .any, .any, .any, .any, .any, .any, .any, .any, .any, .any, .any, .any, .any, .any, .any, .any, .any, .any, .any, .any, .any, .any, .any, .any, .any, .any, .any, .any, .any, .any, .any, .any, .any, .any, .any, .any, .any, .any, .any, .any, .any, .any, .any, .any, .any, .any, .any, .any, .any, .any, .any, .any, .any, .any, .any, .any, .any, .any, .any, .any, .any, .any, .any, .any, .any, .any, .any, .any, .any, .any, .any, .any, .any, .any, .any, .any, .any, .any, .any, .any, .any, .any, .any, .any, .any, .any, .any, .any, .any, .any], [.ex false [.c (.sc (.bool t200.1)), .c (.sc (.int .u64 t200.2.1)), .c (.sc (.int .i64 (p2 t200))), .c (.sc (.bool (z3 t200)))] 93, .ex false [.c (.sc (.bool t201.1)), .c (.sc (.int .u64 t201.2.1)), .c (.sc (.int .i64 (p2 t201))), .c (.sc (.bool (z3 t201)))] 93], 0⟩ (fun e s => e = (.exit 0) ∧ s = ⟨[.any, .any, .any, .any, .any, .v (.one (.sc (.bool (!(t1 == t2))))), .v (.one (.ptr 0 ⟨0, 0, 0, 0⟩)), .v (.one (.ptr 1 ⟨0, 0, 0, 0⟩)), .any, .any, .any, .any, .any, .any, .any, .any, .any, .any, .any, .any, .any, .any, .any, .any, .any, .any, .any, .any, .any, .any, .any, .any, .any, .any, .any, .any, .any, .any, .any, .any, .any, .any, .any, .any, .any, .any, .any, .any, .any, .any, .any, .any, .any, .any, .any, .any, .any, .any, .any, .any, .any, .any, .any, .any, .any, .any, .any, .any, .any, .any, .any, .any, .any, .any, .any, .any, .any, .any, .any, .any, .any, .any, .any, .any, .any, .any, .any, .any, .any, .any, .any, .any, .any, .any, .any, .any, .any, .any, .any, .any, .any, .any, .any, .any, .any, .any, .any, .any, .any, .any, .any, .any, .any, .any, .any, .any, .any, .any, .any, .any, .any, .any, .any, .any], [.ex false [.c (.sc (.bool t200.1)), .c (.sc (.int .u64 t208.1)), .c (.sc (.int .i64 t208.2)), .c (.sc (.bool (z3 t200)))] 93, .ex false [.c (.sc (.bool t201.1)), .c (.sc (.int .u64 t201.2.1)), .c (.sc (.int .i64 (p2 t201))), .c (.sc (.bool (z3 t201)))] 93], 0⟩) ∧ (True ∧ (((True) ∧ True) ∧ (∃ t220 : Int × Int, Trip cfg (.loop (cpath (Tryd.f39.body.getD .skip) [1, 1, 1, 1, 1, 1, 1, 0, 0, 0])) ⟨[.any, .any, .any, .any, .any, .v (.one (.sc (.bool (!(t1 == t2))))), .v (.one (.ptr 0 ⟨0, 0, 0, 0⟩)), .v (.one (.ptr 1 ⟨0, 0, 0, 0⟩)), .any, .any, .any, .any, .any, .any, .any, .any, .any, .any, .any, .any, .any, .any, .any, .any, .any, .any, .any, .any, .any, .any, .any, .any, .any, .any, .any, .any, .any, .any, .any, .any, .any, .any, .any, .any, .any, .any, .any, .any, .any, .any, .any, .any, .any, .any, .any, .any, .any, .any, .any, .any, .any, .any, .any, .any, .any, .any, .any, .any, .any, .any, .any, .any, .any, .any, .any, .any, .any, .any, .any, .any, .any, .any, .any, .any, .any, .any, .any, .any, .any, .any, .any, .any, .any, .any, .any, .any, .any, .any, .any, .any, .any, .any, .any, .any, .any, .any, .any, .any, .any, .any, .any, .any, .any, .any, .any, .any, .any, .any, .any, .any, .any, .any, .any, .any], [.ex false [.c (.sc (.bool t200.1)), .c (.sc (.int .u64 t208.1)), .c (.sc (.int .i64 t208.2)), .c (.sc (.bool (z3 t200)))] 93, .ex false [.c (.sc (.bool t201.1)), .c (.sc (.int .u64 t201.2.1)), .c (.sc (.int .i64 (p2 t201))), .c (.sc (.bool (z3 t201)))] 93], 0⟩ (fun e s => e = (.exit 2) ∧ s = ⟨[.any, .any, .any, .any, .any, .v (.one (.sc (.bool (!(t1 == t2))))), .v (.one (.ptr 0 ⟨0, 0, 0, 0⟩)), .v (.one (.ptr 1 ⟨0, 0, 0, 0⟩)), .any, .any, .any, .any, .any, .any, .any, .any, .any, .any, .any, .any, .any, .any, .any, .any, .any, .any, .any, .any, .any, .any, .any, .any, .any, .any, .any, .any, .any, .any, .any, .any, .any, .any, .any, .any, .any, .any, .any, .any, .any, .any, .any, .any, .any, .any, .any, .any, .any, .any, .any, .any, .any, .any, .any, .any, .any, .any, .any, .any, .any, .any, .any, .any, .any, .any, .any, .any, .any, .any, .any, .any, .any, .any, .any, .any, .any, .any, .any, .any, .any, .any, .any, .any, .any, .any, .any, .any, .any, .any, .any, .any, .any, .any, .any, .any, .any, .any, .any, .any, .any, .any, .any, .any, .any, .any, .any, .any, .any, .any, .any, .any, .any, .any, .any, .any], [.ex false [.c (.sc (.bool t200.1)), .c (.sc (.int .u64 t208.1)), .c (.sc (.int .i64 t208.2)), .c (.sc (.bool (z3 t200)))] 93, .ex false [.c (.sc (.bool t201.1)), .c (.sc (.int .u64 t220.1)), .c (.sc (.int .i64 t220.2)), .c (.sc (.bool (z3 t201)))] 93], 0⟩) ∧ (True) ∧ (True) ∧ (t220.1 ≠ 0) ∧ (True) ∧ (True) ∧ (t220.1 ≠ 0) ∧ (True ∧ (True ∧ (((True) ∧ True) ∧ (∃ t236 : Int × Int, Trip cfg (.loop (cpath (Tryd.f39.body.getD .skip) [1, 1, 1, 1, 1, 1, 1, 1, 1, 0, 1, 0, 0])) ⟨[.any, .any, .any, .any, .any, .v (.one (.sc (.bool (!(t1 == t2))))), .v (.one (.ptr 0 ⟨0, 0, 0, 0⟩)), .v (.one (.ptr 1 ⟨0, 0, 0, 0⟩)), .v (.one (.sc (.int .u64 (IntKind.wrap .u64 (Int.tdiv t208.1 t220.1))))), .v (.one (.sc (.int .u64 (Int.tmod t208.1 t220.1)))), .v (.one (.sc (.int .i64 (0 : Int)))), .any, .any, .any, .any, .any, .any, .any, .any, .any, .any, .any, .any, .any, .any, .any, .any, .any, .any, .any, .any, .any, .any, .any, .any, .any, .any, .any, .any, .any, .any, .any, .any, .any, .any, .any, .any, .any, .any, .any, .any, .any, .any, .any, .any, .any, .any, .any, .any, .any, .any, .any, .any, .any, .any, .any, .any, .any, .any, .any, .any, .any, .any, .any, .any, .any, .any, .any, .any, .any, .any, .any, .any, .any, .any, .any, .any, .any, .any, .any, .any, .any, .any, .any, .any, .any, .any, .any, .any, .any, .any, .any, .any, .any, .any, .any, .any, .any, .any, .any, .any, .any, .any, .any, .any, .any, .any, .any, .any, .any, .any, .any, .any, .any], [.ex false [.c (.sc (.bool t200.1)), .c (.sc (.int .u64 t208.1)), .c (.sc (.int .i64 t208.2)), .c (.sc (.bool (z3 t200)))] 93, .ex false [.c (.sc (.bool t201.1)), .c (.sc (.int .u64 t220.1)), .c (.sc (.int .i64 t220.2)), .c (.sc (.bool (z3 t201)))] 93], 0⟩ (fun e s => e = (.exit 4) ∧ s = ⟨[.any, .any, .any, .any, .any, .v (.one (.sc (.bool (!(t1 == t2))))), .v (.one (.ptr 0 ⟨0, 0, 0, 0⟩)), .v (.one (.ptr 1 ⟨0, 0, 0, 0⟩)), .v (.one (.sc (.int .u64 t236.1))), .v (.one (.sc (.int .u64 t236.2))), .any, .any, .any, .any, .any, .any, .any, .any, .any, .any, .any, .any, .any, .any, .any, .any, .any, .any, .any, .any, .any, .any, .any, .any, .any, .any, .any, .any, .any, .any, .any, .any, .any, .any, .any, .any, .any, .any, .any, .any, .any, .any, .any, .any, .any, .any, .any, .any, .any, .any, .any, .any, .any, .any, .any, .any, .any, .any, .any, .any, .any, .any, .any, .any, .any, .any, .any, .any, .any, .any, .any, .any, .any, .any, .any, .any, .any, .any, .any, .any, .any, .any, .any, .any, .any, .any, .any, .any, .any, .any, .any, .any, .any, .any, .any, .any, .any, .any, .any, .any, .any, .any, .any, .any, .any, .any, .any, .any, .any, .any, .any, .any, .any, .any], [.ex false [.c (.sc (.bool t200.1)), .c (.sc (.int .u64 t208.1)), .c (.sc (.int .i64 t208.2)), .c (.sc (.bool (z3 t200)))] 93, .ex false [.c (.sc (.bool t201.1)), .c (.sc (.int .u64 t220.1)), .c (.sc (.int .i64 t220.2)), .c (.sc (.bool (z3 t201)))] 93], 0⟩) ∧ (True) ∧ (True) ∧ (True) ∧ (True) ∧ (True) ∧ (∃ t244 : Int, (Fun cfg 63 [.agg [.c (.sc (.bool (!(t1 == t2)))), .c (.sc (.int .u64 t236.1)), .c (.sc (.int .i64 (IntKind.wrap .i64 ((IntKind.wrap .i64 (t208.2 - t220.2)) - (60 : Int))))), .c (.sc (.bool (decide (t236.2 > (0 : Int)))))]] [] (halterref02_Round.R t244) [] ∧ True) ∧ (True ∧ ((True) ∧ ((True) ∧ True) ∧ (.v (.one (.sc (.int .u64 t244))) : Tm) = halterref02_Div.R r ∧ ([] : List Box) = [])))))))))))))))))))))) ∧ ((t194 == (0 : Int)) = true → ((t194 == (0 : Int)) = true ∧ ((t194 == (0 : Int)) = true ∧ ((t194 == (0 : Int)) = true ∧ (true = true ∧ (∃ t196 : Int, (Fun cfg 62 [.one (.sc (.bool (!(t1 == t2)))), .one (.sc (.int .u64 (0 : Int)))] [] (halterref02_signed.R t196) [] ∧ True) ∧ (True ∧ ((True) ∧ (True) ∧ (.v (.one (.sc (.int .u64 t196))) : Tm) = halterref02_Div.R r ∧ ([] : List Box) = []))))))))))))))))) ∧ ((t188 == (3 : Int)) = true → ((t188 == (3 : Int)) = true ∧ ((t188 == (3 : Int)) = true ∧ ((t188 == (3 : Int)) = true ∧ (true = true ∧ (∃ t190 : Int, (Fun cfg 62 [.one (.sc (.bool (!(t1 == t2)))), .one (.sc (.int .u64 (9218868437227405312 : Int)))] [] (halterref02_signed.R t190) [] ∧ True) ∧ (True ∧ ((True) ∧ (True) ∧ (.v (.one (.sc (.int .u64 t190))) : Tm) = halterref02_Div.R r ∧ ([] : List Box) = []))))))))))))))))))))))))))))))))))) ∧ (t3 = true → (t3 = true ∧ (t3 = true ∧ (t3 = true ∧ (t3 = true ∧ (t3 = true ∧ (true = true ∧ (true = true ∧ (true = true ∧ (true = true ∧ (true = true ∧ (true = true ∧ (true = true ∧ (True ∧ (True ∧ ((True) ∧ (True) ∧ (.v (.one (.sc (.int .u64 (9221120237041090560 : Int)))) : Tm) = halterref02_Div.R r ∧ ([] : List Box) = []))))))))))))))))))))) (by kernel_rfl) ?_)
  obtain ⟨t1, ht1, h⟩ := of_bind h
  refine ⟨t1, ⟨halterref02_Neg.fun_ ht1, trivial⟩, ?_⟩
  obtain ⟨t2, ht2, h⟩ := of_bind h
  refine ⟨t2, ⟨halterref02_Neg.fun_ ht2, trivial⟩, ?_⟩
  refine ⟨trivial, ?_⟩
  obtain ⟨t3, ht3, h⟩ := of_bind h
  refine ⟨t3, ⟨halterref02_none.fun_ ht3, trivial⟩, ?_⟩
  refine ⟨fun b4 => ?_, fun b4 => ?_⟩
  · rw [if_neg (ff b4)] at h
    refine ⟨b4, ?_⟩
    obtain ⟨t5, ht5, h⟩ := of_bind h
    refine ⟨t5, ⟨halterref02_Class.fun_ ht5, trivial⟩, ?_⟩
    refine ⟨b4, ?_⟩
    refine ⟨trivial, ?_⟩
    refine ⟨b4, ?_⟩
    refine ⟨fun b6 => ?_, fun b6 => ?_⟩
    · rw [if_pos (beq_t b6)] at h
      refine ⟨b6, ?_⟩
      obtain ⟨t7, ht7, h⟩ := of_bind h
      refine ⟨t7, ⟨halterref02_Class.fun_ ht7, trivial⟩, ?_⟩
      refine ⟨b6, ?_⟩
      refine ⟨trivial, ?_⟩
      refine ⟨b4, ?_⟩
      refine ⟨b6, ?_⟩
      refine ⟨b4, ?_⟩
      refine ⟨fun b8 => ?_, fun b8 => ?_⟩
      · rw [if_neg (beq_f b8)] at h
        refine ⟨b8, ?_⟩
        obtain ⟨t9, ht9, h⟩ := of_bind h
        refine ⟨t9, ⟨halterref02_Class.fun_ ht9, trivial⟩, ?_⟩
        refine ⟨b8, ?_⟩
        refine ⟨trivial, ?_⟩
        refine ⟨b8, ?_⟩
        refine ⟨fun b10 => ?_, fun b10 => ?_⟩
        · rw [if_pos (beq_t b10)] at h
          refine ⟨b10, ?_⟩
          obtain ⟨t11, ht11, h⟩ := of_bind h
          refine ⟨t11, ⟨halterref02_Class.fun_ ht11, trivial⟩, ?_⟩
          refine ⟨b10, ?_⟩
          refine ⟨trivial, ?_⟩
          refine ⟨b8, ?_⟩
          refine ⟨b10, ?_⟩
          refine ⟨b8, ?_⟩
          refine ⟨fun b12 => ?_, fun b12 => ?_⟩
          · rw [if_pos (beq_t b12)] at h
            refine ⟨trivial, trivial, ?_⟩
            obtain rfl := Option.some.inj h
            exact ⟨trivial, trivial, rfl, rfl⟩
          · rw [if_neg (beq_f b12)] at h
            obtain ⟨t13, ht13, h⟩ := of_bind h
            refine ⟨t13, ⟨halterref02_Class.fun_ ht13, trivial⟩, ?_⟩
            refine ⟨trivial, ?_⟩
            refine ⟨fun b14 => ?_, fun b14 => ?_⟩
            · rw [if_neg (beq_f b14)] at h
              refine ⟨b14, ?_⟩
              obtain ⟨t16, ht16, h⟩ := of_bind h
              refine ⟨t16, ⟨halterref02_Class.fun_ ht16, trivial⟩, ?_⟩
              refine ⟨b14, ?_⟩
              refine ⟨trivial, ?_⟩
              refine ⟨b14, ?_⟩
              refine ⟨fun b17 => ?_, fun b17 => ?_⟩
              · rw [if_pos (beq_t b17)] at h
                obtain ⟨t18, ht18, h⟩ := of_bind h
                refine ⟨t18, ⟨halterref02_signed.fun_ ht18, trivial⟩, ?_⟩
                refine ⟨trivial, ?_⟩
                obtain rfl := Option.some.inj h
                exact ⟨trivial, trivial, rfl, rfl⟩
              · rw [if_neg (beq_f b17)] at h
                obtain ⟨t19, ht19, h⟩ := of_bind h
                refine ⟨t19, ⟨halterref02_Class.fun_ ht19, trivial⟩, ?_⟩
                refine ⟨trivial, ?_⟩
                refine ⟨fun b20 => ?_, fun b20 => ?_⟩
                · rw [if_neg (beq_f b20)] at h
                  refine ⟨b20, ?_⟩
                  obtain ⟨t22, ht22, h⟩ := of_bind h
                  refine ⟨t22, ⟨halterref02_Class.fun_ ht22, trivial⟩, ?_⟩
                  refine ⟨b20, ?_⟩
                  refine ⟨trivial, ?_⟩
                  refine ⟨b20, ?_⟩
                  refine ⟨fun b23 => ?_, fun b23 => ?_⟩
                  · rw [if_pos (beq_t b23)] at h
                    obtain ⟨t24, ht24, h⟩ := of_bind h
                    refine ⟨t24, ⟨halterref02_signed.fun_ ht24, trivial⟩, ?_⟩
                    refine ⟨trivial, ?_⟩
                    obtain rfl := Option.some.inj h
                    exact ⟨trivial, trivial, rfl, rfl⟩
                  · rw [if_neg (beq_f b23)] at h
                    obtain ⟨t25, ht25, h⟩ := of_bind h
                    refine ⟨t25, ⟨halterref02_Open.fun_ ht25, trivial⟩, ?_⟩
                    obtain ⟨t26, ht26, h⟩ := of_bind h
                    refine ⟨t26, ⟨halterref02_Open.fun_ ht26, trivial⟩, ?_⟩
                    refine ⟨trivial, trivial, trivial, ?_⟩
                    obtain ⟨t33, ht33, h⟩ := of_bind h
                    refine ⟨⟨trivial, trivial⟩, t33, Trip.loop FUEL (halterref02_Div.l0_ok t1 t2 t25 t26 FUEL t25.2.1 t25.2.2.1 t33 ht33), ?_⟩
                    refine ⟨trivial, ?_⟩
                    obtain ⟨t45, ht45, h⟩ := of_bind h
                    refine ⟨⟨trivial, trivial⟩, t45, Trip.loop FUEL (halterref02_Div.l1_ok t1 t2 t25 t26 t33 FUEL t26.2.1 t26.2.2.1 t45 ht45), ?_⟩
                    obtain ⟨g51, h⟩ := of_guard h
                    obtain ⟨g52, h⟩ := of_guard h
                    refine ⟨trivial, trivial, g51, trivial, trivial, g52, ?_⟩
                    refine ⟨trivial, trivial, ?_⟩
                    obtain ⟨t61, ht61, h⟩ := of_bind h
                    refine ⟨⟨trivial, trivial⟩, t61, Trip.loop FUEL (halterref02_Div.l2_ok t1 t2 t25 t26 t33 t45 FUEL (IntKind.wrap .u64 (Int.tdiv t33.1 t45.1)) (Int.tmod t33.1 t45.1) (0 : Int) t61 ht61), ?_⟩
                    refine ⟨trivial, trivial, trivial, trivial, trivial, ?_⟩
                    obtain ⟨t69, ht69, h⟩ := of_bind h
                    refine ⟨t69, ⟨halterref02_Round.fun_ ht69, trivial⟩, ?_⟩
                    refine ⟨trivial, ?_⟩
                    obtain rfl := Option.some.inj h
                    exact ⟨trivial, ⟨trivial, trivial⟩, rfl, rfl⟩
                · rw [if_pos (beq_t b20)] at h
                  refine ⟨b20, ?_⟩
                  refine ⟨b20, ?_⟩
                  refine ⟨b20, ?_⟩
                  refine ⟨rfl, ?_⟩
                  obtain ⟨t21, ht21, h⟩ := of_bind h
                  refine ⟨t21, ⟨halterref02_signed.fun_ ht21, trivial⟩, ?_⟩
                  refine ⟨trivial, ?_⟩
                  obtain rfl := Option.some.inj h
                  exact ⟨trivial, trivial, rfl, rfl⟩
            · rw [if_pos (beq_t b14)] at h
              refine ⟨b14, ?_⟩
              refine ⟨b14, ?_⟩
              refine ⟨b14, ?_⟩
              refine ⟨rfl, ?_⟩
              obtain ⟨t15, ht15, h⟩ := of_bind h
              refine ⟨t15, ⟨halterref02_signed.fun_ ht15, trivial⟩, ?_⟩
              refine ⟨trivial, ?_⟩
              obtain rfl := Option.some.inj h
              exact ⟨trivial, trivial, rfl, rfl⟩
        · rw [if_neg (beq_f b10)] at h
          refine ⟨b10, ?_⟩
          refine ⟨b10, ?_⟩
          refine ⟨b8, ?_⟩
          refine ⟨b10, ?_⟩
          refine ⟨b8, ?_⟩
          refine ⟨rfl, ?_⟩
          obtain ⟨t70, ht70, h⟩ := of_bind h
          refine ⟨t70, ⟨halterref02_Class.fun_ ht70, trivial⟩, ?_⟩
          refine ⟨trivial, ?_⟩
          refine ⟨fun b71 => ?_, fun b71 => ?_⟩
          · rw [if_neg (beq_f b71)] at h
            refine ⟨b71, ?_⟩
            obtain ⟨t73, ht73, h⟩ := of_bind h
            refine ⟨t73, ⟨halterref02_Class.fun_ ht73, trivial⟩, ?_⟩
            refine ⟨b71, ?_⟩
            refine ⟨trivial, ?_⟩
            refine ⟨b71, ?_⟩
            refine ⟨fun b74 => ?_, fun b74 => ?_⟩
            · rw [if_pos (beq_t b74)] at h
              obtain ⟨t75, ht75, h⟩ := of_bind h
              refine ⟨t75, ⟨halterref02_signed.fun_ ht75, trivial⟩, ?_⟩
              refine ⟨trivial, ?_⟩
              obtain rfl := Option.some.inj h
              exact ⟨trivial, trivial, rfl, rfl⟩
            · rw [if_neg (beq_f b74)] at h
              obtain ⟨t76, ht76, h⟩ := of_bind h
              refine ⟨t76, ⟨halterref02_Class.fun_ ht76, trivial⟩, ?_⟩
              refine ⟨trivial, ?_⟩
              refine ⟨fun b77 => ?_, fun b77 => ?_⟩
              · rw [if_neg (beq_f b77)] at h
                refine ⟨b77, ?_⟩
                obtain ⟨t79, ht79, h⟩ := of_bind h
                refine ⟨t79, ⟨halterref02_Class.fun_ ht79, trivial⟩, ?_⟩
                refine ⟨b77, ?_⟩
                refine ⟨trivial, ?_⟩
                refine ⟨b77, ?_⟩
                refine ⟨fun b80 => ?_, fun b80 => ?_⟩
                · rw [if_pos (beq_t b80)] at h
                  obtain ⟨t81, ht81, h⟩ := of_bind h
                  refine ⟨t81, ⟨halterref02_signed.fun_ ht81, trivial⟩, ?_⟩
                  refine ⟨trivial, ?_⟩
                  obtain rfl := Option.some.inj h
                  exact ⟨trivial, trivial, rfl, rfl⟩
                · rw [if_neg (beq_f b80)] at h
                  obtain ⟨t82, ht82, h⟩ := of_bind h
                  refine ⟨t82, ⟨halterref02_Open.fun_ ht82, trivial⟩, ?_⟩
                  obtain ⟨t83, ht83, h⟩ := of_bind h
                  refine ⟨t83, ⟨halterref02_Open.fun_ ht83, trivial⟩, ?_⟩
                  refine ⟨trivial, trivial, trivial, ?_⟩
                  obtain ⟨t90, ht90, h⟩ := of_bind h
                  refine ⟨⟨trivial, trivial⟩, t90, Trip.loop FUEL (halterref02_Div.l3_ok t1 t2 t82 t83 FUEL t82.2.1 t82.2.2.1 t90 ht90), ?_⟩
                  refine ⟨trivial, ?_⟩
                  obtain ⟨t102, ht102, h⟩ := of_bind h
                  refine ⟨⟨trivial, trivial⟩, t102, Trip.loop FUEL (halterref02_Div.l4_ok t1 t2 t82 t83 t90 FUEL t83.2.1 t83.2.2.1 t102 ht102), ?_⟩
                  obtain ⟨g108, h⟩ := of_guard h
                  obtain ⟨g109, h⟩ := of_guard h
                  refine ⟨trivial, trivial, g108, trivial, trivial, g109, ?_⟩
                  refine ⟨trivial, trivial, ?_⟩
                  obtain ⟨t118, ht118, h⟩ := of_bind h
                  refine ⟨⟨trivial, trivial⟩, t118, Trip.loop FUEL (halterref02_Div.l5_ok t1 t2 t82 t83 t90 t102 FUEL (IntKind.wrap .u64 (Int.tdiv t90.1 t102.1)) (Int.tmod t90.1 t102.1) (0 : Int) t118 ht118), ?_⟩
                  refine ⟨trivial, trivial, trivial, trivial, trivial, ?_⟩
                  obtain ⟨t126, ht126, h⟩ := of_bind h
                  refine ⟨t126, ⟨halterref02_Round.fun_ ht126, trivial⟩, ?_⟩
                  refine ⟨trivial, ?_⟩
                  obtain rfl := Option.some.inj h
                  exact ⟨trivial, ⟨trivial, trivial⟩, rfl, rfl⟩
              · rw [if_pos (beq_t b77)] at h
                refine ⟨b77, ?_⟩
                refine ⟨b77, ?_⟩
                refine ⟨b77, ?_⟩
                refine ⟨rfl, ?_⟩
                obtain ⟨t78, ht78, h⟩ := of_bind h
                refine ⟨t78, ⟨halterref02_signed.fun_ ht78, trivial⟩, ?_⟩
                refine ⟨trivial, ?_⟩
                obtain rfl := Option.some.inj h
                exact ⟨trivial, trivial, rfl, rfl⟩
          · rw [if_pos (beq_t b71)] at h
            refine ⟨b71, ?_⟩
            refine ⟨b71, ?_⟩
            refine ⟨b71, ?_⟩
            refine ⟨rfl, ?_⟩
            obtain ⟨t72, ht72, h⟩ := of_bind h
            refine ⟨t72, ⟨halterref02_signed.fun_ ht72, trivial⟩, ?_⟩
            refine ⟨trivial, ?_⟩
            obtain rfl := Option.some.inj h
            exact ⟨trivial, trivial, rfl, rfl⟩
      · rw [if_pos (beq_t b8)] at h
        refine ⟨b8, ?_⟩
        refine ⟨b8, ?_⟩
        refine ⟨b8, ?_⟩
        refine ⟨b8, ?_⟩
        refine ⟨b8, ?_⟩
        refine ⟨rfl, trivial, trivial, ?_⟩
        obtain rfl := Option.some.inj h
        exact ⟨trivial, trivial, rfl, rfl⟩
    · rw [if_neg (beq_f b6)] at h
      refine ⟨b6, ?_⟩
      refine ⟨b6, ?_⟩
      refine ⟨b4, ?_⟩
      refine ⟨b6, ?_⟩
      refine ⟨b4, ?_⟩
      refine ⟨rfl, rfl, ?_⟩
      obtain ⟨t127, ht127, h⟩ := of_bind h
      refine ⟨t127, ⟨halterref02_Class.fun_ ht127, trivial⟩, ?_⟩
      refine ⟨rfl, trivial, rfl, ?_⟩
      refine ⟨fun b128 => ?_, fun b128 => ?_⟩
      · rw [if_pos (beq_t b128)] at h
        refine ⟨b128, ?_⟩
        obtain ⟨t129, ht129, h⟩ := of_bind h
        refine ⟨t129, ⟨halterref02_Class.fun_ ht129, trivial⟩, ?_⟩
        refine ⟨b128, ?_⟩
        refine ⟨trivial, rfl, ?_⟩
        refine ⟨b128, ?_⟩
        refine ⟨rfl, ?_⟩
        refine ⟨fun b130 => ?_, fun b130 => ?_⟩
        · rw [if_pos (beq_t b130)] at h
          refine ⟨trivial, trivial, ?_⟩
          obtain rfl := Option.some.inj h
          exact ⟨trivial, trivial, rfl, rfl⟩
        · rw [if_neg (beq_f b130)] at h
          obtain ⟨t131, ht131, h⟩ := of_bind h
          refine ⟨t131, ⟨halterref02_Class.fun_ ht131, trivial⟩, ?_⟩
          refine ⟨trivial, ?_⟩
          refine ⟨fun b132 => ?_, fun b132 => ?_⟩
          · rw [if_neg (beq_f b132)] at h
            refine ⟨b132, ?_⟩
            obtain ⟨t134, ht134, h⟩ := of_bind h
            refine ⟨t134, ⟨halterref02_Class.fun_ ht134, trivial⟩, ?_⟩
            refine ⟨b132, ?_⟩
            refine ⟨trivial, ?_⟩
            refine ⟨b132, ?_⟩
            refine ⟨fun b135 => ?_, fun b135 => ?_⟩
            · rw [if_pos (beq_t b135)] at h
              obtain ⟨t136, ht136, h⟩ := of_bind h
              refine ⟨t136, ⟨halterref02_signed.fun_ ht136, trivial⟩, ?_⟩
              refine ⟨trivial, ?_⟩
              obtain rfl := Option.some.inj h
              exact ⟨trivial, trivial, rfl, rfl⟩
            · rw [if_neg (beq_f b135)] at h
              obtain ⟨t137, ht137, h⟩ := of_bind h
              refine ⟨t137, ⟨halterref02_Class.fun_ ht137, trivial⟩, ?_⟩
              refine ⟨trivial, ?_⟩
              refine ⟨fun b138 => ?_, fun b138 => ?_⟩
              · rw [if_neg (beq_f b138)] at h
                refine ⟨b138, ?_⟩
                obtain ⟨t140, ht140, h⟩ := of_bind h
                refine ⟨t140, ⟨halterref02_Class.fun_ ht140, trivial⟩, ?_⟩
                refine ⟨b138, ?_⟩
                refine ⟨trivial, ?_⟩
                refine ⟨b138, ?_⟩
                refine ⟨fun b141 => ?_, fun b141 => ?_⟩
                · rw [if_pos (beq_t b141)] at h
                  obtain ⟨t142, ht142, h⟩ := of_bind h
                  refine ⟨t142, ⟨halterref02_signed.fun_ ht142, trivial⟩, ?_⟩
                  refine ⟨trivial, ?_⟩
                  obtain rfl := Option.some.inj h
                  exact ⟨trivial, trivial, rfl, rfl⟩
                · rw [if_neg (beq_f b141)] at h
                  obtain ⟨t143, ht143, h⟩ := of_bind h
                  refine ⟨t143, ⟨halterref02_Open.fun_ ht143, trivial⟩, ?_⟩
                  obtain ⟨t144, ht144, h⟩ := of_bind h
                  refine ⟨t144, ⟨halterref02_Open.fun_ ht144, trivial⟩, ?_⟩
                  refine ⟨trivial, trivial, trivial, ?_⟩
                  obtain ⟨t151, ht151, h⟩ := of_bind h
                  refine ⟨⟨trivial, trivial⟩, t151, Trip.loop FUEL (halterref02_Div.l6_ok t1 t2 t143 t144 FUEL t143.2.1 t143.2.2.1 t151 ht151), ?_⟩
                  refine ⟨trivial, ?_⟩
                  obtain ⟨t163, ht163, h⟩ := of_bind h
                  refine ⟨⟨trivial, trivial⟩, t163, Trip.loop FUEL (halterref02_Div.l7_ok t1 t2 t143 t144 t151 FUEL t144.2.1 t144.2.2.1 t163 ht163), ?_⟩
                  obtain ⟨g169, h⟩ := of_guard h
                  obtain ⟨g170, h⟩ := of_guard h
                  refine ⟨trivial, trivial, g169, trivial, trivial, g170, ?_⟩
                  refine ⟨trivial, trivial, ?_⟩
                  obtain ⟨t179, ht179, h⟩ := of_bind h
                  refine ⟨⟨trivial, trivial⟩, t179, Trip.loop FUEL (halterref02_Div.l8_ok t1 t2 t143 t144 t151 t163 FUEL (IntKind.wrap .u64 (Int.tdiv t151.1 t163.1)) (Int.tmod t151.1 t163.1) (0 : Int) t179 ht179), ?_⟩
                  refine ⟨trivial, trivial, trivial, trivial, trivial, ?_⟩
                  obtain ⟨t187, ht187, h⟩ := of_bind h
                  refine ⟨t187, ⟨halterref02_Round.fun_ ht187, trivial⟩, ?_⟩
                  refine ⟨trivial, ?_⟩
                  obtain rfl := Option.some.inj h
                  exact ⟨trivial, ⟨trivial, trivial⟩, rfl, rfl⟩
              · rw [if_pos (beq_t b138)] at h
                refine ⟨b138, ?_⟩
                refine ⟨b138, ?_⟩
                refine ⟨b138, ?_⟩
                refine ⟨rfl, ?_⟩
                obtain ⟨t139, ht139, h⟩ := of_bind h
                refine ⟨t139, ⟨halterref02_signed.fun_ ht139, trivial⟩, ?_⟩
                refine ⟨trivial, ?_⟩
                obtain rfl := Option.some.inj h
                exact ⟨trivial, trivial, rfl, rfl⟩
          · rw [if_pos (beq_t b132)] at h
            refine ⟨b132, ?_⟩
            refine ⟨b132, ?_⟩
            refine ⟨b132, ?_⟩
            refine ⟨rfl, ?_⟩
            obtain ⟨t133, ht133, h⟩ := of_bind h
            refine ⟨t133, ⟨halterref02_signed.fun_ ht133, trivial⟩, ?_⟩
            refine ⟨trivial, ?_⟩
            obtain rfl := Option.some.inj h
            exact ⟨trivial, trivial, rfl, rfl⟩
      · rw [if_neg (beq_f b128)] at h
        refine ⟨b128, ?_⟩
        refine ⟨b128, ?_⟩
        refine ⟨rfl, ?_⟩
        refine ⟨b128, ?_⟩
        refine ⟨rfl, rfl, ?_⟩
        obtain ⟨t188, ht188, h⟩ := of_bind h
        refine ⟨t188, ⟨halterref02_Class.fun_ ht188, trivial⟩, ?_⟩
        refine ⟨trivial, ?_⟩
        refine ⟨fun b189 => ?_, fun b189 => ?_⟩
        · rw [if_neg (beq_f b189)] at h
          refine ⟨b189, ?_⟩
          obtain ⟨t191, ht191, h⟩ := of_bind h
          refine ⟨t191, ⟨halterref02_Class.fun_ ht191, trivial⟩, ?_⟩
          refine ⟨b189, ?_⟩
          refine ⟨trivial, ?_⟩
          refine ⟨b189, ?_⟩
          refine ⟨fun b192 => ?_, fun b192 => ?_⟩
          · rw [if_pos (beq_t b192)] at h
            obtain ⟨t193, ht193, h⟩ := of_bind h
            refine ⟨t193, ⟨halterref02_signed.fun_ ht193, trivial⟩, ?_⟩
            refine ⟨trivial, ?_⟩
            obtain rfl := Option.some.inj h
            exact ⟨trivial, trivial, rfl, rfl⟩
          · rw [if_neg (beq_f b192)] at h
            obtain ⟨t194, ht194, h⟩ := of_bind h
            refine ⟨t194, ⟨halterref02_Class.fun_ ht194, trivial⟩, ?_⟩
            refine ⟨trivial, ?_⟩
            refine ⟨fun b195 => ?_, fun b195 => ?_⟩
            · rw [if_neg (beq_f b195)] at h
              refine ⟨b195, ?_⟩
              obtain ⟨t197, ht197, h⟩ := of_bind h
              refine ⟨t197, ⟨halterref02_Class.fun_ ht197, trivial⟩, ?_⟩
              refine ⟨b195, ?_⟩
              refine ⟨trivial, ?_⟩
              refine ⟨b195, ?_⟩
              refine ⟨fun b198 => ?_, fun b198 => ?_⟩
              · rw [if_pos (beq_t b198)] at h
                obtain ⟨t199, ht199, h⟩ := of_bind h
                refine ⟨t199, ⟨halterref02_signed.fun_ ht199, trivial⟩, ?_⟩
                refine ⟨trivial, ?_⟩
                obtain rfl := Option.some.inj h
                exact ⟨trivial, trivial, rfl, rfl⟩
              · rw [if_neg (beq_f b198)] at h
                obtain ⟨t200, ht200, h⟩ := of_bind h
                refine ⟨t200, ⟨halterref02_Open.fun_ ht200, trivial⟩, ?_⟩
                obtain ⟨t201, ht201, h⟩ := of_bind h
                refine ⟨t201, ⟨halterref02_Open.fun_ ht201, trivial⟩, ?_⟩
                refine ⟨trivial, trivial, trivial, ?_⟩
                obtain ⟨t208, ht208, h⟩ := of_bind h
                refine ⟨⟨trivial, trivial⟩, t208, Trip.loop FUEL (halterref02_Div.l9_ok t1 t2 t200 t201 FUEL t200.2.1 t200.2.2.1 t208 ht208), ?_⟩
                refine ⟨trivial, ?_⟩
                obtain ⟨t220, ht220, h⟩ := of_bind h
                refine ⟨⟨trivial, trivial⟩, t220, Trip.loop FUEL (halterref02_Div.l10_ok t1 t2 t200 t201 t208 FUEL t201.2.1 t201.2.2.1 t220 ht220), ?_⟩
                obtain ⟨g226, h⟩ := of_guard h
                obtain ⟨g227, h⟩ := of_guard h
                refine ⟨trivial, trivial, g226, trivial, trivial, g227, ?_⟩
                refine ⟨trivial, trivial, ?_⟩
                obtain ⟨t236, ht236, h⟩ := of_bind h
                refine ⟨⟨trivial, trivial⟩, t236, Trip.loop FUEL (halterref02_Div.l11_ok t1 t2 t200 t201 t208 t220 FUEL (IntKind.wrap .u64 (Int.tdiv t208.1 t220.1)) (Int.tmod t208.1 t220.1) (0 : Int) t236 ht236), ?_⟩
                refine ⟨trivial, trivial, trivial, trivial, trivial, ?_⟩
                obtain ⟨t244, ht244, h⟩ := of_bind h
                refine ⟨t244, ⟨halterref02_Round.fun_ ht244, trivial⟩, ?_⟩
                refine ⟨trivial, ?_⟩
                obtain rfl := Option.some.inj h
                exact ⟨trivial, ⟨trivial, trivial⟩, rfl, rfl⟩
            · rw [if_pos (beq_t b195)] at h
              refine ⟨b195, ?_⟩
              refine ⟨b195, ?_⟩
              refine ⟨b195, ?_⟩
              refine ⟨rfl, ?_⟩
              obtain ⟨t196, ht196, h⟩ := of_bind h
              refine ⟨t196, ⟨halterref02_signed.fun_ ht196, trivial⟩, ?_⟩
              refine ⟨trivial, ?_⟩
              obtain rfl := Option.some.inj h
              exact ⟨trivial, trivial, rfl, rfl⟩
        · rw [if_pos (beq_t b189)] at h
          refine ⟨b189, ?_⟩
          refine ⟨b189, ?_⟩
          refine ⟨b189, ?_⟩
          refine ⟨rfl, ?_⟩
          obtain ⟨t190, ht190, h⟩ := of_bind h
          refine ⟨t190, ⟨halterref02_signed.fun_ ht190, trivial⟩, ?_⟩
          refine ⟨trivial, ?_⟩
          obtain rfl := Option.some.inj h
          exact ⟨trivial, trivial, rfl, rfl⟩
  · rw [if_pos b4] at h
    refine ⟨b4, ?_⟩
    refine ⟨b4, ?_⟩
    refine ⟨b4, ?_⟩
    refine ⟨b4, ?_⟩
    refine ⟨b4, ?_⟩
    refine ⟨rfl, rfl, rfl, rfl, rfl, rfl, rfl, trivial, trivial, ?_⟩
    obtain rfl := Option.some.inj h
    exact ⟨trivial, trivial, rfl, rfl⟩
/-! halter/halterref02.Sqrt -/
def halterref02_Sqrt.c0 (x34 : Int) (x32 : Int) (x33 : Int) : Bool := (decide ((IntKind.wrap .u64 ((IntKind.wrap .u64 ((4 : Int) * x34)) + (Int.tmod (IntKind.wrap .u64 (Int.tdiv x32 (4503599627370496 : Int))) (4 : Int)))) ≥ (IntKind.wrap .u64 ((IntKind.wrap .u64 ((2 : Int) * (IntKind.wrap .u64 ((2 : Int) * x33)))) + (1 : Int)))))
def halterref02_Sqrt.c1 (x34 : Int) (x33 : Int) : Bool := (decide ((IntKind.wrap .u64 ((IntKind.wrap .u64 ((4 : Int) * x34)) + (0 : Int))) ≥ (IntKind.wrap .u64 ((IntKind.wrap .u64 ((2 : Int) * (IntKind.wrap .u64 ((2 : Int) * x33)))) + (1 : Int)))))
def halterref02_Sqrt.l0 (t9 : Bool × Int × Int × Bool) : Nat → Int → Int → Option (Int × Int)
  | 0, _, _ => none
  | n + 1, x12, x13 =>
    if x12 < (4503599627370496 : Int) then
      halterref02_Sqrt.l0 t9 n (IntKind.wrap .u64 ((2 : Int) * x12)) (IntKind.wrap .i64 (x13 - (1 : Int)))
    else
      if ¬ (Int.tmod x13 (2 : Int)) = (0 : Int) then
        halterref02_Sqrt.l0 t9 n (IntKind.wrap .u64 ((2 : Int) * x12)) (IntKind.wrap .i64 (x13 - (1 : Int)))
      else
        some (x12, x13)
def halterref02_Sqrt.l0_S (t9 : Bool × Int × Int × Bool) (x12 : Int) (x13 : Int) : St := ⟨[.any, .any, .any, .v (.one (.ptr 0 ⟨0, 0, 0, 0⟩)), .any, .any, .any, .any, .any, .any, .any, .any, .any, .any, .any, .any, .any, .any, .any, .any, .any, .any, .any, .any, .any, .any, .any, .any, .any, .any, .any, .any, .any, .any, .any, .any, .any, .any, .any, .any, .any, .any, .any, .any, .any, .any, .any, .any, .any, .any, .any, .any, .any, .any, .any, .any, .any, .any, .any, .any, .any, .any, .any, .any, .any, .any, .any, .any, .any, .any, .any, .any, .any, .any, .any, .any, .any, .any, .any, .any, .any, .any, .any, .any], [.ex false [.c (.sc (.bool t9.1)), .c (.sc (.int .u64 x12)), .c (.sc (.int .i64 x13)), .c (.sc (.bool t9.2.2.2))] 93], 0⟩
def halterref02_Sqrt.l0_Q (t9 : Bool × Int × Int × Bool) (t : Int × Int) : Exit → St → Prop := fun e s => e = (.exit 0) ∧ s = ⟨[.any, .any, .any, .v (.one (.ptr 0 ⟨0, 0, 0, 0⟩)), .any, .any, .any, .any, .any, .any, .any, .any, .any, .any, .any, .any, .any, .any, .any, .any, .any, .any, .any, .any, .any, .any, .any, .any, .any, .any, .any, .any, .any, .any, .any, .any, .any, .any, .any, .any, .any, .any, .any, .any, .any, .any, .any, .any, .any, .any, .any, .any, .any, .any, .any, .any, .any, .any, .any, .any, .any, .any, .any, .any, .any, .any, .any, .any, .any, .any, .any, .any, .any, .any, .any, .any, .any, .any, .any, .any, .any, .any, .any, .any], [.ex false [.c (.sc (.bool t9.1)), .c (.sc (.int .u64 t.1)), .c (.sc (.int .i64 t.2)), .c (.sc (.bool t9.2.2.2))] 93], 0⟩
theorem halterref02_Sqrt.l0_ok (t9 : Bool × Int × Int × Bool) : ∀ (n : Nat) (x12 : Int) (x13 : Int) (r : Int × Int), halterref02_Sqrt.l0 t9 n x12 x13 = some r → TripN cfg (cpath (Tryd.f40.body.getD .skip) [1, 1, 1, 1, 1, 0, 0, 0]) n (halterref02_Sqrt.l0_S t9 x12 x13) (halterref02_Sqrt.l0_Q t9 r) := by
  intro n
  induction n with
  | zero => intro x12 x13 r h; cases h
  | succ n ih =>
    intro x12 x13 r h
    rw [halterref02_Sqrt.l0] at h
    refine TripN.of_run cfg_ok (k := (.br (oT 5 (aE 3 (.adj [.keep [3], .drop 1] .nil))) (oF 4 (.br (aE 3 (.adj [.keep [3], .drop 1] .nil)) (.adj [.keep [3], .drop 1] .nil))))) (to_goal (q := (True) ∧ (True) ∧ (((decide (x12 < (4503599627370496 : Int))) = false → ((decide (x12 < (4503599627370496 : Int))) = false ∧ (True) ∧ ((decide (x12 < (4503599627370496 : Int))) = false ∧ ((2 : Int) ≠ 0) ∧ ((decide (x12 < (4503599627370496 : Int))) = false ∧ (True) ∧ ((decide (x12 < (4503599627370496 : Int))) = false ∧ ((((Int.tmod x13 (2 : Int)) != (0 : Int)) = true → (True ∧ (True ∧ (True ∧ (True) ∧ (True) ∧ (True) ∧ (True) ∧ (True) ∧ (True) ∧ (((True) ∧ (True) ∧ True) ∧ TripN cfg (cpath (Tryd.f40.body.getD .skip) [1, 1, 1, 1, 1, 0, 0, 0]) n (halterref02_Sqrt.l0_S t9 (IntKind.wrap .u64 ((2 : Int) * x12)) (IntKind.wrap .i64 (x13 - (1 : Int)))) (halterref02_Sqrt.l0_Q t9 r)))))) ∧ (((Int.tmod x13 (2 : Int)) != (0 : Int)) = false → (((True) ∧ (True) ∧ True) ∧ halterref02_Sqrt.l0_Q t9 r (.exit 0) ⟨[.any, .any, .any, .v (.one (.ptr 0 ⟨0, 0, 0, 0⟩)), .any, .any, .any, .any, .any, .any, .any, .any, .any, .any, .any, .any, .any, .any, .any, .any, .any, .any, .any, .any, .any, .any, .any, .any, .any, .any, .any, .any, .any, .any, .any, .any, .any, .any, .any, .any, .any, .any, .any, .any, .any, .any, .any, .any, .any, .any, .any, .any, .any, .any, .any, .any, .any, .any, .any, .any, .any, .any, .any, .any, .any, .any, .any, .any, .any, .any, .any, .any, .any, .any, .any, .any, .any, .any, .any, .any, .any, .any, .any, .any], [.ex false [.c (.sc (.bool t9.1)), .c (.sc (.int .u64 x12)), .c (.sc (.int .i64 x13)), .c (.sc (.bool (z3 t9)))] 93], 0⟩)))))))) ∧ ((decide (x12 < (4503599627370496 : Int))) = true → ((decide (x12 < (4503599627370496 : Int))) = true ∧ ((decide (x12 < (4503599627370496 : Int))) = true ∧ ((decide (x12 < (4503599627370496 : Int))) = true ∧ ((decide (x12 < (4503599627370496 : Int))) = true ∧ (true = true ∧ (True ∧ (True ∧ (True ∧ (True) ∧ (True) ∧ (True) ∧ (True) ∧ (True) ∧ (True) ∧ (((True) ∧ (True) ∧ True) ∧ TripN cfg (cpath (Tryd.f40.body.getD .skip) [1, 1, 1, 1, 1, 0, 0, 0]) n (halterref02_Sqrt.l0_S t9 (IntKind.wrap .u64 ((2 : Int) * x12)) (IntKind.wrap .i64 (x13 - (1 : Int)))) (halterref02_Sqrt.l0_Q t9 r))))))))))))) (by kernel_rfl) ?_)
    refine ⟨trivial, trivial, ?_⟩
    refine ⟨fun b19 => ?_, fun b19 => ?_⟩
    · rw [if_neg (of_decide_eq_false b19)] at h
      refine ⟨b19, ?_⟩
      refine ⟨trivial, ?_⟩
      refine ⟨b19, ?_⟩
      refine ⟨(by decide), ?_⟩
      refine ⟨b19, ?_⟩
      refine ⟨trivial, ?_⟩
      refine ⟨b19, ?_⟩
      refine ⟨fun b20 => ?_, fun b20 => ?_⟩
      · rw [if_pos (bne_t b20)] at h
        refine ⟨trivial, trivial, trivial, trivial, trivial, trivial, trivial, trivial, trivial, ?_⟩
        exact ⟨⟨trivial, trivial, trivial⟩, ih (IntKind.wrap .u64 ((2 : Int) * x12)) (IntKind.wrap .i64 (x13 - (1 : Int))) r h⟩
      · rw [if_neg (not_not_intro (bne_f b20))] at h
        obtain rfl := Option.some.inj h
        exact ⟨⟨trivial, trivial, trivial⟩, rfl, rfl⟩
    · rw [if_pos (of_decide_eq_true b19)] at h
      refine ⟨b19, ?_⟩
      refine ⟨b19, ?_⟩
      refine ⟨b19, ?_⟩
      refine ⟨b19, ?_⟩
      refine ⟨rfl, trivial, trivial, trivial, trivial, trivial, trivial, trivial, trivial, trivial, ?_⟩
      exact ⟨⟨trivial, trivial, trivial⟩, ih (IntKind.wrap .u64 ((2 : Int) * x12)) (IntKind.wrap .i64 (x13 - (1 : Int))) r h⟩
def halterref02_Sqrt.l1 (t9 : Bool × Int × Int × Bool) (t18 : Int × Int) : Nat → Int → Int → Int → Int → Option (Int × Int × Int)
  | 0, _, _, _, _ => none
  | n + 1, x32, x33, x34, x35 =>
    if x35 < (57 : Int) then
      if x35 < (27 : Int) then
        if (IntKind.wrap .u64 ((IntKind.wrap .u64 ((4 : Int) * x34)) + (Int.tmod (IntKind.wrap .u64 (Int.tdiv x32 (4503599627370496 : Int))) (4 : Int)))) ≥ (IntKind.wrap .u64 ((IntKind.wrap .u64 ((2 : Int) * (IntKind.wrap .u64 ((2 : Int) * x33)))) + (1 : Int))) then
          halterref02_Sqrt.l1 t9 t18 n (IntKind.wrap .u64 ((4 : Int) * (Int.tmod x32 (4503599627370496 : Int)))) (IntKind.wrap .u64 ((IntKind.wrap .u64 ((2 : Int) * x33)) + (1 : Int))) (IntKind.wrap .u64 ((IntKind.wrap .u64 ((IntKind.wrap .u64 ((IntKind.wrap .u64 ((4 : Int) * x34)) + (Int.tmod (IntKind.wrap .u64 (Int.tdiv x32 (4503599627370496 : Int))) (4 : Int)))) - (IntKind.wrap .u64 ((2 : Int) * (IntKind.wrap .u64 ((2 : Int) * x33)))))) - (1 : Int))) (IntKind.wrap .i64 (x35 + (1 : Int)))
        else
          halterref02_Sqrt.l1 t9 t18 n (IntKind.wrap .u64 ((4 : Int) * (Int.tmod x32 (4503599627370496 : Int)))) (IntKind.wrap .u64 ((2 : Int) * x33)) (IntKind.wrap .u64 ((IntKind.wrap .u64 ((4 : Int) * x34)) + (Int.tmod (IntKind.wrap .u64 (Int.tdiv x32 (4503599627370496 : Int))) (4 : Int)))) (IntKind.wrap .i64 (x35 + (1 : Int)))
      else
        if (IntKind.wrap .u64 ((IntKind.wrap .u64 ((4 : Int) * x34)) + (0 : Int))) ≥ (IntKind.wrap .u64 ((IntKind.wrap .u64 ((2 : Int) * (IntKind.wrap .u64 ((2 : Int) * x33)))) + (1 : Int))) then
          halterref02_Sqrt.l1 t9 t18 n x32 (IntKind.wrap .u64 ((IntKind.wrap .u64 ((2 : Int) * x33)) + (1 : Int))) (IntKind.wrap .u64 ((IntKind.wrap .u64 ((IntKind.wrap .u64 ((IntKind.wrap .u64 ((4 : Int) * x34)) + (0 : Int))) - (IntKind.wrap .u64 ((2 : Int) * (IntKind.wrap .u64 ((2 : Int) * x33)))))) - (1 : Int))) (IntKind.wrap .i64 (x35 + (1 : Int)))
        else
          halterref02_Sqrt.l1 t9 t18 n x32 (IntKind.wrap .u64 ((2 : Int) * x33)) (IntKind.wrap .u64 ((IntKind.wrap .u64 ((4 : Int) * x34)) + (0 : Int))) (IntKind.wrap .i64 (x35 + (1 : Int)))
    else
      some (x32, x33, x34)
def halterref02_Sqrt.l1_S (t9 : Bool × Int × Int × Bool) (t18 : Int × Int) (x32 : Int) (x33 : Int) (x34 : Int) (x35 : Int) : St := ⟨[.any, .any, .any, .v (.one (.ptr 0 ⟨0, 0, 0, 0⟩)), .v (.one (.sc (.int .u64 x33))), .v (.one (.sc (.int .u64 x34))), .v (.one (.sc (.int .i64 x35))), .any, .any, .any, .any, .any, .any, .any, .any, .any, .any, .any, .any, .any, .any, .any, .any, .any, .any, .any, .any, .any, .any, .any, .any, .any, .any, .any, .any, .any, .any, .any, .any, .any, .any, .any, .any, .any, .any, .any, .any, .any, .any, .any, .any, .any, .any, .any, .any, .any, .any, .any, .any, .any, .any, .any, .any, .any, .any, .any, .any, .any, .any, .any, .any, .any, .any, .any, .any, .any, .any, .any, .any, .any, .any, .any, .any, .any], [.ex false [.c (.sc (.bool t9.1)), .c (.sc (.int .u64 x32)), .c (.sc (.int .i64 t18.2)), .c (.sc (.bool t9.2.2.2))] 93], 0⟩
def halterref02_Sqrt.l1_Q (t9 : Bool × Int × Int × Bool) (t18 : Int × Int) (t : Int × Int × Int) : Exit → St → Prop := fun e s => e = (.exit 2) ∧ s = ⟨[.any, .any, .any, .v (.one (.ptr 0 ⟨0, 0, 0, 0⟩)), .v (.one (.sc (.int .u64 t.2.1))), .v (.one (.sc (.int .u64 t.2.2))), .any, .any, .any, .any, .any, .any, .any, .any, .any, .any, .any, .any, .any, .any, .any, .any, .any, .any, .any, .any, .any, .any, .any, .any, .any, .any, .any, .any, .any, .any, .any, .any, .any, .any, .any, .any, .any, .any, .any, .any, .any, .any, .any, .any, .any, .any, .any, .any, .any, .any, .any, .any, .any, .any, .any, .any, .any, .any, .any, .any, .any, .any, .any, .any, .any, .any, .any, .any, .any, .any, .any, .any, .any, .any, .any, .any, .any, .any], [.ex false [.c (.sc (.bool t9.1)), .c (.sc (.int .u64 t.1)), .c (.sc (.int .i64 t18.2)), .c (.sc (.bool t9.2.2.2))] 93], 0⟩
theorem halterref02_Sqrt.l1_ok (t9 : Bool × Int × Int × Bool) (t18 : Int × Int) : ∀ (n : Nat) (x32 : Int) (x33 : Int) (x34 : Int) (x35 : Int) (r : Int × Int × Int), halterref02_Sqrt.l1 t9 t18 n x32 x33 x34 x35 = some r → TripN cfg (cpath (Tryd.f40.body.getD .skip) [1, 1, 1, 1, 1, 1, 1, 0, 1, 0, 0]) n (halterref02_Sqrt.l1_S t9 t18 x32 x33 x34 x35) (halterref02_Sqrt.l1_Q t9 t18 r) := by
  intro n
  induction n with
  | zero => intro x32 x33 x34 x35 r h; cases h
  | succ n ih =>
    intro x32 x33 x34 x35 r h
    rw [halterref02_Sqrt.l1] at h
    refine TripN.of_run cfg_ok (k := (.br (.br (.br (aE 3 (.adj [.keep [3, 4, 5, 6], .drop 1] .nil)) (aE 2 (.adj [.keep [3, 4, 5, 6], .drop 1] .nil))) (.br (aE 3 (.adj [.keep [3, 4, 5, 6], .drop 1] .nil)) (aE 2 (.adj [.keep [3, 4, 5, 6], .drop 1] .nil)))) (.adj [.keep [3, 4, 5], .drop 1] .nil))) (to_goal (q := (True) ∧ (((decide (x35 < (57 : Int))) = true → (True) ∧ (((decide (x35 < (27 : Int))) = true → (True) ∧ ((4503599627370496 : Int) ≠ 0) ∧ ((4 : Int) ≠ 0) ∧ (True) ∧ ((4503599627370496 : Int) ≠ 0) ∧ (True) ∧ (True) ∧ (True) ∧ (True) ∧ (True) ∧ (True) ∧ (True) ∧ (True) ∧ (((halterref02_Sqrt.c0 x34 x32 x33) = true → (True ∧ (True) ∧ (True) ∧ (True) ∧ (True ∧ (True) ∧ (True ∧ (True) ∧ (((True) ∧ (True) ∧ True) ∧ TripN cfg (cpath (Tryd.f40.body.getD .skip) [1, 1, 1, 1, 1, 1, 1, 0, 1, 0, 0]) n (halterref02_Sqrt.l1_S t9 t18 (IntKind.wrap .u64 ((4 : Int) * (Int.tmod x32 (4503599627370496 : Int)))) (IntKind.wrap .u64 ((IntKind.wrap .u64 ((2 : Int) * x33)) + (1 : Int))) (IntKind.wrap .u64 ((IntKind.wrap .u64 ((IntKind.wrap .u64 ((IntKind.wrap .u64 ((4 : Int) * x34)) + (Int.tmod (IntKind.wrap .u64 (Int.tdiv x32 (4503599627370496 : Int))) (4 : Int)))) - (IntKind.wrap .u64 ((2 : Int) * (IntKind.wrap .u64 ((2 : Int) * x33)))))) - (1 : Int))) (IntKind.wrap .i64 (x35 + (1 : Int)))) (halterref02_Sqrt.l1_Q t9 t18 r)))))) ∧ ((halterref02_Sqrt.c0 x34 x32 x33) = false → (True ∧ (True ∧ (True) ∧ (((True) ∧ (True) ∧ True) ∧ TripN cfg (cpath (Tryd.f40.body.getD .skip) [1, 1, 1, 1, 1, 1, 1, 0, 1, 0, 0]) n (halterref02_Sqrt.l1_S t9 t18 (IntKind.wrap .u64 ((4 : Int) * (Int.tmod x32 (4503599627370496 : Int)))) (IntKind.wrap .u64 ((2 : Int) * x33)) (IntKind.wrap .u64 ((IntKind.wrap .u64 ((4 : Int) * x34)) + (Int.tmod (IntKind.wrap .u64 (Int.tdiv x32 (4503599627370496 : Int))) (4 : Int)))) (IntKind.wrap .i64 (x35 + (1 : Int)))) (halterref02_Sqrt.l1_Q t9 t18 r))))))) ∧ ((decide (x35 < (27 : Int))) = false → (True) ∧ (True) ∧ (True) ∧ (True) ∧ (True) ∧ (True) ∧ (((halterref02_Sqrt.c1 x34 x33) = true → (True ∧ (True) ∧ (True) ∧ (True) ∧ (True ∧ (True) ∧ (True ∧ (True) ∧ (((True) ∧ (True) ∧ True) ∧ TripN cfg (cpath (Tryd.f40.body.getD .skip) [1, 1, 1, 1, 1, 1, 1, 0, 1, 0, 0]) n (halterref02_Sqrt.l1_S t9 t18 x32 (IntKind.wrap .u64 ((IntKind.wrap .u64 ((2 : Int) * x33)) + (1 : Int))) (IntKind.wrap .u64 ((IntKind.wrap .u64 ((IntKind.wrap .u64 ((IntKind.wrap .u64 ((4 : Int) * x34)) + (0 : Int))) - (IntKind.wrap .u64 ((2 : Int) * (IntKind.wrap .u64 ((2 : Int) * x33)))))) - (1 : Int))) (IntKind.wrap .i64 (x35 + (1 : Int)))) (halterref02_Sqrt.l1_Q t9 t18 r)))))) ∧ ((halterref02_Sqrt.c1 x34 x33) = false → (True ∧ (True ∧ (True) ∧ (((True) ∧ (True) ∧ True) ∧ TripN cfg (cpath (Tryd.f40.body.getD .skip) [1, 1, 1, 1, 1, 1, 1, 0, 1, 0, 0]) n (halterref02_Sqrt.l1_S t9 t18 x32 (IntKind.wrap .u64 ((2 : Int) * x33)) (IntKind.wrap .u64 ((IntKind.wrap .u64 ((4 : Int) * x34)) + (0 : Int))) (IntKind.wrap .i64 (x35 + (1 : Int)))) (halterref02_Sqrt.l1_Q t9 t18 r))))))))) ∧ ((decide (x35 < (57 : Int))) = false → (((True) ∧ (True) ∧ True) ∧ halterref02_Sqrt.l1_Q t9 t18 r (.exit 2) ⟨[.any, .any, .any, .v (.one (.ptr 0 ⟨0, 0, 0, 0⟩)), .v (.one (.sc (.int .u64 x33))), .v (.one (.sc (.int .u64 x34))), .any, .any, .any, .any, .any, .any, .any, .any, .any, .any, .any, .any, .any, .any, .any, .any, .any, .any, .any, .any, .any, .any, .any, .any, .any, .any, .any, .any, .any, .any, .any, .any, .any, .any, .any, .any, .any, .any, .any, .any, .any, .any, .any, .any, .any, .any, .any, .any, .any, .any, .any, .any, .any, .any, .any, .any, .any, .any, .any, .any, .any, .any, .any, .any, .any, .any, .any, .any, .any, .any, .any, .any, .any, .any, .any, .any, .any, .any], [.ex false [.c (.sc (.bool t9.1)), .c (.sc (.int .u64 x32)), .c (.sc (.int .i64 t18.2)), .c (.sc (.bool (z3 t9)))] 93], 0⟩)))) (by kernel_rfl) ?_)
    refine ⟨trivial, ?_⟩
    refine ⟨fun b44 => ?_, fun b44 => ?_⟩
    · rw [if_pos (of_decide_eq_true b44)] at h
      refine ⟨trivial, ?_⟩
      refine ⟨fun b45 => ?_, fun b45 => ?_⟩
      · rw [if_pos (of_decide_eq_true b45)] at h
        refine ⟨trivial, ?_⟩
        refine ⟨(by decide), ?_⟩
        refine ⟨(by decide), ?_⟩
        refine ⟨trivial, ?_⟩
        refine ⟨(by decide), ?_⟩
        refine ⟨trivial, trivial, trivial, trivial, trivial, trivial, trivial, trivial, ?_⟩
        refine ⟨fun b46 => ?_, fun b46 => ?_⟩
        · rw [if_pos (of_decide_eq_true b46)] at h
          refine ⟨trivial, trivial, trivial, trivial, trivial, trivial, trivial, trivial, ?_⟩
          exact ⟨⟨trivial, trivial, trivial⟩, ih (IntKind.wrap .u64 ((4 : Int) * (Int.tmod x32 (4503599627370496 : Int)))) (IntKind.wrap .u64 ((IntKind.wrap .u64 ((2 : Int) * x33)) + (1 : Int))) (IntKind.wrap .u64 ((IntKind.wrap .u64 ((IntKind.wrap .u64 ((IntKind.wrap .u64 ((4 : Int) * x34)) + (Int.tmod (IntKind.wrap .u64 (Int.tdiv x32 (4503599627370496 : Int))) (4 : Int)))) - (IntKind.wrap .u64 ((2 : Int) * (IntKind.wrap .u64 ((2 : Int) * x33)))))) - (1 : Int))) (IntKind.wrap .i64 (x35 + (1 : Int))) r h⟩
        · rw [if_neg (of_decide_eq_false b46)] at h
          refine ⟨trivial, trivial, trivial, ?_⟩
          exact ⟨⟨trivial, trivial, trivial⟩, ih (IntKind.wrap .u64 ((4 : Int) * (Int.tmod x32 (4503599627370496 : Int)))) (IntKind.wrap .u64 ((2 : Int) * x33)) (IntKind.wrap .u64 ((IntKind.wrap .u64 ((4 : Int) * x34)) + (Int.tmod (IntKind.wrap .u64 (Int.tdiv x32 (4503599627370496 : Int))) (4 : Int)))) (IntKind.wrap .i64 (x35 + (1 : Int))) r h⟩
      · rw [if_neg (of_decide_eq_false b45)] at h
        refine ⟨trivial, trivial, trivial, trivial, trivial, trivial, ?_⟩
        refine ⟨fun b47 => ?_, fun b47 => ?_⟩
        · rw [if_pos (of_decide_eq_true b47)] at h
          refine ⟨trivial, trivial, trivial, trivial, trivial, trivial, trivial, trivial, ?_⟩
          exact ⟨⟨trivial, trivial, trivial⟩, ih x32 (IntKind.wrap .u64 ((IntKind.wrap .u64 ((2 : Int) * x33)) + (1 : Int))) (IntKind.wrap .u64 ((IntKind.wrap .u64 ((IntKind.wrap .u64 ((IntKind.wrap .u64 ((4 : Int) * x34)) + (0 : Int))) - (IntKind.wrap .u64 ((2 : Int) * (IntKind.wrap .u64 ((2 : Int) * x33)))))) - (1 : Int))) (IntKind.wrap .i64 (x35 + (1 : Int))) r h⟩
        · rw [if_neg (of_decide_eq_false b47)] at h
          refine ⟨trivial, trivial, trivial, ?_⟩
          exact ⟨⟨trivial, trivial, trivial⟩, ih x32 (IntKind.wrap .u64 ((2 : Int) * x33)) (IntKind.wrap .u64 ((IntKind.wrap .u64 ((4 : Int) * x34)) + (0 : Int))) (IntKind.wrap .i64 (x35 + (1 : Int))) r h⟩
    · rw [if_neg (of_decide_eq_false b44)] at h
      obtain rfl := Option.some.inj h
      exact ⟨⟨trivial, trivial, trivial⟩, rfl, rfl⟩
def halterref02_Sqrt.f (a0 : Int) : Option Int :=
  (halterref02_Class.f a0).bind fun t1 =>
  if t1 = (0 : Int) then
    some a0
  else
    (halterref02_Class.f a0).bind fun t3 =>
    if t3 = (4 : Int) then
      some (9221120237041090560 : Int)
    else
      (halterref02_Neg.f a0).bind fun t5 =>
      if t5 = true then
        some (9221120237041090560 : Int)
      else
        (halterref02_Class.f a0).bind fun t7 =>
        if t7 = (3 : Int) then
          some a0
        else
          (halterref02_Open.f a0).bind fun t9 =>
          (halterref02_Sqrt.l0 t9 FUEL t9.2.1 t9.2.2.1).bind fun t18 =>
          (halterref02_Sqrt.l1 t9 t18 FUEL t18.1 (0 : Int) (0 : Int) (0 : Int)).bind fun t43 =>
          (halterref02_Round.f false t43.2.1 (IntKind.wrap .i64 ((IntKind.wrap .i64 (Int.tdiv t18.2 (2 : Int))) - (30 : Int))) (decide (t43.2.2 > (0 : Int)))).bind fun t54 =>
          some t54
def halterref02_Sqrt.R (r : Int) : Tm := .v (.one (.sc (.int .u64 r)))
theorem halterref02_Sqrt.fun_ {a0 : Int} {r : Int} (h : halterref02_Sqrt.f a0 = some r) : Fun cfg 40 [.one (.sc (.int .u64 a0))] [] (halterref02_Sqrt.R r) [] := by
  unfold halterref02_Sqrt.f at h
  refine fun_of_run cfg_ok (f := 40) (fn := Tryd.f40) Tryd.func40 rfl (by kernel_rfl) (rs := [.tmp 2]) rfl (nt := 84) rfl (l := fin) (k := (.call true [] (Int) halterref02_Class.R (fun t1 => (.br (aE 3 .nil) (.call true [] (Int) halterref02_Class.R (fun t3 => (.br (oT 3 (aE 3 .nil)) (.one false (.call true [] (Bool) halterref02_Neg.R (fun t5 => (.one false (.br (aE 3 .nil) (.call true [] (Int) halterref02_Class.R (fun t7 => (.br (aE 3 .nil) (.call true [] (Bool × Int × Int × Bool) halterref02_Open.R (fun t9 => (.adj [] (.adj [.keep [3]] (.sub (Int × Int) (fun _ => (.exit 0)) (fun t18 => ⟨[.any, .any, .any, .v (.one (.ptr 0 ⟨0, 0, 0, 0⟩)), .any, .any, .any, .any, .any, .any, .any, .any, .any, .any, .any, .any, .any, .any, .any, .any, .any, .any, .any, .any, .any, .any, .any, .any, .any, .any, .any, .any, .any, .any, .any, .any, .any, .any, .any, .any, .any, .any, .any, .any, .any, .any, .any, .any, .any, .any, .any, .any, .any, .any, .any, .any, .any, .any, .any, .any, .any, .any, .any, .any, .any, .any, .any, .any, .any, .any, .any, .any, .any, .any, .any, .any, .any, .any, .any, .any, .any, .any, .any, .any], [.ex false [.c (.sc (.bool t9.1)), .c (.sc (.int .u64 t18.1)), .c (.sc (.int .i64 t18.2)), .c (.sc (.bool (z3 t9)))] 93], 0⟩) (fun t18 => (aE 3 (.adj [.keep [3, 4, 5, 6]] (.sub (Int × Int × Int) (fun _ => (.exit 2)) (fun t43 => ⟨[.any, .any, .any, .v (.one (.ptr 0 ⟨0, 0, 0, 0⟩)), .v (.one (.sc (.int .u64 t43.2.1))), .v (.one (.sc (.int .u64 (z2 t43)))), .any, .any, .any, .any, .any, .any, .any, .any, .any, .any, .any, .any, .any, .any, .any, .any, .any, .any, .any, .any, .any, .any, .any, .any, .any, .any, .any, .any, .any, .any, .any, .any, .any, .any, .any, .any, .any, .any, .any, .any, .any, .any, .any, .any, .any, .any, .any, .any, .any, .any, .any, .any, .any, .any, .any, .any, .any, .any, .any, .any, .any, .any, .any, .any, .any, .any, .any, .any, .any, .any, .any, .any, .any, .any, .any, .any, .any, .any], [.ex false [.c (.sc (.bool t9.1)), .c (.sc (.int .u64 t43.1)), .c (.sc (.int .i64 t18.2)), .c (.sc (.bool (z3 t9)))] 93], 0⟩) (fun t43 => (.call true [] (Int) halterref02_Round.R (fun t54 => (.adj [] (.adj [.drop 0] .nil))))))))))))))))))))))))))))) (to_goal (q := (∃ t1 : Int, (Fun cfg 36 [.one (.sc (.int .u64 a0))] [] (halterref02_Class.R t1) [] ∧ True) ∧ (True) ∧ (((t1 == (0 : Int)) = true → (True ∧ (True ∧ ((True) ∧ (True) ∧ (.v (.one (.sc (.int .u64 a0))) : Tm) = halterref02_Sqrt.R r ∧ ([] : List Box) = [])))) ∧ ((t1 == (0 : Int)) = false → (∃ t3 : Int, (Fun cfg 36 [.one (.sc (.int .u64 a0))] [] (halterref02_Class.R t3) [] ∧ True) ∧ (True) ∧ (((t3 == (4 : Int)) = false → ((t3 == (4 : Int)) = false ∧ (∃ t5 : Bool, (Fun cfg 60 [.one (.sc (.int .u64 a0))] [] (halterref02_Neg.R t5) [] ∧ True) ∧ ((t3 == (4 : Int)) = false ∧ ((t5 = true → (True ∧ (True ∧ ((True) ∧ (True) ∧ (.v (.one (.sc (.int .u64 (9221120237041090560 : Int)))) : Tm) = halterref02_Sqrt.R r ∧ ([] : List Box) = [])))) ∧ (t5 = false → (∃ t7 : Int, (Fun cfg 36 [.one (.sc (.int .u64 a0))] [] (halterref02_Class.R t7) [] ∧ True) ∧ (True) ∧ (((t7 == (3 : Int)) = true → (True ∧ (True ∧ ((True) ∧ (True) ∧ (.v (.one (.sc (.int .u64 a0))) : Tm) = halterref02_Sqrt.R r ∧ ([] : List Box) = [])))) ∧ ((t7 == (3 : Int)) = false → (∃ t9 : Bool × Int × Int × Bool, (Fun cfg 61 [.one (.sc (.int .u64 a0))] [] (halterref02_Open.R t9) [] ∧ True) ∧ (True) ∧ (True ∧ (((True) ∧ True) ∧ (∃ t18 : Int × Int, Trip cfg (.loop (cpath (Tryd.f40.body.getD .skip) [1, 1, 1, 1, 1, 0, 0, 0])) ⟨[.any, .any, .any, .v (.one (.ptr 0 ⟨0, 0, 0, 0⟩)), .any, .any, .any, .any, .any, .any, .any, .any, .any, .any, .any, .any, .any, .any, .any, .any, .any, .any, .any, .any, .any, .any, .any, .any, .any, .any, .any, .any, .any, .any, .any, .any, .any, .any, .any, .any, .any, .any, .any, .any, .any, .any, .any, .any, .any, .any, .any, .any, .any, .any, .any, .any, .any, .any, .any, .any, .any, .any, .any, .any, .any, .any, .any, .any, .any, .any, .any, .any, .any, .any, .any, .any, .any, .any, .any, .any, .any, .any, .any, .any], [.ex false [.c (.sc (.bool t9.1)), .c (.sc (.int .u64 t9.2.1)), .c (.sc (.int .i64 (p2 t9))), .c (.sc (.bool (z3 t9)))] 93], 0⟩ (fun e s => e = (.exit 0) ∧ s = ⟨[.any, .any, .any, .v (.one (.ptr 0 ⟨0, 0, 0, 0⟩)), .any, .any, .any, .any, .any, .any, .any, .any, .any, .any, .any, .any, .any, .any, .any, .any, .any, .any, .any, .any, .any, .any, .any, .any, .any, .any, .any, .any, .any, .any, .any, .any, .any, .any, .any, .any, .any, .any, .any, .any, .any, .any, .any, .any, .any, .any, .any, .any, .any, .any, .any, .any, .any, .any, .any, .any, .any, .any, .any, .any, .any, .any, .any, .any, .any, .any, .any, .any, .any, .any, .any, .any, .any, .any, .any, .any, .any, .any, .any, .any], [.ex false [.c (.sc (.bool t9.1)), .c (.sc (.int .u64 t18.1)), .c (.sc (.int .i64 t18.2)), .c (.sc (.bool (z3 t9)))] 93], 0⟩) ∧ (True ∧ (True ∧ (True ∧ (((True) ∧ True) ∧ (∃ t43 : Int × Int × Int, Trip cfg (.loop (cpath (Tryd.f40.body.getD .skip) [1, 1, 1, 1, 1, 1, 1, 0, 1, 0, 0])) ⟨[.any, .any, .any, .v (.one (.ptr 0 ⟨0, 0, 0, 0⟩)), .v (.one (.sc (.int .u64 (0 : Int)))), .v (.one (.sc (.int .u64 (0 : Int)))), .v (.one (.sc (.int .i64 (0 : Int)))), .any, .any, .any, .any, .any, .any, .any, .any, .any, .any, .any, .any, .any, .any, .any, .any, .any, .any, .any, .any, .any, .any, .any, .any, .any, .any, .any, .any, .any, .any, .any, .any, .any, .any, .any, .any, .any, .any, .any, .any, .any, .any, .any, .any, .any, .any, .any, .any, .any, .any, .any, .any, .any, .any, .any, .any, .any, .any, .any, .any, .any, .any, .any, .any, .any, .any, .any, .any, .any, .any, .any, .any, .any, .any, .any, .any, .any], [.ex false [.c (.sc (.bool t9.1)), .c (.sc (.int .u64 t18.1)), .c (.sc (.int .i64 t18.2)), .c (.sc (.bool (z3 t9)))] 93], 0⟩ (fun e s => e = (.exit 2) ∧ s = ⟨[.any, .any, .any, .v (.one (.ptr 0 ⟨0, 0, 0, 0⟩)), .v (.one (.sc (.int .u64 t43.2.1))), .v (.one (.sc (.int .u64 (z2 t43)))), .any, .any, .any, .any, .any, .any, .any, .any, .any, .any, .any, .any, .any, .any, .any, .any, .any, .any, .any, .any, .any, .any, .any, .any, .any, .any, .any, .any, .any, .any, .any, .any, .any, .any, .any, .any, .any, .any, .any, .any, .any, .any, .any, .any, .any, .any, .any, .any, .any, .any, .any, .any, .any, .any, .any, .any, .any, .any, .any, .any, .any, .any, .any, .any, .any, .any, .any, .any, .any, .any, .any, .any, .any, .any, .any, .any, .any, .any], [.ex false [.c (.sc (.bool t9.1)), .c (.sc (.int .u64 t43.1)), .c (.sc (.int .i64 t18.2)), .c (.sc (.bool (z3 t9)))] 93], 0⟩) ∧ (True) ∧ ((2 : Int) ≠ 0) ∧ (True) ∧ (True) ∧ (∃ t54 : Int, (Fun cfg 63 [.agg [.c (.sc (.bool false)), .c (.sc (.int .u64 t43.2.1)), .c (.sc (.int .i64 (IntKind.wrap .i64 ((IntKind.wrap .i64 (Int.tdiv t18.2 (2 : Int))) - (30 : Int))))), .c (.sc (.bool (decide ((z2 t43) > (0 : Int)))))]] [] (halterref02_Round.R t54) [] ∧ True) ∧ (True ∧ ((True) ∧ ((True) ∧ True) ∧ (.v (.one (.sc (.int .u64 t54))) : Tm) = halterref02_Sqrt.R r ∧ ([] : List Box) = []))))))))))))))))))))) ∧ ((t3 == (4 : Int)) = true → ((t3 == (4 : Int)) = true ∧ ((t3 == (4 : Int)) = true ∧ (true = true ∧ (True ∧ (True ∧ ((True) ∧ (True) ∧ (.v (.one (.sc (.int .u64 (9221120237041090560 : Int)))) : Tm) = halterref02_Sqrt.R r ∧ ([] : List Box) = []))))))))))))) (by kernel_rfl) ?_)
  obtain ⟨t1, ht1, h⟩ := of_bind h
  refine ⟨t1, ⟨halterref02_Class.fun_ ht1, trivial⟩, ?_⟩
  refine ⟨trivial, ?_⟩
  refine ⟨fun b2 => ?_, fun b2 => ?_⟩
  · rw [if_pos (beq_t b2)] at h
    refine ⟨trivial, trivial, ?_⟩
    obtain rfl := Option.some.inj h
    exact ⟨trivial, trivial, rfl, rfl⟩
  · rw [if_neg (beq_f b2)] at h
    obtain ⟨t3, ht3, h⟩ := of_bind h
    refine ⟨t3, ⟨halterref02_Class.fun_ ht3, trivial⟩, ?_⟩
    refine ⟨trivial, ?_⟩
    refine ⟨fun b4 => ?_, fun b4 => ?_⟩
    · rw [if_neg (beq_f b4)] at h
      refine ⟨b4, ?_⟩
      obtain ⟨t5, ht5, h⟩ := of_bind h
      refine ⟨t5, ⟨halterref02_Neg.fun_ ht5, trivial⟩, ?_⟩
      refine ⟨b4, ?_⟩
      refine ⟨fun b6 => ?_, fun b6 => ?_⟩
      · rw [if_pos b6] at h
        refine ⟨trivial, trivial, ?_⟩
        obtain rfl := Option.some.inj h
        exact ⟨trivial, trivial, rfl, rfl⟩
      · rw [if_neg (ff b6)] at h
        obtain ⟨t7, ht7, h⟩ := of_bind h
        refine ⟨t7, ⟨halterref02_Class.fun_ ht7, trivial⟩, ?_⟩
        refine ⟨trivial, ?_⟩
        refine ⟨fun b8 => ?_, fun b8 => ?_⟩
        · rw [if_pos (beq_t b8)] at h
          refine ⟨trivial, trivial, ?_⟩
          obtain rfl := Option.some.inj h
          exact ⟨trivial, trivial, rfl, rfl⟩
        · rw [if_neg (beq_f b8)] at h
          obtain ⟨t9, ht9, h⟩ := of_bind h
          refine ⟨t9, ⟨halterref02_Open.fun_ ht9, trivial⟩, ?_⟩
          refine ⟨trivial, trivial, ?_⟩
          obtain ⟨t18, ht18, h⟩ := of_bind h
          refine ⟨⟨trivial, trivial⟩, t18, Trip.loop FUEL (halterref02_Sqrt.l0_ok t9 FUEL t9.2.1 t9.2.2.1 t18 ht18), ?_⟩
          refine ⟨trivial, trivial, trivial, ?_⟩
          obtain ⟨t43, ht43, h⟩ := of_bind h
          refine ⟨⟨trivial, trivial⟩, t43, Trip.loop FUEL (halterref02_Sqrt.l1_ok t9 t18 FUEL t18.1 (0 : Int) (0 : Int) (0 : Int) t43 ht43), ?_⟩
          refine ⟨trivial, ?_⟩
          refine ⟨(by decide), ?_⟩
          refine ⟨trivial, trivial, ?_⟩
          obtain ⟨t54, ht54, h⟩ := of_bind h
          refine ⟨t54, ⟨halterref02_Round.fun_ ht54, trivial⟩, ?_⟩
          refine ⟨trivial, ?_⟩
          obtain rfl := Option.some.inj h
          exact ⟨trivial, ⟨trivial, trivial⟩, rfl, rfl⟩
    · rw [if_pos (beq_t b4)] at h
      refine ⟨b4, ?_⟩
      refine ⟨b4, ?_⟩
      refine ⟨rfl, trivial, trivial, ?_⟩
      obtain rfl := Option.some.inj h
      exact ⟨trivial, trivial, rfl, rfl⟩
/-! halter/halterref11.Float -/
def halterref11_Float.f (a0 : Int) (a1 : Int) (a2 : Int) : Option (Int × Int) :=
  if a0 = (33 : Int) then
    (halterref02_Add.f a1 a2).bind fun t2 =>
    some (t2, (0 : Int))
  else
    if a0 = (34 : Int) then
      (halterref02_Class.f a2).bind fun t4 =>
      if t4 = (4 : Int) then
        some ((9221120237041090560 : Int), (0 : Int))
      else
        (halterref02_Minus.f a2).bind fun t6 =>
        (halterref02_Add.f a1 t6).bind fun t7 =>
        some (t7, (0 : Int))
    else
      if a0 = (35 : Int) then
        (halterref02_Mul.f a1 a2).bind fun t9 =>
        some (t9, (0 : Int))
      else
        if a0 = (36 : Int) then
          (halterref02_Div.f a1 a2).bind fun t11 =>
          some (t11, (0 : Int))
        else
          if a0 = (37 : Int) then
            (halterref02_Sqrt.f a2).bind fun t13 =>
            some (t13, (0 : Int))
          else
            some ((0 : Int), (22 : Int))
def halterref11_Float.R (r : Int × Int) : Tm := .tup [.one (.sc (.int .u64 r.1)), .one (.sc (.int .i64 r.2))]
theorem halterref11_Float.fun_ {a0 : Int} {a1 : Int} {a2 : Int} {r : Int × Int} (h : halterref11_Float.f a0 a1 a2 = some r) : Fun cfg 14 [.one (.sc (.int .i64 a0)), .one (.sc (.int .u64 a1)), .one (.sc (.int .u64 a2))] [] (halterref11_Float.R r) [] := by
  unfold halterref11_Float.f at h
  refine fun_of_run cfg_ok (f := 14) (fn := Tryd.f14) Tryd.func14 rfl (by kernel_rfl) (rs := [.tmp 6, .tmp 7]) rfl (nt := 37) rfl (l := fin) (k := (.br (.call true [] (Int) halterref02_Add.R (fun t2 => (aE 2 .nil))) (.br (.call true [] (Int) halterref02_Class.R (fun t4 => (.br (aE 3 .nil) (.call true [] (Int) halterref02_Minus.R (fun t6 => (.call true [] (Int) halterref02_Add.R (fun t7 => (aE 2 .nil)))))))) (.br (.call true [] (Int) halterref02_Mul.R (fun t9 => (aE 2 .nil))) (.br (.call true [] (Int) halterref02_Div.R (fun t11 => (aE 2 .nil))) (.br (.call true [] (Int) halterref02_Sqrt.R (fun t13 => (aE 2 .nil))) (aE 4 .nil))))))) (to_goal (q := (True) ∧ (((a0 == (33 : Int)) = true → (∃ t2 : Int, (Fun cfg 35 [.one (.sc (.int .u64 a1)), .one (.sc (.int .u64 a2))] [] (halterref02_Add.R t2) [] ∧ True) ∧ (True ∧ ((True) ∧ (True) ∧ (.tup [.one (.sc (.int .u64 t2)), .one (.sc (.int .i64 (0 : Int)))] : Tm) = halterref11_Float.R r ∧ ([] : List Box) = [])))) ∧ ((a0 == (33 : Int)) = false → (True) ∧ (((a0 == (34 : Int)) = true → (∃ t4 : Int, (Fun cfg 36 [.one (.sc (.int .u64 a2))] [] (halterref02_Class.R t4) [] ∧ True) ∧ (True) ∧ (((t4 == (4 : Int)) = true → (True ∧ (True ∧ ((True) ∧ (True) ∧ (.tup [.one (.sc (.int .u64 (9221120237041090560 : Int))), .one (.sc (.int .i64 (0 : Int)))] : Tm) = halterref11_Float.R r ∧ ([] : List Box) = [])))) ∧ ((t4 == (4 : Int)) = false → (∃ t6 : Int, (Fun cfg 37 [.one (.sc (.int .u64 a2))] [] (halterref02_Minus.R t6) [] ∧ True) ∧ (∃ t7 : Int, (Fun cfg 35 [.one (.sc (.int .u64 a1)), .one (.sc (.int .u64 t6))] [] (halterref02_Add.R t7) [] ∧ True) ∧ (True ∧ ((True) ∧ (True) ∧ (.tup [.one (.sc (.int .u64 t7)), .one (.sc (.int .i64 (0 : Int)))] : Tm) = halterref11_Float.R r ∧ ([] : List Box) = [])))))))) ∧ ((a0 == (34 : Int)) = false → (True) ∧ (((a0 == (35 : Int)) = true → (∃ t9 : Int, (Fun cfg 38 [.one (.sc (.int .u64 a1)), .one (.sc (.int .u64 a2))] [] (halterref02_Mul.R t9) [] ∧ True) ∧ (True ∧ ((True) ∧ (True) ∧ (.tup [.one (.sc (.int .u64 t9)), .one (.sc (.int .i64 (0 : Int)))] : Tm) = halterref11_Float.R r ∧ ([] : List Box) = [])))) ∧ ((a0 == (35 : Int)) = false → (True) ∧ (((a0 == (36 : Int)) = true → (∃ t11 : Int, (Fun cfg 39 [.one (.sc (.int .u64 a1)), .one (.sc (.int .u64 a2))] [] (halterref02_Div.R t11) [] ∧ True) ∧ (True ∧ ((True) ∧ (True) ∧ (.tup [.one (.sc (.int .u64 t11)), .one (.sc (.int .i64 (0 : Int)))] : Tm) = halterref11_Float.R r ∧ ([] : List Box) = [])))) ∧ ((a0 == (36 : Int)) = false → (True) ∧ (((a0 == (37 : Int)) = true → (∃ t13 : Int, (Fun cfg 40 [.one (.sc (.int .u64 a2))] [] (halterref02_Sqrt.R t13) [] ∧ True) ∧ (True ∧ ((True) ∧ (True) ∧ (.tup [.one (.sc (.int .u64 t13)), .one (.sc (.int .i64 (0 : Int)))] : Tm) = halterref11_Float.R r ∧ ([] : List Box) = [])))) ∧ ((a0 == (37 : Int)) = false → (True ∧ (True ∧ (True ∧ ((True) ∧ (True) ∧ (.tup [.one (.sc (.int .u64 (0 : Int))), .one (.sc (.int .i64 (22 : Int)))] : Tm) = halterref11_Float.R r ∧ ([] : List Box) = []))))))))))))))) (by kernel_rfl) ?_)
  refine ⟨trivial, ?_⟩
  refine ⟨fun b1 => ?_, fun b1 => ?_⟩
  · rw [if_pos (beq_t b1)] at h
    obtain ⟨t2, ht2, h⟩ := of_bind h
    refine ⟨t2, ⟨halterref02_Add.fun_ ht2, trivial⟩, ?_⟩
    refine ⟨trivial, ?_⟩
    obtain rfl := Option.some.inj h
    exact ⟨trivial, trivial, rfl, rfl⟩
  · rw [if_neg (beq_f b1)] at h
    refine ⟨trivial, ?_⟩
    refine ⟨fun b3 => ?_, fun b3 => ?_⟩
    · rw [if_pos (beq_t b3)] at h
      obtain ⟨t4, ht4, h⟩ := of_bind h
      refine ⟨t4, ⟨halterref02_Class.fun_ ht4, trivial⟩, ?_⟩
      refine ⟨trivial, ?_⟩
      refine ⟨fun b5 => ?_, fun b5 => ?_⟩
      · rw [if_pos (beq_t b5)] at h
        refine ⟨trivial, trivial, ?_⟩
        obtain rfl := Option.some.inj h
        exact ⟨trivial, trivial, rfl, rfl⟩
      · rw [if_neg (beq_f b5)] at h
        obtain ⟨t6, ht6, h⟩ := of_bind h
        refine ⟨t6, ⟨halterref02_Minus.fun_ ht6, trivial⟩, ?_⟩
        obtain ⟨t7, ht7, h⟩ := of_bind h
        refine ⟨t7, ⟨halterref02_Add.fun_ ht7, trivial⟩, ?_⟩
        refine ⟨trivial, ?_⟩
        obtain rfl := Option.some.inj h
        exact ⟨trivial, trivial, rfl, rfl⟩
    · rw [if_neg (beq_f b3)] at h
      refine ⟨trivial, ?_⟩
      refine ⟨fun b8 => ?_, fun b8 => ?_⟩
      · rw [if_pos (beq_t b8)] at h
        obtain ⟨t9, ht9, h⟩ := of_bind h
        refine ⟨t9, ⟨halterref02_Mul.fun_ ht9, trivial⟩, ?_⟩
        refine ⟨trivial, ?_⟩
        obtain rfl := Option.some.inj h
        exact ⟨trivial, trivial, rfl, rfl⟩
      · rw [if_neg (beq_f b8)] at h
        refine ⟨trivial, ?_⟩
        refine ⟨fun b10 => ?_, fun b10 => ?_⟩
        · rw [if_pos (beq_t b10)] at h
          obtain ⟨t11, ht11, h⟩ := of_bind h
          refine ⟨t11, ⟨halterref02_Div.fun_ ht11, trivial⟩, ?_⟩
          refine ⟨trivial, ?_⟩
          obtain rfl := Option.some.inj h
          exact ⟨trivial, trivial, rfl, rfl⟩
        · rw [if_neg (beq_f b10)] at h
          refine ⟨trivial, ?_⟩
          refine ⟨fun b12 => ?_, fun b12 => ?_⟩
          · rw [if_pos (beq_t b12)] at h
            obtain ⟨t13, ht13, h⟩ := of_bind h
            refine ⟨t13, ⟨halterref02_Sqrt.fun_ ht13, trivial⟩, ?_⟩
            refine ⟨trivial, ?_⟩
            obtain rfl := Option.some.inj h
            exact ⟨trivial, trivial, rfl, rfl⟩
          · rw [if_neg (beq_f b12)] at h
            refine ⟨trivial, trivial, trivial, ?_⟩
            obtain rfl := Option.some.inj h
            exact ⟨trivial, trivial, rfl, rfl⟩
/-! halter/alu.Cmp -/
def alu_Cmp.f (a0 : Int) (a1 : Int) (a2 : Int) : Option Int :=
  (soft_Cmp.f a0 a1).bind fun t1 =>
  if t1 = (-1 : Int) then
    some (bits .or .u32 (bits .and .u32 a2 (16 : Int)) (2 : Int))
  else
    if t1 = (0 : Int) then
      some (bits .or .u32 (bits .and .u32 a2 (16 : Int)) (1 : Int))
    else
      if t1 = (1 : Int) then
        some (bits .and .u32 a2 (16 : Int))
      else
        some (bits .or .u32 (bits .and .u32 a2 (16 : Int)) (4 : Int))
def alu_Cmp.R (r : Int) : Tm := .v (.one (.sc (.int .u32 r)))
theorem alu_Cmp.fun_ {a0 : Int} {a1 : Int} {a2 : Int} {r : Int} (h : alu_Cmp.f a0 a1 a2 = some r) : Fun cfg 15 [.one (.sc (.int .u64 a0)), .one (.sc (.int .u64 a1)), .one (.sc (.int .u32 a2))] [] (alu_Cmp.R r) [] := by
  unfold alu_Cmp.f at h
  refine fun_of_run cfg_ok (f := 15) (fn := Tryd.f15) Tryd.func15 rfl (by kernel_rfl) (rs := [.tmp 6]) rfl (nt := 26) rfl (l := fin) (k := (.call true [] (Int) soft_Cmp.R (fun t1 => (.br (aE 3 .nil) (.br (aE 3 .nil) (.br (aE 3 .nil) (aE 4 .nil))))))) (to_goal (q := (True) ∧ (∃ t1 : Int, (Fun cfg 41 [.one (.sc (.int .u64 a0)), .one (.sc (.int .u64 a1))] [] (soft_Cmp.R t1) [] ∧ True) ∧ (True) ∧ (((t1 == (-1 : Int)) = true → (True ∧ (True) ∧ (True ∧ ((True) ∧ (True) ∧ (.v (.one (.sc (.int .u32 (bits .or .u32 (bits .and .u32 a2 (16 : Int)) (2 : Int))))) : Tm) = alu_Cmp.R r ∧ ([] : List Box) = [])))) ∧ ((t1 == (-1 : Int)) = false → (True) ∧ (((t1 == (0 : Int)) = true → (True ∧ (True) ∧ (True ∧ ((True) ∧ (True) ∧ (.v (.one (.sc (.int .u32 (bits .or .u32 (bits .and .u32 a2 (16 : Int)) (1 : Int))))) : Tm) = alu_Cmp.R r ∧ ([] : List Box) = [])))) ∧ ((t1 == (0 : Int)) = false → (True) ∧ (((t1 == (1 : Int)) = true → (True ∧ (True ∧ ((True) ∧ (True) ∧ (.v (.one (.sc (.int .u32 (bits .and .u32 a2 (16 : Int))))) : Tm) = alu_Cmp.R r ∧ ([] : List Box) = [])))) ∧ ((t1 == (1 : Int)) = false → (True ∧ (True ∧ (True) ∧ (True ∧ ((True) ∧ (True) ∧ (.v (.one (.sc (.int .u32 (bits .or .u32 (bits .and .u32 a2 (16 : Int)) (4 : Int))))) : Tm) = alu_Cmp.R r ∧ ([] : List Box) = [])))))))))))) (by kernel_rfl) ?_)
  refine ⟨trivial, ?_⟩
  obtain ⟨t1, ht1, h⟩ := of_bind h
  refine ⟨t1, ⟨soft_Cmp.fun_ ht1, trivial⟩, ?_⟩
  refine ⟨trivial, ?_⟩
  refine ⟨fun b2 => ?_, fun b2 => ?_⟩
  · rw [if_pos (beq_t b2)] at h
    refine ⟨trivial, trivial, trivial, ?_⟩
    obtain rfl := Option.some.inj h
    exact ⟨trivial, trivial, rfl, rfl⟩
  · rw [if_neg (beq_f b2)] at h
    refine ⟨trivial, ?_⟩
    refine ⟨fun b3 => ?_, fun b3 => ?_⟩
    · rw [if_pos (beq_t b3)] at h
      refine ⟨trivial, trivial, trivial, ?_⟩
      obtain rfl := Option.some.inj h
      exact ⟨trivial, trivial, rfl, rfl⟩
    · rw [if_neg (beq_f b3)] at h
      refine ⟨trivial, ?_⟩
      refine ⟨fun b4 => ?_, fun b4 => ?_⟩
      · rw [if_pos (beq_t b4)] at h
        refine ⟨trivial, trivial, ?_⟩
        obtain rfl := Option.some.inj h
        exact ⟨trivial, trivial, rfl, rfl⟩
      · rw [if_neg (beq_f b4)] at h
        refine ⟨trivial, trivial, trivial, trivial, ?_⟩
        obtain rfl := Option.some.inj h
        exact ⟨trivial, trivial, rfl, rfl⟩
/-! halter/halterref02.key -/
def halterref02_key.f (a0 : Int) : Option Int :=
  (halterref02_Neg.f a0).bind fun t1 =>
  if t1 = true then
    some (IntKind.wrap .u64 ((18446744073709551615 : Int) - a0))
  else
    some (IntKind.wrap .u64 (a0 + (9223372036854775808 : Int)))
def halterref02_key.R (r : Int) : Tm := .v (.one (.sc (.int .u64 r)))
theorem halterref02_key.fun_ {a0 : Int} {r : Int} (h : halterref02_key.f a0 = some r) : Fun cfg 76 [.one (.sc (.int .u64 a0))] [] (halterref02_key.R r) [] := by
  unfold halterref02_key.f at h
  refine fun_of_run cfg_ok (f := 76) (fn := Tryd.f76) Tryd.func76 rfl (by kernel_rfl) (rs := [.tmp 2]) rfl (nt := 9) rfl (l := fin) (k := (.call true [] (Bool) halterref02_Neg.R (fun t1 => (.br (aE 3 .nil) (aE 4 .nil))))) (to_goal (q := (∃ t1 : Bool, (Fun cfg 60 [.one (.sc (.int .u64 a0))] [] (halterref02_Neg.R t1) [] ∧ True) ∧ ((t1 = true → (True ∧ (True) ∧ (True ∧ ((True) ∧ (True) ∧ (.v (.one (.sc (.int .u64 (IntKind.wrap .u64 ((18446744073709551615 : Int) - a0))))) : Tm) = halterref02_key.R r ∧ ([] : List Box) = [])))) ∧ (t1 = false → (True ∧ (True ∧ (True) ∧ (True ∧ ((True) ∧ (True) ∧ (.v (.one (.sc (.int .u64 (IntKind.wrap .u64 (a0 + (9223372036854775808 : Int)))))) : Tm) = halterref02_key.R r ∧ ([] : List Box) = [])))))))) (by kernel_rfl) ?_)
  obtain ⟨t1, ht1, h⟩ := of_bind h
  refine ⟨t1, ⟨halterref02_Neg.fun_ ht1, trivial⟩, ?_⟩
  refine ⟨fun b2 => ?_, fun b2 => ?_⟩
  · rw [if_pos b2] at h
    refine ⟨trivial, trivial, trivial, ?_⟩
    obtain rfl := Option.some.inj h
    exact ⟨trivial, trivial, rfl, rfl⟩
  · rw [if_neg (ff b2)] at h
    refine ⟨trivial, trivial, trivial, trivial, ?_⟩
    obtain rfl := Option.some.inj h
    exact ⟨trivial, trivial, rfl, rfl⟩
/-! halter/halterref02.Order -/
def halterref02_Order.f (a0 : Int) (a1 : Int) : Option Int :=
  (halterref02_key.f a0).bind fun t1 =>
  (halterref02_key.f a1).bind fun t2 =>
  if t1 < t2 then
    some (-1 : Int)
  else
    (halterref02_key.f a0).bind fun t4 =>
    (halterref02_key.f a1).bind fun t5 =>
    if t4 > t5 then
      some (1 : Int)
    else
      some (0 : Int)
def halterref02_Order.R (r : Int) : Tm := .v (.one (.sc (.int .i64 r)))
theorem halterref02_Order.fun_ {a0 : Int} {a1 : Int} {r : Int} (h : halterref02_Order.f a0 a1 = some r) : Fun cfg 65 [.one (.sc (.int .u64 a0)), .one (.sc (.int .u64 a1))] [] (halterref02_Order.R r) [] := by
  unfold halterref02_Order.f at h
  refine fun_of_run cfg_ok (f := 65) (fn := Tryd.f65) Tryd.func65 rfl (by kernel_rfl) (rs := [.tmp 4]) rfl (nt := 15) rfl (l := fin) (k := (.call true [] (Int) halterref02_key.R (fun t1 => (.call true [] (Int) halterref02_key.R (fun t2 => (.br (aE 3 .nil) (.call true [] (Int) halterref02_key.R (fun t4 => (.call true [] (Int) halterref02_key.R (fun t5 => (.br (aE 3 .nil) (aE 4 .nil)))))))))))) (to_goal (q := (∃ t1 : Int, (Fun cfg 76 [.one (.sc (.int .u64 a0))] [] (halterref02_key.R t1) [] ∧ True) ∧ (∃ t2 : Int, (Fun cfg 76 [.one (.sc (.int .u64 a1))] [] (halterref02_key.R t2) [] ∧ True) ∧ (True) ∧ (((decide (t1 < t2)) = true → (True ∧ (True ∧ ((True) ∧ (True) ∧ (.v (.one (.sc (.int .i64 (-1 : Int)))) : Tm) = halterref02_Order.R r ∧ ([] : List Box) = [])))) ∧ ((decide (t1 < t2)) = false → (∃ t4 : Int, (Fun cfg 76 [.one (.sc (.int .u64 a0))] [] (halterref02_key.R t4) [] ∧ True) ∧ (∃ t5 : Int, (Fun cfg 76 [.one (.sc (.int .u64 a1))] [] (halterref02_key.R t5) [] ∧ True) ∧ (True) ∧ (((decide (t4 > t5)) = true → (True ∧ (True ∧ ((True) ∧ (True) ∧ (.v (.one (.sc (.int .i64 (1 : Int)))) : Tm) = halterref02_Order.R r ∧ ([] : List Box) = [])))) ∧ ((decide (t4 > t5)) = false → (True ∧ (True ∧ (True ∧ ((True) ∧ (True) ∧ (.v (.one (.sc (.int .i64 (0 : Int)))) : Tm) = halterref02_Order.R r ∧ ([] : List Box) = []))))))))))))) (by kernel_rfl) ?_)
  obtain ⟨t1, ht1, h⟩ := of_bind h
  refine ⟨t1, ⟨halterref02_key.fun_ ht1, trivial⟩, ?_⟩
  obtain ⟨t2, ht2, h⟩ := of_bind h
  refine ⟨t2, ⟨halterref02_key.fun_ ht2, trivial⟩, ?_⟩
  refine ⟨trivial, ?_⟩
  refine ⟨fun b3 => ?_, fun b3 => ?_⟩
  · rw [if_pos (of_decide_eq_true b3)] at h
    refine ⟨trivial, trivial, ?_⟩
    obtain rfl := Option.some.inj h
    exact ⟨trivial, trivial, rfl, rfl⟩
  · rw [if_neg (of_decide_eq_false b3)] at h
    obtain ⟨t4, ht4, h⟩ := of_bind h
    refine ⟨t4, ⟨halterref02_key.fun_ ht4, trivial⟩, ?_⟩
    obtain ⟨t5, ht5, h⟩ := of_bind h
    refine ⟨t5, ⟨halterref02_key.fun_ ht5, trivial⟩, ?_⟩
    refine ⟨trivial, ?_⟩
    refine ⟨fun b6 => ?_, fun b6 => ?_⟩
    · rw [if_pos (of_decide_eq_true b6)] at h
      refine ⟨trivial, trivial, ?_⟩
      obtain rfl := Option.some.inj h
      exact ⟨trivial, trivial, rfl, rfl⟩
    · rw [if_neg (of_decide_eq_false b6)] at h
      refine ⟨trivial, trivial, trivial, ?_⟩
      obtain rfl := Option.some.inj h
      exact ⟨trivial, trivial, rfl, rfl⟩
/-! halter/halterref02.Cmp -/
def halterref02_Cmp.f (a0 : Int) (a1 : Int) : Option Int :=
  (halterref02_none.f a0 a1).bind fun t1 =>
  if t1 = true then
    some (2 : Int)
  else
    (halterref02_Class.f a0).bind fun t3 =>
    if t3 = (0 : Int) then
      (halterref02_Class.f a1).bind fun t5 =>
      if t5 = (0 : Int) then
        some (0 : Int)
      else
        (halterref02_Order.f a0 a1).bind fun t7 =>
        some t7
    else
      (halterref02_Order.f a0 a1).bind fun t8 =>
      some t8
def halterref02_Cmp.R (r : Int) : Tm := .v (.one (.sc (.int .i64 r)))
theorem halterref02_Cmp.fun_ {a0 : Int} {a1 : Int} {r : Int} (h : halterref02_Cmp.f a0 a1 = some r) : Fun cfg 42 [.one (.sc (.int .u64 a0)), .one (.sc (.int .u64 a1))] [] (halterref02_Cmp.R r) [] := by
  unfold halterref02_Cmp.f at h
  refine fun_of_run cfg_ok (f := 42) (fn := Tryd.f42) Tryd.func42 rfl (by kernel_rfl) (rs := [.tmp 4]) rfl (nt := 19) rfl (l := fin) (k := (.call true [] (Bool) halterref02_none.R (fun t1 => (.br (aE 3 .nil) (.call true [] (Int) halterref02_Class.R (fun t3 => (.br (.one true (.call true [] (Int) halterref02_Class.R (fun t5 => (oT 2 (.br (aE 3 .nil) (.call true [] (Int) halterref02_Order.R (fun t7 => (aE 2 .nil)))))))) (oF 4 (.call true [] (Int) halterref02_Order.R (fun t8 => (aE 2 .nil))))))))))) (to_goal (q := (∃ t1 : Bool, (Fun cfg 59 [.one (.sc (.int .u64 a0)), .one (.sc (.int .u64 a1))] [] (halterref02_none.R t1) [] ∧ True) ∧ ((t1 = true → (True ∧ (True ∧ ((True) ∧ (True) ∧ (.v (.one (.sc (.int .i64 (2 : Int)))) : Tm) = halterref02_Cmp.R r ∧ ([] : List Box) = [])))) ∧ (t1 = false → (∃ t3 : Int, (Fun cfg 36 [.one (.sc (.int .u64 a0))] [] (halterref02_Class.R t3) [] ∧ True) ∧ (True) ∧ (((t3 == (0 : Int)) = true → ((t3 == (0 : Int)) = true ∧ (∃ t5 : Int, (Fun cfg 36 [.one (.sc (.int .u64 a1))] [] (halterref02_Class.R t5) [] ∧ True) ∧ ((t3 == (0 : Int)) = true ∧ (True) ∧ ((t3 == (0 : Int)) = true ∧ (((t5 == (0 : Int)) = true → (True ∧ (True ∧ ((True) ∧ (True) ∧ (.v (.one (.sc (.int .i64 (0 : Int)))) : Tm) = halterref02_Cmp.R r ∧ ([] : List Box) = [])))) ∧ ((t5 == (0 : Int)) = false → (∃ t7 : Int, (Fun cfg 65 [.one (.sc (.int .u64 a0)), .one (.sc (.int .u64 a1))] [] (halterref02_Order.R t7) [] ∧ True) ∧ (True ∧ ((True) ∧ (True) ∧ (.v (.one (.sc (.int .i64 t7))) : Tm) = halterref02_Cmp.R r ∧ ([] : List Box) = [])))))))))) ∧ ((t3 == (0 : Int)) = false → ((t3 == (0 : Int)) = false ∧ ((t3 == (0 : Int)) = false ∧ ((t3 == (0 : Int)) = false ∧ (false = false ∧ (∃ t8 : Int, (Fun cfg 65 [.one (.sc (.int .u64 a0)), .one (.sc (.int .u64 a1))] [] (halterref02_Order.R t8) [] ∧ True) ∧ (True ∧ ((True) ∧ (True) ∧ (.v (.one (.sc (.int .i64 t8))) : Tm) = halterref02_Cmp.R r ∧ ([] : List Box) = [])))))))))))))) (by kernel_rfl) ?_)
  obtain ⟨t1, ht1, h⟩ := of_bind h
  refine ⟨t1, ⟨halterref02_none.fun_ ht1, trivial⟩, ?_⟩
  refine ⟨fun b2 => ?_, fun b2 => ?_⟩
  · rw [if_pos b2] at h
    refine ⟨trivial, trivial, ?_⟩
    obtain rfl := Option.some.inj h
    exact ⟨trivial, trivial, rfl, rfl⟩
  · rw [if_neg (ff b2)] at h
    obtain ⟨t3, ht3, h⟩ := of_bind h
    refine ⟨t3, ⟨halterref02_Class.fun_ ht3, trivial⟩, ?_⟩
    refine ⟨trivial, ?_⟩
    refine ⟨fun b4 => ?_, fun b4 => ?_⟩
    · rw [if_pos (beq_t b4)] at h
      refine ⟨b4, ?_⟩
      obtain ⟨t5, ht5, h⟩ := of_bind h
      refine ⟨t5, ⟨halterref02_Class.fun_ ht5, trivial⟩, ?_⟩
      refine ⟨b4, ?_⟩
      refine ⟨trivial, ?_⟩
      refine ⟨b4, ?_⟩
      refine ⟨fun b6 => ?_, fun b6 => ?_⟩
      · rw [if_pos (beq_t b6)] at h
        refine ⟨trivial, trivial, ?_⟩
        obtain rfl := Option.some.inj h
        exact ⟨trivial, trivial, rfl, rfl⟩
      · rw [if_neg (beq_f b6)] at h
        obtain ⟨t7, ht7, h⟩ := of_bind h
        refine ⟨t7, ⟨halterref02_Order.fun_ ht7, trivial⟩, ?_⟩
        refine ⟨trivial, ?_⟩
        obtain rfl := Option.some.inj h
        exact ⟨trivial, trivial, rfl, rfl⟩
    · rw [if_neg (beq_f b4)] at h
      refine ⟨b4, ?_⟩
      refine ⟨b4, ?_⟩
      refine ⟨b4, ?_⟩
      refine ⟨rfl, ?_⟩
      obtain ⟨t8, ht8, h⟩ := of_bind h
      refine ⟨t8, ⟨halterref02_Order.fun_ ht8, trivial⟩, ?_⟩
      refine ⟨trivial, ?_⟩
      obtain rfl := Option.some.inj h
      exact ⟨trivial, trivial, rfl, rfl⟩
/-! halter/halterref11.Cmp -/
def halterref11_Cmp.f (a0 : Int) (a1 : Int) (a2 : Int) : Option Int :=
  (halterref02_Cmp.f a0 a1).bind fun t1 =>
  if t1 = (-1 : Int) then
    some (IntKind.wrap .u32 ((IntKind.wrap .u32 ((Int.tmod (IntKind.wrap .u32 (Int.tdiv a2 (16 : Int))) (2 : Int)) * (16 : Int))) + (2 : Int)))
  else
    if t1 = (0 : Int) then
      some (IntKind.wrap .u32 ((IntKind.wrap .u32 ((Int.tmod (IntKind.wrap .u32 (Int.tdiv a2 (16 : Int))) (2 : Int)) * (16 : Int))) + (1 : Int)))
    else
      if t1 = (2 : Int) then
        some (IntKind.wrap .u32 ((IntKind.wrap .u32 ((Int.tmod (IntKind.wrap .u32 (Int.tdiv a2 (16 : Int))) (2 : Int)) * (16 : Int))) + (4 : Int)))
      else
        some (IntKind.wrap .u32 ((Int.tmod (IntKind.wrap .u32 (Int.tdiv a2 (16 : Int))) (2 : Int)) * (16 : Int)))
def halterref11_Cmp.R (r : Int) : Tm := .v (.one (.sc (.int .u32 r)))
theorem halterref11_Cmp.fun_ {a0 : Int} {a1 : Int} {a2 : Int} {r : Int} (h : halterref11_Cmp.f a0 a1 a2 = some r) : Fun cfg 16 [.one (.sc (.int .u64 a0)), .one (.sc (.int .u64 a1)), .one (.sc (.int .u32 a2))] [] (halterref11_Cmp.R r) [] := by
  unfold halterref11_Cmp.f at h
  refine fun_of_run cfg_ok (f := 16) (fn := Tryd.f16) Tryd.func16 rfl (by kernel_rfl) (rs := [.tmp 6]) rfl (nt := 28) rfl (l := fin) (k := (.call true [] (Int) halterref02_Cmp.R (fun t1 => (.br (aE 3 .nil) (.br (aE 3 .nil) (.br (aE 3 .nil) (aE 4 .nil))))))) (to_goal (q := ((16 : Int) ≠ 0) ∧ ((2 : Int) ≠ 0) ∧ (True) ∧ (∃ t1 : Int, (Fun cfg 42 [.one (.sc (.int .u64 a0)), .one (.sc (.int .u64 a1))] [] (halterref02_Cmp.R t1) [] ∧ True) ∧ (True) ∧ (((t1 == (-1 : Int)) = true → (True ∧ (True) ∧ (True ∧ ((True) ∧ (True) ∧ (.v (.one (.sc (.int .u32 (IntKind.wrap .u32 ((IntKind.wrap .u32 ((Int.tmod (IntKind.wrap .u32 (Int.tdiv a2 (16 : Int))) (2 : Int)) * (16 : Int))) + (2 : Int)))))) : Tm) = halterref11_Cmp.R r ∧ ([] : List Box) = [])))) ∧ ((t1 == (-1 : Int)) = false → (True) ∧ (((t1 == (0 : Int)) = true → (True ∧ (True) ∧ (True ∧ ((True) ∧ (True) ∧ (.v (.one (.sc (.int .u32 (IntKind.wrap .u32 ((IntKind.wrap .u32 ((Int.tmod (IntKind.wrap .u32 (Int.tdiv a2 (16 : Int))) (2 : Int)) * (16 : Int))) + (1 : Int)))))) : Tm) = halterref11_Cmp.R r ∧ ([] : List Box) = [])))) ∧ ((t1 == (0 : Int)) = false → (True) ∧ (((t1 == (2 : Int)) = true → (True ∧ (True) ∧ (True ∧ ((True) ∧ (True) ∧ (.v (.one (.sc (.int .u32 (IntKind.wrap .u32 ((IntKind.wrap .u32 ((Int.tmod (IntKind.wrap .u32 (Int.tdiv a2 (16 : Int))) (2 : Int)) * (16 : Int))) + (4 : Int)))))) : Tm) = halterref11_Cmp.R r ∧ ([] : List Box) = [])))) ∧ ((t1 == (2 : Int)) = false → (True ∧ (True ∧ (True ∧ ((True) ∧ (True) ∧ (.v (.one (.sc (.int .u32 (IntKind.wrap .u32 ((Int.tmod (IntKind.wrap .u32 (Int.tdiv a2 (16 : Int))) (2 : Int)) * (16 : Int)))))) : Tm) = halterref11_Cmp.R r ∧ ([] : List Box) = [])))))))))))) (by kernel_rfl) ?_)
  refine ⟨(by decide), ?_⟩
  refine ⟨(by decide), ?_⟩
  refine ⟨trivial, ?_⟩
  obtain ⟨t1, ht1, h⟩ := of_bind h
  refine ⟨t1, ⟨halterref02_Cmp.fun_ ht1, trivial⟩, ?_⟩
  refine ⟨trivial, ?_⟩
  refine ⟨fun b2 => ?_, fun b2 => ?_⟩
  · rw [if_pos (beq_t b2)] at h
    refine ⟨trivial, trivial, trivial, ?_⟩
    obtain rfl := Option.some.inj h
    exact ⟨trivial, trivial, rfl, rfl⟩
  · rw [if_neg (beq_f b2)] at h
    refine ⟨trivial, ?_⟩
    refine ⟨fun b3 => ?_, fun b3 => ?_⟩
    · rw [if_pos (beq_t b3)] at h
      refine ⟨trivial, trivial, trivial, ?_⟩
      obtain rfl := Option.some.inj h
      exact ⟨trivial, trivial, rfl, rfl⟩
    · rw [if_neg (beq_f b3)] at h
      refine ⟨trivial, ?_⟩
      refine ⟨fun b4 => ?_, fun b4 => ?_⟩
      · rw [if_pos (beq_t b4)] at h
        refine ⟨trivial, trivial, trivial, ?_⟩
        obtain rfl := Option.some.inj h
        exact ⟨trivial, trivial, rfl, rfl⟩
      · rw [if_neg (beq_f b4)] at h
        refine ⟨trivial, trivial, trivial, ?_⟩
        obtain rfl := Option.some.inj h
        exact ⟨trivial, trivial, rfl, rfl⟩
/-! math/bits.Sub32 -/
def math_bits_Sub32.f (a0 : Int) (a1 : Int) (a2 : Int) : Option (Int × Int) :=
  some ((IntKind.wrap .u32 ((IntKind.wrap .u32 (a0 - a1)) - a2)), (shr .u32 (bits .or .u32 (bits .and .u32 (bits .xor .u32 (IntKind.max .u32) a0) a1) (bits .and .u32 (bits .xor .u32 (IntKind.max .u32) (bits .xor .u32 a0 a1)) (IntKind.wrap .u32 ((IntKind.wrap .u32 (a0 - a1)) - a2)))) (31 : Int)))
def math_bits_Sub32.R (r : Int × Int) : Tm := .tup [.one (.sc (.int .u32 r.1)), .one (.sc (.int .u32 r.2))]
theorem math_bits_Sub32.fun_ {a0 : Int} {a1 : Int} {a2 : Int} {r : Int × Int} (h : math_bits_Sub32.f a0 a1 a2 = some r) : Fun cfg 69 [.one (.sc (.int .u32 a0)), .one (.sc (.int .u32 a1)), .one (.sc (.int .u32 a2))] [] (math_bits_Sub32.R r) [] := by
  unfold math_bits_Sub32.f at h
  refine fun_of_run cfg_ok (f := 69) (fn := Tryd.f69) Tryd.func69 rfl (by kernel_rfl) (rs := [.tmp 6, .tmp 7]) rfl (nt := 25) rfl (l := fin) (k := (aE 5 .nil)) (to_goal (q := (True ∧ (True ∧ (True) ∧ (True) ∧ (True ∧ (True) ∧ (True) ∧ (True) ∧ (True) ∧ (0 ≤ (31 : Int)) ∧ (True ∧ ((True) ∧ (True) ∧ (.tup [.one (.sc (.int .u32 (IntKind.wrap .u32 ((IntKind.wrap .u32 (a0 - a1)) - a2)))), .one (.sc (.int .u32 (shr .u32 (bits .or .u32 (bits .and .u32 (bits .xor .u32 (IntKind.max .u32) a0) a1) (bits .and .u32 (bits .xor .u32 (IntKind.max .u32) (bits .xor .u32 a0 a1)) (IntKind.wrap .u32 ((IntKind.wrap .u32 (a0 - a1)) - a2)))) (31 : Int))))] : Tm) = math_bits_Sub32.R r ∧ ([] : List Box) = [])))))) (by kernel_rfl) ?_)
  refine ⟨trivial, trivial, trivial, trivial, trivial, trivial, trivial, trivial, trivial, ?_⟩
  refine ⟨(by decide), ?_⟩
  refine ⟨trivial, ?_⟩
  obtain rfl := Option.some.inj h
  exact ⟨trivial, trivial, rfl, rfl⟩
/-! halter/word.negative -/
def word_negative.f (a0 : Int) : Option Bool :=
  some (decide ((IntKind.wrap .i32 (a0)) < (0 : Int)))
def word_negative.R (r : Bool) : Tm := .v (.one (.sc (.bool r)))
theorem word_negative.fun_ {a0 : Int} {r : Bool} (h : word_negative.f a0 = some r) : Fun cfg 67 [.one (.sc (.int .u32 a0))] [] (word_negative.R r) [] := by
  unfold word_negative.f at h
  refine fun_of_run cfg_ok (f := 67) (fn := Tryd.f67) Tryd.func67 rfl (by kernel_rfl) (rs := [.tmp 2]) rfl (nt := 6) rfl (l := fin) (k := (aE 4 .nil)) (to_goal (q := (True ∧ (True ∧ (True) ∧ (True) ∧ (True ∧ ((True) ∧ (True) ∧ (.v (.one (.sc (.bool (decide ((IntKind.wrap .i32 (a0)) < (0 : Int)))))) : Tm) = word_negative.R r ∧ ([] : List Box) = []))))) (by kernel_rfl) ?_)
  refine ⟨trivial, trivial, trivial, trivial, trivial, ?_⟩
  obtain rfl := Option.some.inj h
  exact ⟨trivial, trivial, rfl, rfl⟩
/-! halter/word.Sub -/
def word_Sub.f (a0 : Int) (a1 : Int) : Option (Int × Bool × Bool) :=
  (math_bits_Sub32.f a0 a1 (0 : Int)).bind fun t1 =>
  (word_negative.f a0).bind fun t2 =>
  (word_negative.f a1).bind fun t3 =>
  if ¬ (t2 = t3) then
    (word_negative.f t1.1).bind fun t5 =>
    (word_negative.f a0).bind fun t6 =>
    some (t1.1, (t1.2 == (1 : Int)), (!(t5 == t6)))
  else
    some (t1.1, (t1.2 == (1 : Int)), false)
def word_Sub.R (r : Int × Bool × Bool) : Tm := .tup [.one (.sc (.int .u32 r.1)), .one (.sc (.bool r.2.1)), .one (.sc (.bool r.2.2))]
theorem word_Sub.fun_ {a0 : Int} {a1 : Int} {r : Int × Bool × Bool} (h : word_Sub.f a0 a1 = some r) : Fun cfg 45 [.one (.sc (.int .u32 a0)), .one (.sc (.int .u32 a1))] [] (word_Sub.R r) [] := by
  unfold word_Sub.f at h
  refine fun_of_run cfg_ok (f := 45) (fn := Tryd.f45) Tryd.func45 rfl (by kernel_rfl) (rs := [.tmp 4, .tmp 5, .tmp 6]) rfl (nt := 30) rfl (l := fin) (k := (.call true [] (Int × Int) math_bits_Sub32.R (fun t1 => (.call true [] (Bool) word_negative.R (fun t2 => (.call true [] (Bool) word_negative.R (fun t3 => (.br (.one true (.call true [] (Bool) word_negative.R (fun t5 => (oT 2 (.call true [] (Bool) word_negative.R (fun t6 => (oT 2 (aE 2 .nil)))))))) (oF 5 (aE 2 .nil)))))))))) (to_goal (q := (∃ t1 : Int × Int, (Fun cfg 69 [.one (.sc (.int .u32 a0)), .one (.sc (.int .u32 a1)), .one (.sc (.int .u32 (0 : Int)))] [] (math_bits_Sub32.R t1) [] ∧ True) ∧ (True) ∧ (∃ t2 : Bool, (Fun cfg 67 [.one (.sc (.int .u32 a0))] [] (word_negative.R t2) [] ∧ True) ∧ (∃ t3 : Bool, (Fun cfg 67 [.one (.sc (.int .u32 a1))] [] (word_negative.R t3) [] ∧ True) ∧ (True) ∧ (((!(t2 == t3)) = true → ((!(t2 == t3)) = true ∧ (∃ t5 : Bool, (Fun cfg 67 [.one (.sc (.int .u32 t1.1))] [] (word_negative.R t5) [] ∧ True) ∧ ((!(t2 == t3)) = true ∧ ((!(t2 == t3)) = true ∧ (∃ t6 : Bool, (Fun cfg 67 [.one (.sc (.int .u32 a0))] [] (word_negative.R t6) [] ∧ True) ∧ ((!(t2 == t3)) = true ∧ (True) ∧ ((!(t2 == t3)) = true ∧ (True ∧ ((True) ∧ (True) ∧ (.tup [.one (.sc (.int .u32 t1.1)), .one (.sc (.bool (t1.2 == (1 : Int)))), .one (.sc (.bool (!(t5 == t6))))] : Tm) = word_Sub.R r ∧ ([] : List Box) = [])))))))))) ∧ ((!(t2 == t3)) = false → ((!(t2 == t3)) = false ∧ ((!(t2 == t3)) = false ∧ ((!(t2 == t3)) = false ∧ ((!(t2 == t3)) = false ∧ ((!(t2 == t3)) = false ∧ (True ∧ ((True) ∧ (True) ∧ (.tup [.one (.sc (.int .u32 t1.1)), .one (.sc (.bool (t1.2 == (1 : Int)))), .one (.sc (.bool false))] : Tm) = word_Sub.R r ∧ ([] : List Box) = []))))))))))))) (by kernel_rfl) ?_)
  obtain ⟨t1, ht1, h⟩ := of_bind h
  refine ⟨t1, ⟨math_bits_Sub32.fun_ ht1, trivial⟩, ?_⟩
  refine ⟨trivial, ?_⟩
  obtain ⟨t2, ht2, h⟩ := of_bind h
  refine ⟨t2, ⟨word_negative.fun_ ht2, trivial⟩, ?_⟩
  obtain ⟨t3, ht3, h⟩ := of_bind h
  refine ⟨t3, ⟨word_negative.fun_ ht3, trivial⟩, ?_⟩
  refine ⟨trivial, ?_⟩
  refine ⟨fun b4 => ?_, fun b4 => ?_⟩
  · rw [if_pos (bb_f (not_t b4))] at h
    refine ⟨b4, ?_⟩
    obtain ⟨t5, ht5, h⟩ := of_bind h
    refine ⟨t5, ⟨word_negative.fun_ ht5, trivial⟩, ?_⟩
    refine ⟨b4, ?_⟩
    refine ⟨b4, ?_⟩
    obtain ⟨t6, ht6, h⟩ := of_bind h
    refine ⟨t6, ⟨word_negative.fun_ ht6, trivial⟩, ?_⟩
    refine ⟨b4, ?_⟩
    refine ⟨trivial, ?_⟩
    refine ⟨b4, ?_⟩
    refine ⟨trivial, ?_⟩
    obtain rfl := Option.some.inj h
    exact ⟨trivial, trivial, rfl, rfl⟩
  · rw [if_neg (not_not_intro (bb_t (not_f b4)))] at h
    refine ⟨b4, ?_⟩
    refine ⟨b4, ?_⟩
    refine ⟨b4, ?_⟩
    refine ⟨b4, ?_⟩
    refine ⟨b4, ?_⟩
    refine ⟨trivial, ?_⟩
    obtain rfl := Option.some.inj h
    exact ⟨trivial, trivial, rfl, rfl⟩
/-! halter/alu.pair -/
def alu_pair.f (a0 : Int) (a1 : Bool) (a2 : Bool) : Option Int :=
  if a0 = (0 : Int) then
    if ¬ (bits .and .u32 a0 (2147483648 : Int)) = (0 : Int) then
      if a1 = true then
        if a2 = true then
          some (bits .or .u32 (bits .or .u32 (bits .or .u32 (bits .or .u32 (0 : Int) (1 : Int)) (2 : Int)) (4 : Int)) (8 : Int))
        else
          some (bits .or .u32 (bits .or .u32 (bits .or .u32 (0 : Int) (1 : Int)) (2 : Int)) (4 : Int))
      else
        if a2 = true then
          some (bits .or .u32 (bits .or .u32 (bits .or .u32 (0 : Int) (1 : Int)) (2 : Int)) (8 : Int))
        else
          some (bits .or .u32 (bits .or .u32 (0 : Int) (1 : Int)) (2 : Int))
    else
      if a1 = true then
        if a2 = true then
          some (bits .or .u32 (bits .or .u32 (bits .or .u32 (0 : Int) (1 : Int)) (4 : Int)) (8 : Int))
        else
          some (bits .or .u32 (bits .or .u32 (0 : Int) (1 : Int)) (4 : Int))
      else
        if a2 = true then
          some (bits .or .u32 (bits .or .u32 (0 : Int) (1 : Int)) (8 : Int))
        else
          some (bits .or .u32 (0 : Int) (1 : Int))
  else
    if ¬ (bits .and .u32 a0 (2147483648 : Int)) = (0 : Int) then
      if a1 = true then
        if a2 = true then
          some (bits .or .u32 (bits .or .u32 (bits .or .u32 (0 : Int) (2 : Int)) (4 : Int)) (8 : Int))
        else
          some (bits .or .u32 (bits .or .u32 (0 : Int) (2 : Int)) (4 : Int))
      else
        if a2 = true then
          some (bits .or .u32 (bits .or .u32 (0 : Int) (2 : Int)) (8 : Int))
        else
          some (bits .or .u32 (0 : Int) (2 : Int))
    else
      if a1 = true then
        if a2 = true then
          some (bits .or .u32 (bits .or .u32 (0 : Int) (4 : Int)) (8 : Int))
        else
          some (bits .or .u32 (0 : Int) (4 : Int))
      else
        if a2 = true then
          some (bits .or .u32 (0 : Int) (8 : Int))
        else
          some (0 : Int)
def alu_pair.R (r : Int) : Tm := .v (.one (.sc (.int .u32 r)))
theorem alu_pair.fun_ {a0 : Int} {a1 : Bool} {a2 : Bool} {r : Int} (h : alu_pair.f a0 a1 a2 = some r) : Fun cfg 19 [.one (.sc (.int .u32 a0)), .one (.sc (.bool a1)), .one (.sc (.bool a2))] [] (alu_pair.R r) [] := by
  unfold alu_pair.f at h
  refine fun_of_run cfg_ok (f := 19) (fn := Tryd.f19) Tryd.func19 rfl (by kernel_rfl) (rs := [.tmp 6]) rfl (nt := 24) rfl (l := fin) (k := (.br (.br (.br (.br (aE 4 .nil) (aE 4 .nil)) (.br (aE 4 .nil) (aE 4 .nil))) (.br (.br (aE 4 .nil) (aE 4 .nil)) (.br (aE 4 .nil) (aE 4 .nil)))) (.br (.br (.br (aE 4 .nil) (aE 4 .nil)) (.br (aE 4 .nil) (aE 4 .nil))) (.br (.br (aE 4 .nil) (aE 4 .nil)) (.br (aE 4 .nil) (aE 4 .nil)))))) (to_goal (q := (True) ∧ (((a0 == (0 : Int)) = true → (True) ∧ (True) ∧ (True) ∧ ((((bits .and .u32 a0 (2147483648 : Int)) != (0 : Int)) = true → (True) ∧ ((a1 = true → (True) ∧ ((a2 = true → (True ∧ (True) ∧ (True ∧ (True ∧ ((True) ∧ (True) ∧ (.v (.one (.sc (.int .u32 (bits .or .u32 (bits .or .u32 (bits .or .u32 (bits .or .u32 (0 : Int) (1 : Int)) (2 : Int)) (4 : Int)) (8 : Int))))) : Tm) = alu_pair.R r ∧ ([] : List Box) = []))))) ∧ (a2 = false → (True ∧ (True ∧ (True ∧ ((True) ∧ (True) ∧ (.v (.one (.sc (.int .u32 (bits .or .u32 (bits .or .u32 (bits .or .u32 (0 : Int) (1 : Int)) (2 : Int)) (4 : Int))))) : Tm) = alu_pair.R r ∧ ([] : List Box) = []))))))) ∧ (a1 = false → ((a2 = true → (True ∧ (True) ∧ (True ∧ (True ∧ ((True) ∧ (True) ∧ (.v (.one (.sc (.int .u32 (bits .or .u32 (bits .or .u32 (bits .or .u32 (0 : Int) (1 : Int)) (2 : Int)) (8 : Int))))) : Tm) = alu_pair.R r ∧ ([] : List Box) = []))))) ∧ (a2 = false → (True ∧ (True ∧ (True ∧ ((True) ∧ (True) ∧ (.v (.one (.sc (.int .u32 (bits .or .u32 (bits .or .u32 (0 : Int) (1 : Int)) (2 : Int))))) : Tm) = alu_pair.R r ∧ ([] : List Box) = []))))))))) ∧ (((bits .and .u32 a0 (2147483648 : Int)) != (0 : Int)) = false → ((a1 = true → (True) ∧ ((a2 = true → (True ∧ (True) ∧ (True ∧ (True ∧ ((True) ∧ (True) ∧ (.v (.one (.sc (.int .u32 (bits .or .u32 (bits .or .u32 (bits .or .u32 (0 : Int) (1 : Int)) (4 : Int)) (8 : Int))))) : Tm) = alu_pair.R r ∧ ([] : List Box) = []))))) ∧ (a2 = false → (True ∧ (True ∧ (True ∧ ((True) ∧ (True) ∧ (.v (.one (.sc (.int .u32 (bits .or .u32 (bits .or .u32 (0 : Int) (1 : Int)) (4 : Int))))) : Tm) = alu_pair.R r ∧ ([] : List Box) = []))))))) ∧ (a1 = false → ((a2 = true → (True ∧ (True) ∧ (True ∧ (True ∧ ((True) ∧ (True) ∧ (.v (.one (.sc (.int .u32 (bits .or .u32 (bits .or .u32 (0 : Int) (1 : Int)) (8 : Int))))) : Tm) = alu_pair.R r ∧ ([] : List Box) = []))))) ∧ (a2 = false → (True ∧ (True ∧ (True ∧ ((True) ∧ (True) ∧ (.v (.one (.sc (.int .u32 (bits .or .u32 (0 : Int) (1 : Int))))) : Tm) = alu_pair.R r ∧ ([] : List Box) = []))))))))))) ∧ ((a0 == (0 : Int)) = false → (True) ∧ (True) ∧ ((((bits .and .u32 a0 (2147483648 : Int)) != (0 : Int)) = true → (True) ∧ ((a1 = true → (True) ∧ ((a2 = true → (True ∧ (True) ∧ (True ∧ (True ∧ ((True) ∧ (True) ∧ (.v (.one (.sc (.int .u32 (bits .or .u32 (bits .or .u32 (bits .or .u32 (0 : Int) (2 : Int)) (4 : Int)) (8 : Int))))) : Tm) = alu_pair.R r ∧ ([] : List Box) = []))))) ∧ (a2 = false → (True ∧ (True ∧ (True ∧ ((True) ∧ (True) ∧ (.v (.one (.sc (.int .u32 (bits .or .u32 (bits .or .u32 (0 : Int) (2 : Int)) (4 : Int))))) : Tm) = alu_pair.R r ∧ ([] : List Box) = []))))))) ∧ (a1 = false → ((a2 = true → (True ∧ (True) ∧ (True ∧ (True ∧ ((True) ∧ (True) ∧ (.v (.one (.sc (.int .u32 (bits .or .u32 (bits .or .u32 (0 : Int) (2 : Int)) (8 : Int))))) : Tm) = alu_pair.R r ∧ ([] : List Box) = []))))) ∧ (a2 = false → (True ∧ (True ∧ (True ∧ ((True) ∧ (True) ∧ (.v (.one (.sc (.int .u32 (bits .or .u32 (0 : Int) (2 : Int))))) : Tm) = alu_pair.R r ∧ ([] : List Box) = []))))))))) ∧ (((bits .and .u32 a0 (2147483648 : Int)) != (0 : Int)) = false → ((a1 = true → (True) ∧ ((a2 = true → (True ∧ (True) ∧ (True ∧ (True ∧ ((True) ∧ (True) ∧ (.v (.one (.sc (.int .u32 (bits .or .u32 (bits .or .u32 (0 : Int) (4 : Int)) (8 : Int))))) : Tm) = alu_pair.R r ∧ ([] : List Box) = []))))) ∧ (a2 = false → (True ∧ (True ∧ (True ∧ ((True) ∧ (True) ∧ (.v (.one (.sc (.int .u32 (bits .or .u32 (0 : Int) (4 : Int))))) : Tm) = alu_pair.R r ∧ ([] : List Box) = []))))))) ∧ (a1 = false → ((a2 = true → (True ∧ (True) ∧ (True ∧ (True ∧ ((True) ∧ (True) ∧ (.v (.one (.sc (.int .u32 (bits .or .u32 (0 : Int) (8 : Int))))) : Tm) = alu_pair.R r ∧ ([] : List Box) = []))))) ∧ (a2 = false → (True ∧ (True ∧ (True ∧ ((True) ∧ (True) ∧ (.v (.one (.sc (.int .u32 (0 : Int)))) : Tm) = alu_pair.R r ∧ ([] : List Box) = []))))))))))))) (by kernel_rfl) ?_)
  refine ⟨trivial, ?_⟩
  refine ⟨fun b1 => ?_, fun b1 => ?_⟩
  · rw [if_pos (beq_t b1)] at h
    refine ⟨trivial, trivial, trivial, ?_⟩
    refine ⟨fun b2 => ?_, fun b2 => ?_⟩
    · rw [if_pos (bne_t b2)] at h
      refine ⟨trivial, ?_⟩
      refine ⟨fun b3 => ?_, fun b3 => ?_⟩
      · rw [if_pos b3] at h
        refine ⟨trivial, ?_⟩
        refine ⟨fun b4 => ?_, fun b4 => ?_⟩
        · rw [if_pos b4] at h
          refine ⟨trivial, trivial, trivial, trivial, ?_⟩
          obtain rfl := Option.some.inj h
          exact ⟨trivial, trivial, rfl, rfl⟩
        · rw [if_neg (ff b4)] at h
          refine ⟨trivial, trivial, trivial, ?_⟩
          obtain rfl := Option.some.inj h
          exact ⟨trivial, trivial, rfl, rfl⟩
      · rw [if_neg (ff b3)] at h
        refine ⟨fun b5 => ?_, fun b5 => ?_⟩
        · rw [if_pos b5] at h
          refine ⟨trivial, trivial, trivial, trivial, ?_⟩
          obtain rfl := Option.some.inj h
          exact ⟨trivial, trivial, rfl, rfl⟩
        · rw [if_neg (ff b5)] at h
          refine ⟨trivial, trivial, trivial, ?_⟩
          obtain rfl := Option.some.inj h
          exact ⟨trivial, trivial, rfl, rfl⟩
    · rw [if_neg (not_not_intro (bne_f b2))] at h
      refine ⟨fun b6 => ?_, fun b6 => ?_⟩
      · rw [if_pos b6] at h
        refine ⟨trivial, ?_⟩
        refine ⟨fun b7 => ?_, fun b7 => ?_⟩
        · rw [if_pos b7] at h
          refine ⟨trivial, trivial, trivial, trivial, ?_⟩
          obtain rfl := Option.some.inj h
          exact ⟨trivial, trivial, rfl, rfl⟩
        · rw [if_neg (ff b7)] at h
          refine ⟨trivial, trivial, trivial, ?_⟩
          obtain rfl := Option.some.inj h
          exact ⟨trivial, trivial, rfl, rfl⟩
      · rw [if_neg (ff b6)] at h
        refine ⟨fun b8 => ?_, fun b8 => ?_⟩
        · rw [if_pos b8] at h
          refine ⟨trivial, trivial, trivial, trivial, ?_⟩
          obtain rfl := Option.some.inj h
          exact ⟨trivial, trivial, rfl, rfl⟩
        · rw [if_neg (ff b8)] at h
          refine ⟨trivial, trivial, trivial, ?_⟩
          obtain rfl := Option.some.inj h
          exact ⟨trivial, trivial, rfl, rfl⟩
  · rw [if_neg (beq_f b1)] at h
    refine ⟨trivial, trivial, ?_⟩
    refine ⟨fun b9 => ?_, fun b9 => ?_⟩
    · rw [if_pos (bne_t b9)] at h
      refine ⟨trivial, ?_⟩
      refine ⟨fun b10 => ?_, fun b10 => ?_⟩
      · rw [if_pos b10] at h
        refine ⟨trivial, ?_⟩
        refine ⟨fun b11 => ?_, fun b11 => ?_⟩
        · rw [if_pos b11] at h
          refine ⟨trivial, trivial, trivial, trivial, ?_⟩
          obtain rfl := Option.some.inj h
          exact ⟨trivial, trivial, rfl, rfl⟩
        · rw [if_neg (ff b11)] at h
          refine ⟨trivial, trivial, trivial, ?_⟩
          obtain rfl := Option.some.inj h
          exact ⟨trivial, trivial, rfl, rfl⟩
      · rw [if_neg (ff b10)] at h
        refine ⟨fun b12 => ?_, fun b12 => ?_⟩
        · rw [if_pos b12] at h
          refine ⟨trivial, trivial, trivial, trivial, ?_⟩
          obtain rfl := Option.some.inj h
          exact ⟨trivial, trivial, rfl, rfl⟩
        · rw [if_neg (ff b12)] at h
          refine ⟨trivial, trivial, trivial, ?_⟩
          obtain rfl := Option.some.inj h
          exact ⟨trivial, trivial, rfl, rfl⟩
    · rw [if_neg (not_not_intro (bne_f b9))] at h
      refine ⟨fun b13 => ?_, fun b13 => ?_⟩
      · rw [if_pos b13] at h
        refine ⟨trivial, ?_⟩
        refine ⟨fun b14 => ?_, fun b14 => ?_⟩
        · rw [if_pos b14] at h
          refine ⟨trivial, trivial, trivial, trivial, ?_⟩
          obtain rfl := Option.some.inj h
          exact ⟨trivial, trivial, rfl, rfl⟩
        · rw [if_neg (ff b14)] at h
          refine ⟨trivial, trivial, trivial, ?_⟩
          obtain rfl := Option.some.inj h
          exact ⟨trivial, trivial, rfl, rfl⟩
      · rw [if_neg (ff b13)] at h
        refine ⟨fun b15 => ?_, fun b15 => ?_⟩
        · rw [if_pos b15] at h
          refine ⟨trivial, trivial, trivial, trivial, ?_⟩
          obtain rfl := Option.some.inj h
          exact ⟨trivial, trivial, rfl, rfl⟩
        · rw [if_neg (ff b15)] at h
          refine ⟨trivial, trivial, trivial, ?_⟩
          obtain rfl := Option.some.inj h
          exact ⟨trivial, trivial, rfl, rfl⟩
/-! halter/alu.sums -/
def alu_sums.f (a0 : Int) (a1 : Int) (a2 : Int) : Option (Int × Int) :=
  if a0 = (4 : Int) then
    none
  else
    if a0 = (6 : Int) then
      none
    else
      (word_Sub.f a1 a2).bind fun t3 =>
      if a0 = (16 : Int) then
        (alu_pair.f t3.1 t3.2.1 t3.2.2).bind fun t5 =>
        some (a1, t5)
      else
        (alu_pair.f t3.1 t3.2.1 t3.2.2).bind fun t6 =>
        some (t3.1, t6)
def alu_sums.R (r : Int × Int) : Tm := .tup [.one (.sc (.int .u32 r.1)), .one (.sc (.int .u32 r.2))]
theorem alu_sums.fun_ {a0 : Int} {a1 : Int} {a2 : Int} {r : Int × Int} (h : alu_sums.f a0 a1 a2 = some r) : Fun cfg 17 [.one (.sc (.int .i64 a0)), .one (.sc (.int .u32 a1)), .one (.sc (.int .u32 a2))] [] (alu_sums.R r) [] := by
  unfold alu_sums.f at h
  refine fun_of_run cfg_ok (f := 17) (fn := Tryd.f17) Tryd.func17 rfl (by kernel_rfl) (rs := [.tmp 6, .tmp 7]) rfl (nt := 63) rfl (l := fin) (k := (.br .nil (.br .nil (.call true [] (Int × Bool × Bool) word_Sub.R (fun t3 => (.br (.call true [] (Int) alu_pair.R (fun t5 => (aE 2 .nil))) (.call true [] (Int) alu_pair.R (fun t6 => (aE 2 .nil))))))))) (to_goal (q := (True) ∧ (((a0 == (4 : Int)) = true → False) ∧ ((a0 == (4 : Int)) = false → (True) ∧ (((a0 == (6 : Int)) = true → False) ∧ ((a0 == (6 : Int)) = false → (∃ t3 : Int × Bool × Bool, (Fun cfg 45 [.one (.sc (.int .u32 a1)), .one (.sc (.int .u32 a2))] [] (word_Sub.R t3) [] ∧ True) ∧ (True) ∧ (((a0 == (16 : Int)) = true → (∃ t5 : Int, (Fun cfg 19 [.one (.sc (.int .u32 t3.1)), .one (.sc (.bool t3.2.1)), .one (.sc (.bool (z2 t3)))] [] (alu_pair.R t5) [] ∧ True) ∧ (True ∧ ((True) ∧ (True) ∧ (.tup [.one (.sc (.int .u32 a1)), .one (.sc (.int .u32 t5))] : Tm) = alu_sums.R r ∧ ([] : List Box) = [])))) ∧ ((a0 == (16 : Int)) = false → (∃ t6 : Int, (Fun cfg 19 [.one (.sc (.int .u32 t3.1)), .one (.sc (.bool t3.2.1)), .one (.sc (.bool (z2 t3)))] [] (alu_pair.R t6) [] ∧ True) ∧ (True ∧ ((True) ∧ (True) ∧ (.tup [.one (.sc (.int .u32 t3.1)), .one (.sc (.int .u32 t6))] : Tm) = alu_sums.R r ∧ ([] : List Box) = []))))))))))) (by kernel_rfl) ?_)
  refine ⟨trivial, ?_⟩
  refine ⟨fun b1 => ?_, fun b1 => ?_⟩
  · rw [if_pos (beq_t b1)] at h
    cases h
  · rw [if_neg (beq_f b1)] at h
    refine ⟨trivial, ?_⟩
    refine ⟨fun b2 => ?_, fun b2 => ?_⟩
    · rw [if_pos (beq_t b2)] at h
      cases h
    · rw [if_neg (beq_f b2)] at h
      obtain ⟨t3, ht3, h⟩ := of_bind h
      refine ⟨t3, ⟨word_Sub.fun_ ht3, trivial⟩, ?_⟩
      refine ⟨trivial, ?_⟩
      refine ⟨fun b4 => ?_, fun b4 => ?_⟩
      · rw [if_pos (beq_t b4)] at h
        obtain ⟨t5, ht5, h⟩ := of_bind h
        refine ⟨t5, ⟨alu_pair.fun_ ht5, trivial⟩, ?_⟩
        refine ⟨trivial, ?_⟩
        obtain rfl := Option.some.inj h
        exact ⟨trivial, trivial, rfl, rfl⟩
      · rw [if_neg (beq_f b4)] at h
        obtain ⟨t6, ht6, h⟩ := of_bind h
        refine ⟨t6, ⟨alu_pair.fun_ ht6, trivial⟩, ?_⟩
        refine ⟨trivial, ?_⟩
        obtain rfl := Option.some.inj h
        exact ⟨trivial, trivial, rfl, rfl⟩
/-! halter/alu.Do -/
def alu_Do.f (a0 : Int) (a1 : Int) (a2 : Int) (a3 : Int) : Option (Int × Int × (Option Int)) :=
  if a0 = (4 : Int) then
    (alu_sums.f a0 a1 a2).bind fun t2 =>
    some (t2.1, (bits .or .u32 t2.2 (bits .and .u32 a3 (16 : Int))), none)
  else
    if a0 = (5 : Int) then
      (alu_sums.f a0 a1 a2).bind fun t4 =>
      some (t4.1, (bits .or .u32 t4.2 (bits .and .u32 a3 (16 : Int))), none)
    else
      if a0 = (16 : Int) then
        (alu_sums.f a0 a1 a2).bind fun t6 =>
        some (t6.1, (bits .or .u32 t6.2 (bits .and .u32 a3 (16 : Int))), none)
      else
        if a0 = (6 : Int) then
          (alu_sums.f a0 a1 a2).bind fun t8 =>
          some (t8.1, (bits .or .u32 t8.2 (bits .and .u32 a3 (16 : Int))), none)
        else
          if a0 = (7 : Int) then
            none
          else
            if a0 = (8 : Int) then
              none
            else
              none
def alu_Do.R (r : Int × Int × (Option Int)) : Tm := .tup [.one (.sc (.int .u32 r.1)), .one (.sc (.int .u32 r.2.1)), .one (.err r.2.2)]
theorem alu_Do.fun_ {a0 : Int} {a1 : Int} {a2 : Int} {a3 : Int} {r : Int × Int × (Option Int)} (h : alu_Do.f a0 a1 a2 a3 = some r) : Fun cfg 7 [.one (.sc (.int .i64 a0)), .one (.sc (.int .u32 a1)), .one (.sc (.int .u32 a2)), .one (.sc (.int .u32 a3))] [] (alu_Do.R r) [] := by
  unfold alu_Do.f at h
  refine fun_of_run cfg_ok (f := 7) (fn := Tryd.f7) Tryd.func7 rfl (by kernel_rfl) (rs := [.tmp 8, .tmp 9, .tmp 10]) rfl (nt := 70) rfl (l := fin) (k := (.br (.one true (.call true [] (Int × Int) alu_sums.R (fun t2 => (aE 3 .nil)))) (.br (.one true (.call true [] (Int × Int) alu_sums.R (fun t4 => (aE 3 .nil)))) (.br (.one true (.call true [] (Int × Int) alu_sums.R (fun t6 => (aE 3 .nil)))) (.br (.call true [] (Int × Int) alu_sums.R (fun t8 => (aE 3 .nil))) (.br (.one true .nil) (.br .nil .nil))))))) (to_goal (q := (True) ∧ (True) ∧ (((a0 == (4 : Int)) = true → ((a0 == (4 : Int)) = true ∧ (∃ t2 : Int × Int, (Fun cfg 17 [.one (.sc (.int .i64 a0)), .one (.sc (.int .u32 a1)), .one (.sc (.int .u32 a2))] [] (alu_sums.R t2) [] ∧ True) ∧ (True ∧ (True) ∧ (True ∧ ((True) ∧ (True) ∧ (.tup [.one (.sc (.int .u32 t2.1)), .one (.sc (.int .u32 (bits .or .u32 t2.2 (bits .and .u32 a3 (16 : Int))))), .one (.err none)] : Tm) = alu_Do.R r ∧ ([] : List Box) = [])))))) ∧ ((a0 == (4 : Int)) = false → (True) ∧ (((a0 == (5 : Int)) = true → ((a0 == (5 : Int)) = true ∧ (∃ t4 : Int × Int, (Fun cfg 17 [.one (.sc (.int .i64 a0)), .one (.sc (.int .u32 a1)), .one (.sc (.int .u32 a2))] [] (alu_sums.R t4) [] ∧ True) ∧ (True ∧ (True) ∧ (True ∧ ((True) ∧ (True) ∧ (.tup [.one (.sc (.int .u32 t4.1)), .one (.sc (.int .u32 (bits .or .u32 t4.2 (bits .and .u32 a3 (16 : Int))))), .one (.err none)] : Tm) = alu_Do.R r ∧ ([] : List Box) = [])))))) ∧ ((a0 == (5 : Int)) = false → (True) ∧ (((a0 == (16 : Int)) = true → ((a0 == (16 : Int)) = true ∧ (∃ t6 : Int × Int, (Fun cfg 17 [.one (.sc (.int .i64 a0)), .one (.sc (.int .u32 a1)), .one (.sc (.int .u32 a2))] [] (alu_sums.R t6) [] ∧ True) ∧ (True ∧ (True) ∧ (True ∧ ((True) ∧ (True) ∧ (.tup [.one (.sc (.int .u32 t6.1)), .one (.sc (.int .u32 (bits .or .u32 t6.2 (bits .and .u32 a3 (16 : Int))))), .one (.err none)] : Tm) = alu_Do.R r ∧ ([] : List Box) = [])))))) ∧ ((a0 == (16 : Int)) = false → (True) ∧ (((a0 == (6 : Int)) = true → (∃ t8 : Int × Int, (Fun cfg 17 [.one (.sc (.int .i64 a0)), .one (.sc (.int .u32 a1)), .one (.sc (.int .u32 a2))] [] (alu_sums.R t8) [] ∧ True) ∧ (True ∧ (True) ∧ (True ∧ ((True) ∧ (True) ∧ (.tup [.one (.sc (.int .u32 t8.1)), .one (.sc (.int .u32 (bits .or .u32 t8.2 (bits .and .u32 a3 (16 : Int))))), .one (.err none)] : Tm) = alu_Do.R r ∧ ([] : List Box) = []))))) ∧ ((a0 == (6 : Int)) = false → (True) ∧ (((a0 == (7 : Int)) = true → ((a0 == (7 : Int)) = true ∧ False)) ∧ ((a0 == (7 : Int)) = false → (True) ∧ (((a0 == (8 : Int)) = true → False) ∧ ((a0 == (8 : Int)) = false → False))))))))))))) (by kernel_rfl) ?_)
  refine ⟨trivial, trivial, ?_⟩
  refine ⟨fun b1 => ?_, fun b1 => ?_⟩
  · rw [if_pos (beq_t b1)] at h
    refine ⟨b1, ?_⟩
    obtain ⟨t2, ht2, h⟩ := of_bind h
    refine ⟨t2, ⟨alu_sums.fun_ ht2, trivial⟩, ?_⟩
    refine ⟨trivial, trivial, trivial, ?_⟩
    obtain rfl := Option.some.inj h
    exact ⟨trivial, trivial, rfl, rfl⟩
  · rw [if_neg (beq_f b1)] at h
    refine ⟨trivial, ?_⟩
    refine ⟨fun b3 => ?_, fun b3 => ?_⟩
    · rw [if_pos (beq_t b3)] at h
      refine ⟨b3, ?_⟩
      obtain ⟨t4, ht4, h⟩ := of_bind h
      refine ⟨t4, ⟨alu_sums.fun_ ht4, trivial⟩, ?_⟩
      refine ⟨trivial, trivial, trivial, ?_⟩
      obtain rfl := Option.some.inj h
      exact ⟨trivial, trivial, rfl, rfl⟩
    · rw [if_neg (beq_f b3)] at h
      refine ⟨trivial, ?_⟩
      refine ⟨fun b5 => ?_, fun b5 => ?_⟩
      · rw [if_pos (beq_t b5)] at h
        refine ⟨b5, ?_⟩
        obtain ⟨t6, ht6, h⟩ := of_bind h
        refine ⟨t6, ⟨alu_sums.fun_ ht6, trivial⟩, ?_⟩
        refine ⟨trivial, trivial, trivial, ?_⟩
        obtain rfl := Option.some.inj h
        exact ⟨trivial, trivial, rfl, rfl⟩
      · rw [if_neg (beq_f b5)] at h
        refine ⟨trivial, ?_⟩
        refine ⟨fun b7 => ?_, fun b7 => ?_⟩
        · rw [if_pos (beq_t b7)] at h
          obtain ⟨t8, ht8, h⟩ := of_bind h
          refine ⟨t8, ⟨alu_sums.fun_ ht8, trivial⟩, ?_⟩
          refine ⟨trivial, trivial, trivial, ?_⟩
          obtain rfl := Option.some.inj h
          exact ⟨trivial, trivial, rfl, rfl⟩
        · rw [if_neg (beq_f b7)] at h
          refine ⟨trivial, ?_⟩
          refine ⟨fun b9 => ?_, fun b9 => ?_⟩
          · rw [if_pos (beq_t b9)] at h
            refine ⟨b9, ?_⟩
            cases h
          · rw [if_neg (beq_f b9)] at h
            refine ⟨trivial, ?_⟩
            refine ⟨fun b10 => ?_, fun b10 => ?_⟩
            · rw [if_pos (beq_t b10)] at h
              cases h
            · rw [if_neg (beq_f b10)] at h
              cases h
/-! halter/alu.Taken -/
def alu_Taken.f (a0 : Int) (a1 : Int) : Option (Bool × (Option Int)) :=
  if a0 = (21 : Int) then
    some (true, none)
  else
    if a0 = (22 : Int) then
      some (((bits .and .u32 a1 (1 : Int)) != (0 : Int)), none)
    else
      if a0 = (23 : Int) then
        some (((bits .and .u32 a1 (1 : Int)) == (0 : Int)), none)
      else
        if a0 = (24 : Int) then
          some ((!(((bits .and .u32 a1 (2 : Int)) != (0 : Int)) == ((bits .and .u32 a1 (8 : Int)) != (0 : Int)))), none)
        else
          if a0 = (25 : Int) then
            some ((!(!(((bits .and .u32 a1 (2 : Int)) != (0 : Int)) == ((bits .and .u32 a1 (8 : Int)) != (0 : Int))))), none)
          else
            if a0 = (26 : Int) then
              some (((bits .and .u32 a1 (4 : Int)) != (0 : Int)), none)
            else
              some (false, (some (22 : Int)))
def alu_Taken.R (r : Bool × (Option Int)) : Tm := .tup [.one (.sc (.bool r.1)), .one (.err r.2)]
theorem alu_Taken.fun_ {a0 : Int} {a1 : Int} {r : Bool × (Option Int)} (h : alu_Taken.f a0 a1 = some r) : Fun cfg 9 [.one (.sc (.int .i64 a0)), .one (.sc (.int .u32 a1))] [] (alu_Taken.R r) [] := by
  unfold alu_Taken.f at h
  refine fun_of_run cfg_ok (f := 9) (fn := Tryd.f9) Tryd.func9 rfl (by kernel_rfl) (rs := [.tmp 4, .tmp 5]) rfl (nt := 40) rfl (l := fin) (k := (.br (aE 3 .nil) (.br (aE 3 .nil) (.br (aE 3 .nil) (.br (aE 3 .nil) (.br (aE 3 .nil) (.br (aE 3 .nil) (aE 4 .nil)))))))) (to_goal (q := (True) ∧ (True) ∧ (True) ∧ (True) ∧ (True) ∧ (True) ∧ (((a0 == (21 : Int)) = true → (True ∧ (True ∧ ((True) ∧ (True) ∧ (.tup [.one (.sc (.bool true)), .one (.err none)] : Tm) = alu_Taken.R r ∧ ([] : List Box) = [])))) ∧ ((a0 == (21 : Int)) = false → (True) ∧ (((a0 == (22 : Int)) = true → (True ∧ (True) ∧ (True) ∧ (True ∧ ((True) ∧ (True) ∧ (.tup [.one (.sc (.bool ((bits .and .u32 a1 (1 : Int)) != (0 : Int)))), .one (.err none)] : Tm) = alu_Taken.R r ∧ ([] : List Box) = [])))) ∧ ((a0 == (22 : Int)) = false → (True) ∧ (((a0 == (23 : Int)) = true → (True ∧ (True) ∧ (True) ∧ (True ∧ ((True) ∧ (True) ∧ (.tup [.one (.sc (.bool ((bits .and .u32 a1 (1 : Int)) == (0 : Int)))), .one (.err none)] : Tm) = alu_Taken.R r ∧ ([] : List Box) = [])))) ∧ ((a0 == (23 : Int)) = false → (True) ∧ (((a0 == (24 : Int)) = true → (True ∧ (True ∧ ((True) ∧ (True) ∧ (.tup [.one (.sc (.bool (!(((bits .and .u32 a1 (2 : Int)) != (0 : Int)) == ((bits .and .u32 a1 (8 : Int)) != (0 : Int)))))), .one (.err none)] : Tm) = alu_Taken.R r ∧ ([] : List Box) = [])))) ∧ ((a0 == (24 : Int)) = false → (True) ∧ (((a0 == (25 : Int)) = true → (True ∧ (True ∧ ((True) ∧ (True) ∧ (.tup [.one (.sc (.bool (!(!(((bits .and .u32 a1 (2 : Int)) != (0 : Int)) == ((bits .and .u32 a1 (8 : Int)) != (0 : Int))))))), .one (.err none)] : Tm) = alu_Taken.R r ∧ ([] : List Box) = [])))) ∧ ((a0 == (25 : Int)) = false → (True) ∧ (((a0 == (26 : Int)) = true → (True ∧ (True) ∧ (True) ∧ (True ∧ ((True) ∧ (True) ∧ (.tup [.one (.sc (.bool ((bits .and .u32 a1 (4 : Int)) != (0 : Int)))), .one (.err none)] : Tm) = alu_Taken.R r ∧ ([] : List Box) = [])))) ∧ ((a0 == (26 : Int)) = false → (True ∧ (True ∧ (True ∧ ((True) ∧ (True) ∧ (.tup [.one (.sc (.bool false)), .one (.err (some (22 : Int)))] : Tm) = alu_Taken.R r ∧ ([] : List Box) = []))))))))))))))))) (by kernel_rfl) ?_)
  refine ⟨trivial, trivial, trivial, trivial, trivial, trivial, ?_⟩
  refine ⟨fun b1 => ?_, fun b1 => ?_⟩
  · rw [if_pos (beq_t b1)] at h
    refine ⟨trivial, trivial, ?_⟩
    obtain rfl := Option.some.inj h
    exact ⟨trivial, trivial, rfl, rfl⟩
  · rw [if_neg (beq_f b1)] at h
    refine ⟨trivial, ?_⟩
    refine ⟨fun b2 => ?_, fun b2 => ?_⟩
    · rw [if_pos (beq_t b2)] at h
      refine ⟨trivial, trivial, trivial, trivial, ?_⟩
      obtain rfl := Option.some.inj h
      exact ⟨trivial, trivial, rfl, rfl⟩
    · rw [if_neg (beq_f b2)] at h
      refine ⟨trivial, ?_⟩
      refine ⟨fun b3 => ?_, fun b3 => ?_⟩
      · rw [if_pos (beq_t b3)] at h
        refine ⟨trivial, trivial, trivial, trivial, ?_⟩
        obtain rfl := Option.some.inj h
        exact ⟨trivial, trivial, rfl, rfl⟩
      · rw [if_neg (beq_f b3)] at h
        refine ⟨trivial, ?_⟩
        refine ⟨fun b4 => ?_, fun b4 => ?_⟩
        · rw [if_pos (beq_t b4)] at h
          refine ⟨trivial, trivial, ?_⟩
          obtain rfl := Option.some.inj h
          exact ⟨trivial, trivial, rfl, rfl⟩
        · rw [if_neg (beq_f b4)] at h
          refine ⟨trivial, ?_⟩
          refine ⟨fun b5 => ?_, fun b5 => ?_⟩
          · rw [if_pos (beq_t b5)] at h
            refine ⟨trivial, trivial, ?_⟩
            obtain rfl := Option.some.inj h
            exact ⟨trivial, trivial, rfl, rfl⟩
          · rw [if_neg (beq_f b5)] at h
            refine ⟨trivial, ?_⟩
            refine ⟨fun b6 => ?_, fun b6 => ?_⟩
            · rw [if_pos (beq_t b6)] at h
              refine ⟨trivial, trivial, trivial, trivial, ?_⟩
              obtain rfl := Option.some.inj h
              exact ⟨trivial, trivial, rfl, rfl⟩
            · rw [if_neg (beq_f b6)] at h
              refine ⟨trivial, trivial, trivial, ?_⟩
              obtain rfl := Option.some.inj h
              exact ⟨trivial, trivial, rfl, rfl⟩
/-! halter/halterlaw11.sure -/
def halterlaw11_sure.f : Option Bool :=
  (alu_Do.f (16 : Int) (5 : Int) (5 : Int) (16 : Int)).bind fun t1 =>
  (alu_Float.f (36 : Int) (4607182418800017408 : Int) (0 : Int)).bind fun t2 =>
  (alu_Taken.f (22 : Int) t1.2.1).bind fun t3 =>
  if t1.2.2 = none then
    if t2.2 = none then
      if t3.2 = none then
        if t1.1 = (5 : Int) then
          if t1.2.1 = (17 : Int) then
            if t2.1 = (9218868437227405312 : Int) then
              if t3.1 = true then
                (alu_Cmp.f (0 : Int) (1 : Int) (0 : Int)).bind fun t11 =>
                some (t11 == (2 : Int))
              else
                some false
            else
              some false
          else
            some false
        else
          some false
      else
        some false
    else
      some false
  else
    some false
def halterlaw11_sure.R (r : Bool) : Tm := .v (.one (.sc (.bool r)))
theorem halterlaw11_sure.fun_ {r : Bool} (h : halterlaw11_sure.f = some r) : Fun cfg 12 [] [] (halterlaw11_sure.R r) [] := by
  unfold halterlaw11_sure.f at h
  refine fun_of_run cfg_ok (f := 12) (fn := Tryd.f12) Tryd.func12 rfl (by kernel_rfl) (rs := [.tmp 0]) rfl (nt := 51) rfl (l := fin) (k := (.call true [] (Int × Int × (Option Int)) alu_Do.R (fun t1 => (.call true [] (Int × (Option Int)) alu_Float.R (fun t2 => (.call true [] (Bool × (Option Int)) alu_Taken.R (fun t3 => (.br (oT 2 (.br (oT 2 (.br (oT 2 (.br (oT 2 (.br (oT 2 (.br (.one true (.br (.call true [] (Int) alu_Cmp.R (fun t11 => (oT 2 (aE 2 .nil)))) (oF 2 (aE 2 .nil)))) (oF 4 (aE 2 .nil)))) (oF 7 (aE 2 .nil)))) (oF 10 (aE 2 .nil)))) (oF 13 (aE 2 .nil)))) (oF 16 (aE 2 .nil)))) (oF 19 (aE 2 .nil)))))))))) (to_goal (q := (∃ t1 : Int × Int × (Option Int), (Fun cfg 7 [.one (.sc (.int .i64 (16 : Int))), .one (.sc (.int .u32 (5 : Int))), .one (.sc (.int .u32 (5 : Int))), .one (.sc (.int .u32 (16 : Int)))] [] (alu_Do.R t1) [] ∧ True) ∧ (∃ t2 : Int × (Option Int), (Fun cfg 13 [.one (.sc (.int .i64 (36 : Int))), .one (.sc (.int .u64 (4607182418800017408 : Int))), .one (.sc (.int .u64 (0 : Int)))] [] (alu_Float.R t2) [] ∧ True) ∧ (∃ t3 : Bool × (Option Int), (Fun cfg 9 [.one (.sc (.int .i64 (22 : Int))), .one (.sc (.int .u32 t1.2.1))] [] (alu_Taken.R t3) [] ∧ True) ∧ (True) ∧ (((Option.isNone (z2 t1)) = true → ((Option.isNone (z2 t1)) = true ∧ (True) ∧ ((Option.isNone (z2 t1)) = true ∧ (((Option.isNone t2.2) = true → ((Option.isNone t2.2) = true ∧ (True) ∧ ((Option.isNone t2.2) = true ∧ (((Option.isNone t3.2) = true → ((Option.isNone t3.2) = true ∧ (True) ∧ ((Option.isNone t3.2) = true ∧ (((t1.1 == (5 : Int)) = true → ((t1.1 == (5 : Int)) = true ∧ (True) ∧ ((t1.1 == (5 : Int)) = true ∧ (((t1.2.1 == (17 : Int)) = true → ((t1.2.1 == (17 : Int)) = true ∧ (True) ∧ ((t1.2.1 == (17 : Int)) = true ∧ (((t2.1 == (9218868437227405312 : Int)) = true → ((t2.1 == (9218868437227405312 : Int)) = true ∧ ((t3.1 = true → (∃ t11 : Int, (Fun cfg 15 [.one (.sc (.int .u64 (0 : Int))), .one (.sc (.int .u64 (1 : Int))), .one (.sc (.int .u32 (0 : Int)))] [] (alu_Cmp.R t11) [] ∧ True) ∧ (t3.1 = true ∧ (True) ∧ (t3.1 = true ∧ (True ∧ ((True) ∧ (True) ∧ (.v (.one (.sc (.bool (t11 == (2 : Int))))) : Tm) = halterlaw11_sure.R r ∧ ([] : List Box) = [])))))) ∧ (t3.1 = false → (t3.1 = false ∧ (t3.1 = false ∧ (True ∧ ((True) ∧ (True) ∧ (.v (.one (.sc (.bool false))) : Tm) = halterlaw11_sure.R r ∧ ([] : List Box) = [])))))))) ∧ ((t2.1 == (9218868437227405312 : Int)) = false → ((t2.1 == (9218868437227405312 : Int)) = false ∧ (false = false ∧ (false = false ∧ (false = false ∧ (True ∧ ((True) ∧ (True) ∧ (.v (.one (.sc (.bool false))) : Tm) = halterlaw11_sure.R r ∧ ([] : List Box) = []))))))))))) ∧ ((t1.2.1 == (17 : Int)) = false → ((t1.2.1 == (17 : Int)) = false ∧ ((t1.2.1 == (17 : Int)) = false ∧ (false = false ∧ (false = false ∧ (false = false ∧ (false = false ∧ (false = false ∧ (True ∧ ((True) ∧ (True) ∧ (.v (.one (.sc (.bool false))) : Tm) = halterlaw11_sure.R r ∧ ([] : List Box) = [])))))))))))))) ∧ ((t1.1 == (5 : Int)) = false → ((t1.1 == (5 : Int)) = false ∧ ((t1.1 == (5 : Int)) = false ∧ (false = false ∧ (false = false ∧ (false = false ∧ (false = false ∧ (false = false ∧ (false = false ∧ (false = false ∧ (false = false ∧ (True ∧ ((True) ∧ (True) ∧ (.v (.one (.sc (.bool false))) : Tm) = halterlaw11_sure.R r ∧ ([] : List Box) = []))))))))))))))))) ∧ ((Option.isNone t3.2) = false → ((Option.isNone t3.2) = false ∧ ((Option.isNone t3.2) = false ∧ (false = false ∧ (false = false ∧ (false = false ∧ (false = false ∧ (false = false ∧ (false = false ∧ (false = false ∧ (false = false ∧ (false = false ∧ (false = false ∧ (false = false ∧ (True ∧ ((True) ∧ (True) ∧ (.v (.one (.sc (.bool false))) : Tm) = halterlaw11_sure.R r ∧ ([] : List Box) = [])))))))))))))))))))) ∧ ((Option.isNone t2.2) = false → ((Option.isNone t2.2) = false ∧ ((Option.isNone t2.2) = false ∧ (false = false ∧ (false = false ∧ (false = false ∧ (false = false ∧ (false = false ∧ (false = false ∧ (false = false ∧ (false = false ∧ (false = false ∧ (false = false ∧ (false = false ∧ (false = false ∧ (false = false ∧ (false = false ∧ (True ∧ ((True) ∧ (True) ∧ (.v (.one (.sc (.bool false))) : Tm) = halterlaw11_sure.R r ∧ ([] : List Box) = []))))))))))))))))))))))) ∧ ((Option.isNone (z2 t1)) = false → ((Option.isNone (z2 t1)) = false ∧ ((Option.isNone (z2 t1)) = false ∧ (false = false ∧ (false = false ∧ (false = false ∧ (false = false ∧ (false = false ∧ (false = false ∧ (false = false ∧ (false = false ∧ (false = false ∧ (false = false ∧ (false = false ∧ (false = false ∧ (false = false ∧ (false = false ∧ (false = false ∧ (false = false ∧ (false = false ∧ (True ∧ ((True) ∧ (True) ∧ (.v (.one (.sc (.bool false))) : Tm) = halterlaw11_sure.R r ∧ ([] : List Box) = []))))))))))))))))))))))))))) (by kernel_rfl) ?_)
  obtain ⟨t1, ht1, h⟩ := of_bind h
  refine ⟨t1, ⟨alu_Do.fun_ ht1, trivial⟩, ?_⟩
  obtain ⟨t2, ht2, h⟩ := of_bind h
  refine ⟨t2, ⟨alu_Float.fun_ ht2, trivial⟩, ?_⟩
  obtain ⟨t3, ht3, h⟩ := of_bind h
  refine ⟨t3, ⟨alu_Taken.fun_ ht3, trivial⟩, ?_⟩
  refine ⟨trivial, ?_⟩
  refine ⟨fun b4 => ?_, fun b4 => ?_⟩
  · rw [if_pos (none_t b4)] at h
    refine ⟨b4, ?_⟩
    refine ⟨trivial, ?_⟩
    refine ⟨b4, ?_⟩
    refine ⟨fun b5 => ?_, fun b5 => ?_⟩
    · rw [if_pos (none_t b5)] at h
      refine ⟨b5, ?_⟩
      refine ⟨trivial, ?_⟩
      refine ⟨b5, ?_⟩
      refine ⟨fun b6 => ?_, fun b6 => ?_⟩
      · rw [if_pos (none_t b6)] at h
        refine ⟨b6, ?_⟩
        refine ⟨trivial, ?_⟩
        refine ⟨b6, ?_⟩
        refine ⟨fun b7 => ?_, fun b7 => ?_⟩
        · rw [if_pos (beq_t b7)] at h
          refine ⟨b7, ?_⟩
          refine ⟨trivial, ?_⟩
          refine ⟨b7, ?_⟩
          refine ⟨fun b8 => ?_, fun b8 => ?_⟩
          · rw [if_pos (beq_t b8)] at h
            refine ⟨b8, ?_⟩
            refine ⟨trivial, ?_⟩
            refine ⟨b8, ?_⟩
            refine ⟨fun b9 => ?_, fun b9 => ?_⟩
            · rw [if_pos (beq_t b9)] at h
              refine ⟨b9, ?_⟩
              refine ⟨fun b10 => ?_, fun b10 => ?_⟩
              · rw [if_pos b10] at h
                obtain ⟨t11, ht11, h⟩ := of_bind h
                refine ⟨t11, ⟨alu_Cmp.fun_ ht11, trivial⟩, ?_⟩
                refine ⟨b10, ?_⟩
                refine ⟨trivial, ?_⟩
                refine ⟨b10, ?_⟩
                refine ⟨trivial, ?_⟩
                obtain rfl := Option.some.inj h
                exact ⟨trivial, trivial, rfl, rfl⟩
              · rw [if_neg (ff b10)] at h
                refine ⟨b10, ?_⟩
                refine ⟨b10, ?_⟩
                refine ⟨trivial, ?_⟩
                obtain rfl := Option.some.inj h
                exact ⟨trivial, trivial, rfl, rfl⟩
            · rw [if_neg (beq_f b9)] at h
              refine ⟨b9, ?_⟩
              refine ⟨rfl, rfl, rfl, trivial, ?_⟩
              obtain rfl := Option.some.inj h
              exact ⟨trivial, trivial, rfl, rfl⟩
          · rw [if_neg (beq_f b8)] at h
            refine ⟨b8, ?_⟩
            refine ⟨b8, ?_⟩
            refine ⟨rfl, rfl, rfl, rfl, rfl, trivial, ?_⟩
            obtain rfl := Option.some.inj h
            exact ⟨trivial, trivial, rfl, rfl⟩
        · rw [if_neg (beq_f b7)] at h
          refine ⟨b7, ?_⟩
          refine ⟨b7, ?_⟩
          refine ⟨rfl, rfl, rfl, rfl, rfl, rfl, rfl, rfl, trivial, ?_⟩
          obtain rfl := Option.some.inj h
          exact ⟨trivial, trivial, rfl, rfl⟩
      · rw [if_neg (none_f b6)] at h
        refine ⟨b6, ?_⟩
        refine ⟨b6, ?_⟩
        refine ⟨rfl, rfl, rfl, rfl, rfl, rfl, rfl, rfl, rfl, rfl, rfl, trivial, ?_⟩
        obtain rfl := Option.some.inj h
        exact ⟨trivial, trivial, rfl, rfl⟩
    · rw [if_neg (none_f b5)] at h
      refine ⟨b5, ?_⟩
      refine ⟨b5, ?_⟩
      refine ⟨rfl, rfl, rfl, rfl, rfl, rfl, rfl, rfl, rfl, rfl, rfl, rfl, rfl, rfl, trivial, ?_⟩
      obtain rfl := Option.some.inj h
      exact ⟨trivial, trivial, rfl, rfl⟩
  · rw [if_neg (none_f b4)] at h
    refine ⟨b4, ?_⟩
    refine ⟨b4, ?_⟩
    refine ⟨rfl, rfl, rfl, rfl, rfl, rfl, rfl, rfl, rfl, rfl, rfl, rfl, rfl, rfl, rfl, rfl, rfl, trivial, ?_⟩
    obtain rfl := Option.some.inj h
    exact ⟨trivial, trivial, rfl, rfl⟩
/-! halter/halterlaw11.AluFloats -/
def halterlaw11_AluFloats.f (a0 : Int) (a1 : (List Int)) (a2 : Int) : Option Bool :=
  (alu_Float.f a0 (List.getD a1 0 (0 : Int)) (List.getD a1 1 (0 : Int))).bind fun t1 =>
  (halterref11_Float.f a0 (List.getD a1 0 (0 : Int)) (List.getD a1 1 (0 : Int))).bind fun t2 =>
  if t1.1 = t2.1 then
    (num.f t1.2).bind fun t4 =>
    if t4 = t2.2 then
      (alu_Cmp.f (List.getD a1 0 (0 : Int)) (List.getD a1 1 (0 : Int)) a2).bind fun t6 =>
      (halterref11_Cmp.f (List.getD a1 0 (0 : Int)) (List.getD a1 1 (0 : Int)) a2).bind fun t7 =>
      if t6 = t7 then
        halterlaw11_sure.f.bind fun t9 =>
        some t9
      else
        some false
    else
      some false
  else
    some false
def halterlaw11_AluFloats.R (r : Bool) : Tm := .v (.one (.sc (.bool r)))
theorem halterlaw11_AluFloats.fun_ {a0 : Int} {a1 : (List Int)} {a2 : Int} {r : Bool} (h : halterlaw11_AluFloats.f a0 a1 a2 = some r) : Fun cfg 4 [.one (.sc (.int .i64 a0)), .agg [.row 2 (.int .u64) a1], .one (.sc (.int .u32 a2))] [] (halterlaw11_AluFloats.R r) [] := by
  unfold halterlaw11_AluFloats.f at h
  refine fun_of_run cfg_ok (f := 4) (fn := Tryd.f4) Tryd.func4 rfl (by kernel_rfl) (rs := [.tmp 6]) rfl (nt := 56) rfl (l := fin) (k := (.call true [] (Int × (Option Int)) alu_Float.R (fun t1 => (.call true [] (Int × Int) halterref11_Float.R (fun t2 => (.emb (t1.1 == t2.1) (.ex (Int) (fun t4 => (.emb (t4 == t2.2) (.ex (Int) (fun t6 => (.ex (Int) (fun t7 => (.emb (t6 == t7) (.ex (Bool) (fun t9 => (.dr [(0, dN), (1, dN), (2, dN), (3, dN), (4, dT), (5, ⟨(some true), .callP true [] (num.R t4), false⟩), (6, dT), (7, dT), (8, d1), (9, dN), (10, dT), (12, dT), (14, dT), (16, dT), (18, dT), (20, dT), (11, dT), (13, dT), (15, ⟨(some true), .callP true [] (alu_Cmp.R t6), false⟩), (17, dT), (19, dT), (21, ⟨(some true), .callP true [] (halterref11_Cmp.R t7), false⟩), (22, dT), (23, d1), (24, dN), (25, ⟨(some true), .callP true [] (halterlaw11_sure.R t9), false⟩), (26, d1), (27, dN)] (.adj [] (.adj [.drop 0] .nil))))) (.dr [(0, dN), (1, dN), (2, dN), (3, dN), (4, dT), (5, ⟨(some true), .callP true [] (num.R t4), false⟩), (6, dT), (7, dT), (8, d1), (9, dN), (10, dT), (12, dT), (14, dT), (16, dT), (18, dT), (20, dT), (11, dT), (13, dT), (15, ⟨(some true), .callP true [] (alu_Cmp.R t6), false⟩), (17, dT), (19, dT), (21, ⟨(some true), .callP true [] (halterref11_Cmp.R t7), false⟩), (22, dT), (23, d1), (24, dN), (25, dC), (26, d0), (27, dN)] (.adj [] (.adj [.drop 0] .nil)))))))) (.dr [(0, dN), (1, dN), (2, dN), (3, dN), (4, dT), (5, ⟨(some true), .callP true [] (num.R t4), false⟩), (6, dT), (7, dT), (8, d1), (9, dN), (10, dF), (12, dF), (14, dF), (16, dF), (18, dF), (20, dF), (11, dF), (13, dF), (15, dC), (17, dF), (19, dF), (21, dC), (22, dF), (23, d0), (24, dN), (25, dC), (26, d0), (27, dN)] (.adj [] (.adj [.drop 0] .nil)))))) (.dr [(0, dN), (1, dN), (2, dN), (3, dN), (4, dF), (5, dC), (6, dF), (7, dF), (8, d0), (9, dN), (10, dF), (12, dF), (14, dF), (16, dF), (18, dF), (20, dF), (11, dF), (13, dF), (15, dC), (17, dF), (19, dF), (21, dC), (22, dF), (23, d0), (24, dN), (25, dC), (26, d0), (27, dN)] (.adj [] (.adj [.drop 0] .nil))))))))) (to_goal (q := (0 ≤ (0 : Int) ∧ (0 : Int) < ((2 : Nat) : Int)) ∧ (0 < 2) ∧ (0 ≤ (1 : Int) ∧ (1 : Int) < ((2 : Nat) : Int)) ∧ (1 < 2) ∧ (∃ t1 : Int × (Option Int), (Fun cfg 13 [.one (.sc (.int .i64 a0)), .one (.sc (.int .u64 (List.getD a1 0 (0 : Int)))), .one (.sc (.int .u64 (List.getD a1 1 (0 : Int))))] [] (alu_Float.R t1) [] ∧ True) ∧ (0 ≤ (0 : Int) ∧ (0 : Int) < ((2 : Nat) : Int)) ∧ (0 < 2) ∧ (0 ≤ (1 : Int) ∧ (1 : Int) < ((2 : Nat) : Int)) ∧ (1 < 2) ∧ (∃ t2 : Int × Int, (Fun cfg 14 [.one (.sc (.int .i64 a0)), .one (.sc (.int .u64 (List.getD a1 0 (0 : Int)))), .one (.sc (.int .u64 (List.getD a1 1 (0 : Int))))] [] (halterref11_Float.R t2) [] ∧ True) ∧ (((t1.1 == t2.1) = true → (∃ t4 : Int, (((t4 == t2.2) = true → (∃ t6 : Int, (∃ t7 : Int, (((t6 == t7) = true → (∃ t9 : Bool, (True) ∧ ((t1.1 == t2.1) = true ∧ True) ∧ ((t1.1 == t2.1) = true ∧ Fun cfg 11 [.one (.err t1.2)] [] (num.R t4) [] ∧ True) ∧ ((t1.1 == t2.1) = true ∧ True) ∧ ((t1.1 == t2.1) = true ∧ True) ∧ ((t1.1 == t2.1) = true) ∧ ((t4 == t2.2) = true ∧ 0 ≤ (0 : Int) ∧ (0 : Int) < ((2 : Nat) : Int)) ∧ ((t4 == t2.2) = true ∧ 0 ≤ (1 : Int) ∧ (1 : Int) < ((2 : Nat) : Int)) ∧ ((t4 == t2.2) = true ∧ True) ∧ ((t4 == t2.2) = true ∧ 0 ≤ (0 : Int) ∧ (0 : Int) < ((2 : Nat) : Int)) ∧ ((t4 == t2.2) = true ∧ 0 ≤ (1 : Int) ∧ (1 : Int) < ((2 : Nat) : Int)) ∧ ((t4 == t2.2) = true ∧ True) ∧ ((t4 == t2.2) = true ∧ 0 < 2) ∧ ((t4 == t2.2) = true ∧ 1 < 2) ∧ ((t4 == t2.2) = true ∧ Fun cfg 15 [.one (.sc (.int .u64 (List.getD a1 0 (0 : Int)))), .one (.sc (.int .u64 (List.getD a1 1 (0 : Int)))), .one (.sc (.int .u32 a2))] [] (alu_Cmp.R t6) [] ∧ True) ∧ ((t4 == t2.2) = true ∧ 0 < 2) ∧ ((t4 == t2.2) = true ∧ 1 < 2) ∧ ((t4 == t2.2) = true ∧ Fun cfg 16 [.one (.sc (.int .u64 (List.getD a1 0 (0 : Int)))), .one (.sc (.int .u64 (List.getD a1 1 (0 : Int)))), .one (.sc (.int .u32 a2))] [] (halterref11_Cmp.R t7) [] ∧ True) ∧ ((t4 == t2.2) = true ∧ True) ∧ ((t4 == t2.2) = true) ∧ ((t6 == t7) = true ∧ Fun cfg 12 [] [] (halterlaw11_sure.R t9) [] ∧ True) ∧ ((t6 == t7) = true) ∧ (True ∧ ((True) ∧ ((True) ∧ True) ∧ (.v (.one (.sc (.bool t9))) : Tm) = halterlaw11_AluFloats.R r ∧ ([] : List Box) = [])))) ∧ ((t6 == t7) = false → (True) ∧ ((t1.1 == t2.1) = true ∧ True) ∧ ((t1.1 == t2.1) = true ∧ Fun cfg 11 [.one (.err t1.2)] [] (num.R t4) [] ∧ True) ∧ ((t1.1 == t2.1) = true ∧ True) ∧ ((t1.1 == t2.1) = true ∧ True) ∧ ((t1.1 == t2.1) = true) ∧ ((t4 == t2.2) = true ∧ 0 ≤ (0 : Int) ∧ (0 : Int) < ((2 : Nat) : Int)) ∧ ((t4 == t2.2) = true ∧ 0 ≤ (1 : Int) ∧ (1 : Int) < ((2 : Nat) : Int)) ∧ ((t4 == t2.2) = true ∧ True) ∧ ((t4 == t2.2) = true ∧ 0 ≤ (0 : Int) ∧ (0 : Int) < ((2 : Nat) : Int)) ∧ ((t4 == t2.2) = true ∧ 0 ≤ (1 : Int) ∧ (1 : Int) < ((2 : Nat) : Int)) ∧ ((t4 == t2.2) = true ∧ True) ∧ ((t4 == t2.2) = true ∧ 0 < 2) ∧ ((t4 == t2.2) = true ∧ 1 < 2) ∧ ((t4 == t2.2) = true ∧ Fun cfg 15 [.one (.sc (.int .u64 (List.getD a1 0 (0 : Int)))), .one (.sc (.int .u64 (List.getD a1 1 (0 : Int)))), .one (.sc (.int .u32 a2))] [] (alu_Cmp.R t6) [] ∧ True) ∧ ((t4 == t2.2) = true ∧ 0 < 2) ∧ ((t4 == t2.2) = true ∧ 1 < 2) ∧ ((t4 == t2.2) = true ∧ Fun cfg 16 [.one (.sc (.int .u64 (List.getD a1 0 (0 : Int)))), .one (.sc (.int .u64 (List.getD a1 1 (0 : Int)))), .one (.sc (.int .u32 a2))] [] (halterref11_Cmp.R t7) [] ∧ True) ∧ ((t4 == t2.2) = true ∧ True) ∧ ((t4 == t2.2) = true) ∧ ((t6 == t7) = false) ∧ ((t6 == t7) = false) ∧ (True ∧ ((True) ∧ ((True) ∧ True) ∧ (.v (.one (.sc (.bool false))) : Tm) = halterlaw11_AluFloats.R r ∧ ([] : List Box) = []))))))) ∧ ((t4 == t2.2) = false → (True) ∧ ((t1.1 == t2.1) = true ∧ True) ∧ ((t1.1 == t2.1) = true ∧ Fun cfg 11 [.one (.err t1.2)] [] (num.R t4) [] ∧ True) ∧ ((t1.1 == t2.1) = true ∧ True) ∧ ((t1.1 == t2.1) = true ∧ True) ∧ ((t1.1 == t2.1) = true) ∧ ((t4 == t2.2) = false) ∧ ((t4 == t2.2) = false) ∧ ((t4 == t2.2) = false) ∧ ((t4 == t2.2) = false) ∧ ((t4 == t2.2) = false) ∧ ((t4 == t2.2) = false) ∧ ((t4 == t2.2) = false) ∧ ((t4 == t2.2) = false) ∧ ((t4 == t2.2) = false) ∧ ((t4 == t2.2) = false) ∧ ((t4 == t2.2) = false) ∧ ((t4 == t2.2) = false) ∧ ((t4 == t2.2) = false) ∧ ((t4 == t2.2) = false) ∧ (false = false) ∧ (false = false) ∧ (True ∧ ((True) ∧ ((True) ∧ True) ∧ (.v (.one (.sc (.bool false))) : Tm) = halterlaw11_AluFloats.R r ∧ ([] : List Box) = [])))))) ∧ ((t1.1 == t2.1) = false → (True) ∧ ((t1.1 == t2.1) = false) ∧ ((t1.1 == t2.1) = false) ∧ ((t1.1 == t2.1) = false) ∧ ((t1.1 == t2.1) = false) ∧ ((t1.1 == t2.1) = false) ∧ (false = false) ∧ (false = false) ∧ (false = false) ∧ (false = false) ∧ (false = false) ∧ (false = false) ∧ (false = false) ∧ (false = false) ∧ (false = false) ∧ (false = false) ∧ (false = false) ∧ (false = false) ∧ (false = false) ∧ (false = false) ∧ (false = false) ∧ (false = false) ∧ (True ∧ ((True) ∧ ((True) ∧ True) ∧ (.v (.one (.sc (.bool false))) : Tm) = halterlaw11_AluFloats.R r ∧ ([] : List Box) = []))))))) (by kernel_rfl) ?_)
  refine ⟨(by decide), ?_⟩
  refine ⟨(by decide), ?_⟩
  refine ⟨(by decide), ?_⟩
  refine ⟨(by decide), ?_⟩
  obtain ⟨t1, ht1, h⟩ := of_bind h
  refine ⟨t1, ⟨alu_Float.fun_ ht1, trivial⟩, ?_⟩
  refine ⟨(by decide), ?_⟩
  refine ⟨(by decide), ?_⟩
  refine ⟨(by decide), ?_⟩
  refine ⟨(by decide), ?_⟩
  obtain ⟨t2, ht2, h⟩ := of_bind h
  refine ⟨t2, ⟨halterref11_Float.fun_ ht2, trivial⟩, ?_⟩
  refine ⟨fun b3 => ?_, fun b3 => ?_⟩
  · rw [if_pos (beq_t b3)] at h
    obtain ⟨t4, ht4, h⟩ := of_bind h
    refine ⟨t4, ?_⟩
    refine ⟨fun b5 => ?_, fun b5 => ?_⟩
    · rw [if_pos (beq_t b5)] at h
      obtain ⟨t6, ht6, h⟩ := of_bind h
      refine ⟨t6, ?_⟩
      obtain ⟨t7, ht7, h⟩ := of_bind h
      refine ⟨t7, ?_⟩
      refine ⟨fun b8 => ?_, fun b8 => ?_⟩
      · rw [if_pos (beq_t b8)] at h
        obtain ⟨t9, ht9, h⟩ := of_bind h
        refine ⟨t9, ?_⟩
        refine ⟨trivial, ⟨b3, trivial⟩, ⟨b3, ⟨num.fun_ ht4, trivial⟩⟩, ⟨b3, trivial⟩, ⟨b3, trivial⟩, b3, ⟨b5, (by decide)⟩, ⟨b5, (by decide)⟩, ⟨b5, trivial⟩, ⟨b5, (by decide)⟩, ⟨b5, (by decide)⟩, ⟨b5, trivial⟩, ⟨b5, (by decide)⟩, ⟨b5, (by decide)⟩, ⟨b5, ⟨alu_Cmp.fun_ ht6, trivial⟩⟩, ⟨b5, (by decide)⟩, ⟨b5, (by decide)⟩, ⟨b5, ⟨halterref11_Cmp.fun_ ht7, trivial⟩⟩, ⟨b5, trivial⟩, b5, ⟨b8, ⟨halterlaw11_sure.fun_ ht9, trivial⟩⟩, b8, ?_⟩
        refine ⟨trivial, ?_⟩
        obtain rfl := Option.some.inj h
        exact ⟨trivial, ⟨trivial, trivial⟩, rfl, rfl⟩
      · rw [if_neg (beq_f b8)] at h
        refine ⟨trivial, ⟨b3, trivial⟩, ⟨b3, ⟨num.fun_ ht4, trivial⟩⟩, ⟨b3, trivial⟩, ⟨b3, trivial⟩, b3, ⟨b5, (by decide)⟩, ⟨b5, (by decide)⟩, ⟨b5, trivial⟩, ⟨b5, (by decide)⟩, ⟨b5, (by decide)⟩, ⟨b5, trivial⟩, ⟨b5, (by decide)⟩, ⟨b5, (by decide)⟩, ⟨b5, ⟨alu_Cmp.fun_ ht6, trivial⟩⟩, ⟨b5, (by decide)⟩, ⟨b5, (by decide)⟩, ⟨b5, ⟨halterref11_Cmp.fun_ ht7, trivial⟩⟩, ⟨b5, trivial⟩, b5, b8, b8, ?_⟩
        refine ⟨trivial, ?_⟩
        obtain rfl := Option.some.inj h
        exact ⟨trivial, ⟨trivial, trivial⟩, rfl, rfl⟩
    · rw [if_neg (beq_f b5)] at h
      refine ⟨trivial, ⟨b3, trivial⟩, ⟨b3, ⟨num.fun_ ht4, trivial⟩⟩, ⟨b3, trivial⟩, ⟨b3, trivial⟩, b3, b5, b5, b5, b5, b5, b5, b5, b5, b5, b5, b5, b5, b5, b5, rfl, rfl, ?_⟩
      refine ⟨trivial, ?_⟩
      obtain rfl := Option.some.inj h
      exact ⟨trivial, ⟨trivial, trivial⟩, rfl, rfl⟩
  · rw [if_neg (beq_f b3)] at h
    refine ⟨trivial, b3, b3, b3, b3, b3, rfl, rfl, rfl, rfl, rfl, rfl, rfl, rfl, rfl, rfl, rfl, rfl, rfl, rfl, rfl, rfl, ?_⟩
    refine ⟨trivial, ?_⟩
    obtain rfl := Option.some.inj h
    exact ⟨trivial, ⟨trivial, trivial⟩, rfl, rfl⟩
end Go.Proofs.YtfoejbiifolnnaaDoorGAluFloats
