/- Printed by gen.py: the next part. -/
import Derived.Test.YtbnlochgbhcfnaaDoorGProcLettersp1
set_option linter.unusedVariables false
set_option maxRecDepth 100000
set_option maxHeartbeats 4000000
namespace Go.Proofs.YtbnlochgbhcfnaaDoorGProcLetters
open Go Go.Proofs.YtbnlochgbhcfnaaDoorE
theorem sig_Next.fun_ {a0 : Int} {a1 : Int} {a2 : (List Int)} {r : Int} (h : sig_Next.f a0 a1 a2 = some r) : Fun cfg 14 [.agg [.c (.sc (.int .u32 a0)), .c (.sc (.int .u32 a1)), .row 32 (.int .u32) a2]] [] (sig_Next.R r) [] := by
  unfold sig_Next.f at h
  refine fun_of_run cfg_ok (f := 14) (fn := Tryd.f14) Tryd.func14 rfl (by kernel_rfl) (rs := [.tmp 2]) rfl (nt := 21) rfl (l := fin) (k := (.adj [] (.adj [] (.adj [] (.adj [.keep [1, 5, 6]] (.alt (.sub (Unit) (fun _ => (.exit 0)) (fun t13 => ⟨[.any, .v (.one (.ptr 0 ⟨0, 0, 0, 0⟩)), .any, .any, .any, .any, .any, .any, .any, .any, .any, .any, .any, .any, .any, .any, .any, .any, .any, .any, .any], [.ex false [.c (.sc (.int .u32 a0)), .c (.sc (.int .u32 a1)), .row 32 (.int .u32) a2] 41], 0⟩) (fun t13 => (.call true [] (Int) (fun t14 => sigset_First.R t14) (fun t14 => (.adj [] (.adj [.drop 0] .nil)))))) (.sub (Int) (fun _ => .ret) (fun t15 => ⟨[.any, .any, .v (.one (.sc (.int .i64 t15))), .any, .any, .any, .any, .any, .any, .any, .any, .any, .any, .any, .any, .any, .any, .any, .any, .any, .any], [.ex false [.c (.sc (.int .u32 a0)), .c (.sc (.int .u32 a1)), .row 32 (.int .u32) a2] 41], 0⟩) (fun t15 => (.adj [.drop 0] .nil))))))))) (to_goal (q := (True ∧ (True ∧ (True ∧ (((True) ∧ True) ∧ ((∃ t13 : Unit, Trip cfg (.loop (cpath (Tryd.f14.body.getD .skip) [1, 0, 1, 0, 0])) ⟨[.any, .v (.one (.ptr 0 ⟨0, 0, 0, 0⟩)), .any, .any, .any, .v (.agg [.row 2 (.int .i64) [(9 : Int), (19 : Int)]]), .v (.one (.sc (.int .i64 (0 : Int)))), .any, .any, .any, .any, .any, .any, .any, .any, .any, .any, .any, .any, .any, .any], [.ex false [.c (.sc (.int .u32 a0)), .c (.sc (.int .u32 a1)), .row 32 (.int .u32) a2] 41], 0⟩ (fun e s => e = (.exit 0) ∧ s = ⟨[.any, .v (.one (.ptr 0 ⟨0, 0, 0, 0⟩)), .any, .any, .any, .any, .any, .any, .any, .any, .any, .any, .any, .any, .any, .any, .any, .any, .any, .any, .any], [.ex false [.c (.sc (.int .u32 a0)), .c (.sc (.int .u32 a1)), .row 32 (.int .u32) a2] 41], 0⟩) ∧ (True) ∧ (True) ∧ (True) ∧ (∃ t14 : Int, (Fun cfg 30 [.one (.sc (.int .u32 (bits .andNot .u32 a0 a1)))] [] (sigset_First.R t14) [] ∧ True) ∧ (True ∧ ((True) ∧ ((True) ∧ True) ∧ (.v (.one (.sc (.int .i64 t14))) : Tm) = sig_Next.R r ∧ ([] : List Box) = [])))) ∨ (∃ t15 : Int, Trip cfg (.loop (cpath (Tryd.f14.body.getD .skip) [1, 0, 1, 0, 0])) ⟨[.any, .v (.one (.ptr 0 ⟨0, 0, 0, 0⟩)), .any, .any, .any, .v (.agg [.row 2 (.int .i64) [(9 : Int), (19 : Int)]]), .v (.one (.sc (.int .i64 (0 : Int)))), .any, .any, .any, .any, .any, .any, .any, .any, .any, .any, .any, .any, .any, .any], [.ex false [.c (.sc (.int .u32 a0)), .c (.sc (.int .u32 a1)), .row 32 (.int .u32) a2] 41], 0⟩ (fun e s => e = .ret ∧ s = ⟨[.any, .any, .v (.one (.sc (.int .i64 t15))), .any, .any, .any, .any, .any, .any, .any, .any, .any, .any, .any, .any, .any, .any, .any, .any, .any, .any], [.ex false [.c (.sc (.int .u32 a0)), .c (.sc (.int .u32 a1)), .row 32 (.int .u32) a2] 41], 0⟩) ∧ ((True) ∧ ((True) ∧ True) ∧ (.v (.one (.sc (.int .i64 t15))) : Tm) = sig_Next.R r ∧ ([] : List Box) = [])))))))) (by kernel_rfl) ?_)
  refine ⟨trivial, ?_⟩
  refine ⟨trivial, ?_⟩
  refine ⟨trivial, ?_⟩
  obtain ⟨t7, ht7, h⟩ := of_bind h
  refine ⟨⟨trivial, trivial⟩, ?_⟩
  rcases t7 with t13 | t15
  · dsimp only at h
    left
    refine ⟨t13, Trip.loop FUEL (sig_Next.l0_ok a0 a1 a2 FUEL (0 : Int) (.inl t13) ht7), ?_⟩
    refine ⟨trivial, ?_⟩
    refine ⟨trivial, ?_⟩
    refine ⟨trivial, ?_⟩
    obtain ⟨t14, ht14, h⟩ := of_bind h
    refine ⟨t14, ⟨sigset_First.fun_ ht14, trivial⟩, ?_⟩
    refine ⟨trivial, ?_⟩
    obtain rfl := Option.some.inj h
    exact ⟨trivial, ⟨trivial, trivial⟩, rfl, rfl⟩
  · dsimp only at h
    right
    refine ⟨t15, Trip.loop FUEL (sig_Next.l0_ok a0 a1 a2 FUEL (0 : Int) (.inr t15) ht7), ?_⟩
    obtain rfl := Option.some.inj h
    exact ⟨trivial, ⟨trivial, trivial⟩, rfl, rfl⟩
/-! halter/halterlaw33.sure -/
def halterlaw33_sure.f : Option Bool :=
  (proc_First.f (1 : Int) (⟨#[105, 110, 105, 116]⟩ : ByteArray) (256 : Int)).bind fun t1 =>
  (proc_Answer.f t1.1 t1.2.1 t1.2.2.1 t1.2.2.2.1 t1.2.2.2.2.1 t1.2.2.2.2.2.1 t1.2.2.2.2.2.2.1 t1.2.2.2.2.2.2.2.1 t1.2.2.2.2.2.2.2.2.1 t1.2.2.2.2.2.2.2.2.2.1 t1.2.2.2.2.2.2.2.2.2.2.1 t1.2.2.2.2.2.2.2.2.2.2.2.1 t1.2.2.2.2.2.2.2.2.2.2.2.2.1 t1.2.2.2.2.2.2.2.2.2.2.2.2.2.1 t1.2.2.2.2.2.2.2.2.2.2.2.2.2.2.1 t1.2.2.2.2.2.2.2.2.2.2.2.2.2.2.2.1 t1.2.2.2.2.2.2.2.2.2.2.2.2.2.2.2.2.1 t1.2.2.2.2.2.2.2.2.2.2.2.2.2.2.2.2.2.1 t1.2.2.2.2.2.2.2.2.2.2.2.2.2.2.2.2.2.2.1 t1.2.2.2.2.2.2.2.2.2.2.2.2.2.2.2.2.2.2.2.1 t1.2.2.2.2.2.2.2.2.2.2.2.2.2.2.2.2.2.2.2.2.1 (7 : Int)).bind fun t2 =>
  (proc_Child.f t2.1 t2.2.1 t2.2.2.1 t2.2.2.2.1 t2.2.2.2.2.1 t2.2.2.2.2.2.1 t2.2.2.2.2.2.2.1 t2.2.2.2.2.2.2.2.1 t2.2.2.2.2.2.2.2.2.1 t2.2.2.2.2.2.2.2.2.2.1 t2.2.2.2.2.2.2.2.2.2.2.1 t2.2.2.2.2.2.2.2.2.2.2.2.1 t2.2.2.2.2.2.2.2.2.2.2.2.2.1 t2.2.2.2.2.2.2.2.2.2.2.2.2.2.1 t2.2.2.2.2.2.2.2.2.2.2.2.2.2.2.1 t2.2.2.2.2.2.2.2.2.2.2.2.2.2.2.2.1 t2.2.2.2.2.2.2.2.2.2.2.2.2.2.2.2.2.1 t2.2.2.2.2.2.2.2.2.2.2.2.2.2.2.2.2.2.1 t2.2.2.2.2.2.2.2.2.2.2.2.2.2.2.2.2.2.2.1 t2.2.2.2.2.2.2.2.2.2.2.2.2.2.2.2.2.2.2.2.1 t2.2.2.2.2.2.2.2.2.2.2.2.2.2.2.2.2.2.2.2.2 (2 : Int)).bind fun t3 =>
  (proc_Post.f t3.1 t3.2.1 t3.2.2.1 t3.2.2.2.1 t3.2.2.2.2.1 t3.2.2.2.2.2.1 t3.2.2.2.2.2.2.1 t3.2.2.2.2.2.2.2.1 t3.2.2.2.2.2.2.2.2.1 t3.2.2.2.2.2.2.2.2.2.1 t3.2.2.2.2.2.2.2.2.2.2.1 t3.2.2.2.2.2.2.2.2.2.2.2.1 t3.2.2.2.2.2.2.2.2.2.2.2.2.1 t3.2.2.2.2.2.2.2.2.2.2.2.2.2.1 t3.2.2.2.2.2.2.2.2.2.2.2.2.2.2.1 t3.2.2.2.2.2.2.2.2.2.2.2.2.2.2.2.1 t3.2.2.2.2.2.2.2.2.2.2.2.2.2.2.2.2.1 t3.2.2.2.2.2.2.2.2.2.2.2.2.2.2.2.2.2.1 t3.2.2.2.2.2.2.2.2.2.2.2.2.2.2.2.2.2.2.1 t3.2.2.2.2.2.2.2.2.2.2.2.2.2.2.2.2.2.2.2.1 t3.2.2.2.2.2.2.2.2.2.2.2.2.2.2.2.2.2.2.2.2.1 (9 : Int)).bind fun t4 =>
  (proc_First.f (0 : Int) (⟨#[105, 110, 105, 116]⟩ : ByteArray) (0 : Int)).bind fun t5 =>
  if t1.2.2.2.2.2.2.2.2.2.2.2.2.2.2.2.2.2.2.2.2.2 = none then
    if t3.2.2.2.2.2.2.2.2.2.2.2.2.2.2.2.2.2.2.2.2.2 = none then
      if t4.2.2.2.2.2.2.2.2.2.2.2.2.2.2.2.2.2.2.2.2.2 = none then
        (num.f t5.2.2.2.2.2.2.2.2.2.2.2.2.2.2.2.2.2.2.2.2.2).bind fun t9 =>
        if t9 = (22 : Int) then
          if t1.2.2.2.2.1 = (256 : Int) then
            if (List.getD t1.2.2.2.1 13 (0 : Int)) = (1048576 : Int) then
              (proc_Letter.f t1.1 t1.2.1 t1.2.2.1 t1.2.2.2.1 t1.2.2.2.2.1 t1.2.2.2.2.2.1 t1.2.2.2.2.2.2.1 t1.2.2.2.2.2.2.2.1 t1.2.2.2.2.2.2.2.2.1 t1.2.2.2.2.2.2.2.2.2.1 t1.2.2.2.2.2.2.2.2.2.2.1 t1.2.2.2.2.2.2.2.2.2.2.2.1 t1.2.2.2.2.2.2.2.2.2.2.2.2.1 t1.2.2.2.2.2.2.2.2.2.2.2.2.2.1 t1.2.2.2.2.2.2.2.2.2.2.2.2.2.2.1 t1.2.2.2.2.2.2.2.2.2.2.2.2.2.2.2.1 t1.2.2.2.2.2.2.2.2.2.2.2.2.2.2.2.2.1 t1.2.2.2.2.2.2.2.2.2.2.2.2.2.2.2.2.2.1 t1.2.2.2.2.2.2.2.2.2.2.2.2.2.2.2.2.2.2.1 t1.2.2.2.2.2.2.2.2.2.2.2.2.2.2.2.2.2.2.2.1 t1.2.2.2.2.2.2.2.2.2.2.2.2.2.2.2.2.2.2.2.2.1 false).bind fun t13 =>
              if t13 = (82 : Int) then
                (proc_Runs.f t1.1 t1.2.1 t1.2.2.1 t1.2.2.2.1 t1.2.2.2.2.1 t1.2.2.2.2.2.1 t1.2.2.2.2.2.2.1 t1.2.2.2.2.2.2.2.1 t1.2.2.2.2.2.2.2.2.1 t1.2.2.2.2.2.2.2.2.2.1 t1.2.2.2.2.2.2.2.2.2.2.1 t1.2.2.2.2.2.2.2.2.2.2.2.1 t1.2.2.2.2.2.2.2.2.2.2.2.2.1 t1.2.2.2.2.2.2.2.2.2.2.2.2.2.1 t1.2.2.2.2.2.2.2.2.2.2.2.2.2.2.1 t1.2.2.2.2.2.2.2.2.2.2.2.2.2.2.2.1 t1.2.2.2.2.2.2.2.2.2.2.2.2.2.2.2.2.1 t1.2.2.2.2.2.2.2.2.2.2.2.2.2.2.2.2.2.1 t1.2.2.2.2.2.2.2.2.2.2.2.2.2.2.2.2.2.2.1 t1.2.2.2.2.2.2.2.2.2.2.2.2.2.2.2.2.2.2.2.1 t1.2.2.2.2.2.2.2.2.2.2.2.2.2.2.2.2.2.2.2.2.1).bind fun t15 =>
                if t15 = true then
                  if t3.1 = (2 : Int) then
                    if (List.getD t3.2.2.2.1 0 (0 : Int)) = (0 : Int) then
                      (sig_Next.f t4.2.2.2.2.2.2.2.2.1 t4.2.2.2.2.2.2.2.2.2.1 t4.2.2.2.2.2.2.2.2.2.2.1).bind fun t19 =>
                      some (t19 == (9 : Int))
                    else
                      some false
                  else
                    some false
                else
                  some false
              else
                some false
            else
              some false
          else
            some false
        else
          some false
      else
        some false
    else
      some false
  else
    some false
def halterlaw33_sure.R (r : Bool) : Tm := .v (.one (.sc (.bool r)))
theorem halterlaw33_sure.fun_ {r : Bool} (h : halterlaw33_sure.f = some r) : Fun cfg 10 [] [] (halterlaw33_sure.R r) [] := by
  unfold halterlaw33_sure.f at h
  refine fun_of_run cfg_ok (f := 10) (fn := Tryd.f10) Tryd.func10 rfl (by kernel_rfl) (rs := [.tmp 0]) rfl (nt := 83) rfl (l := fin) (k := (.call true [] (Int × Int × ByteArray × (List Int) × Int × Int × (List Int) × (List Int) × Int × Int × (List Int) × Int × Bool × Int × Int × Int × Bool × Bool × Bool × Int × Int × (Option Int)) (fun t1 => proc_First.R t1) (fun t1 => (.call true [] (Int × Int × ByteArray × (List Int) × Int × Int × (List Int) × (List Int) × Int × Int × (List Int) × Int × Bool × Int × Int × Int × Bool × Bool × Bool × Int × Int) (fun t2 => proc_Answer.R t2) (fun t2 => (.call true [] (Int × Int × ByteArray × (List Int) × Int × Int × (List Int) × (List Int) × Int × Int × (List Int) × Int × Bool × Int × Int × Int × Bool × Bool × Bool × Int × Int × (Option Int)) (fun t3 => proc_Child.R t3) (fun t3 => (.call true [] (Int × Int × ByteArray × (List Int) × Int × Int × (List Int) × (List Int) × Int × Int × (List Int) × Int × Bool × Int × Int × Int × Bool × Bool × Bool × Int × Int × (Option Int)) (fun t4 => proc_Post.R t4) (fun t4 => (.call true [] (Int × Int × ByteArray × (List Int) × Int × Int × (List Int) × (List Int) × Int × Int × (List Int) × Int × Bool × Int × Int × Int × Bool × Bool × Bool × Int × Int × (Option Int)) (fun t5 => proc_First.R t5) (fun t5 => (.br (.one true (.one true (.br (.one true (.one true (.br (.one true (.call true [] (Int) (fun t9 => num.R t9) (fun t9 => (.one true (.one true (.br (.one true (.one true (.one true (.one true (.br (.one true (.one true (.one true (.one true (.one true (.br (.one true (.call true [] (Int) (fun t13 => proc_Letter.R t13) (fun t13 => (.one true (.one true (.br (.one true (.call true [] (Bool) (fun t15 => proc_Runs.R t15) (fun t15 => (.one true (.br (.one true (.one true (.one true (.br (.one true (.one true (.one true (.one true (.one true (.br (.one true (.one true (.call true [] (Int) (fun t19 => sig_Next.R t19) (fun t19 => (.one true (.one true (.adj [] (.adj [.drop 0] .nil)))))))) (.one false (.one false (.one false (.one false (.adj [] (.adj [.drop 0] .nil)))))))))))) (.one false (.one false (.one false (.one false (.one false (.one false (.one false (.one false (.one false (.one false (.adj [] (.adj [.drop 0] .nil)))))))))))))))) (.one false (.one false (.one false (.one false (.one false (.one false (.one false (.one false (.one false (.one false (.one false (.one false (.one false (.one false (.adj [] (.adj [.drop 0] .nil))))))))))))))))))))) (.one false (.one false (.one false (.one false (.one false (.one false (.one false (.one false (.one false (.one false (.one false (.one false (.one false (.one false (.one false (.one false (.one false (.adj [] (.adj [.drop 0] .nil))))))))))))))))))))))))) (.one false (.one false (.one false (.one false (.one false (.one false (.one false (.one false (.one false (.one false (.one false (.one false (.one false (.one false (.one false (.one false (.one false (.one false (.one false (.one false (.one false (.adj [] (.adj [.drop 0] .nil))))))))))))))))))))))))))))) (.one false (.one false (.one false (.one false (.one false (.one false (.one false (.one false (.one false (.one false (.one false (.one false (.one false (.one false (.one false (.one false (.one false (.one false (.one false (.one false (.one false (.one false (.one false (.one false (.one false (.one false (.one false (.adj [] (.adj [.drop 0] .nil)))))))))))))))))))))))))))))))))) (.one false (.one false (.one false (.one false (.one false (.one false (.one false (.one false (.one false (.one false (.one false (.one false (.one false (.one false (.one false (.one false (.one false (.one false (.one false (.one false (.one false (.one false (.one false (.one false (.one false (.one false (.one false (.one false (.one false (.one false (.one false (.one false (.adj [] (.adj [.drop 0] .nil)))))))))))))))))))))))))))))))))))))))) (.one false (.one false (.one false (.one false (.one false (.one false (.one false (.one false (.one false (.one false (.one false (.one false (.one false (.one false (.one false (.one false (.one false (.one false (.one false (.one false (.one false (.one false (.one false (.one false (.one false (.one false (.one false (.one false (.one false (.one false (.one false (.one false (.one false (.one false (.one false (.one false (.adj [] (.adj [.drop 0] .nil))))))))))))))))))))))))))))))))))))))))) (.one false (.one false (.one false (.one false (.one false (.one false (.one false (.one false (.one false (.one false (.one false (.one false (.one false (.one false (.one false (.one false (.one false (.one false (.one false (.one false (.one false (.one false (.one false (.one false (.one false (.one false (.one false (.one false (.one false (.one false (.one false (.one false (.one false (.one false (.one false (.one false (.one false (.one false (.one false (.adj [] (.adj [.drop 0] .nil)))))))))))))))))))))))))))))))))))))))))))) (.one false (.one false (.one false (.one false (.one false (.one false (.one false (.one false (.one false (.one false (.one false (.one false (.one false (.one false (.one false (.one false (.one false (.one false (.one false (.one false (.one false (.one false (.one false (.one false (.one false (.one false (.one false (.one false (.one false (.one false (.one false (.one false (.one false (.one false (.one false (.one false (.one false (.one false (.one false (.one false (.one false (.one false (.adj [] (.adj [.drop 0] .nil)))))))))))))))))))))))))))))))))))))))))))))))))))))))) (to_goal (q := (∃ t1 : Int × Int × ByteArray × (List Int) × Int × Int × (List Int) × (List Int) × Int × Int × (List Int) × Int × Bool × Int × Int × Int × Bool × Bool × Bool × Int × Int × (Option Int), (Fun cfg 23 [.one (.sc (.int .i64 (1 : Int))), .one (.sc (.string (⟨#[105, 110, 105, 116]⟩ : ByteArray))), .one (.sc (.int .u32 (256 : Int)))] [] (proc_First.R t1) [] ∧ True) ∧ (True) ∧ (True) ∧ (∃ t2 : Int × Int × ByteArray × (List Int) × Int × Int × (List Int) × (List Int) × Int × Int × (List Int) × Int × Bool × Int × Int × Int × Bool × Bool × Bool × Int × Int, (Fun cfg 8 [.agg [.c (.sc (.int .i64 t1.1)), .c (.sc (.int .i64 t1.2.1)), .c (.sc (.string t1.2.2.1)), .row 16 (.int .u32) t1.2.2.2.1, .c (.sc (.int .u32 t1.2.2.2.2.1)), .c (.sc (.int .u32 t1.2.2.2.2.2.1)), .row 4 (.int .u64) t1.2.2.2.2.2.2.1, .row 8 (.int .i64) t1.2.2.2.2.2.2.2.1, .c (.sc (.int .u32 t1.2.2.2.2.2.2.2.2.1)), .c (.sc (.int .u32 t1.2.2.2.2.2.2.2.2.2.1)), .row 32 (.int .u32) t1.2.2.2.2.2.2.2.2.2.2.1, .c (.sc (.int .i64 t1.2.2.2.2.2.2.2.2.2.2.2.1)), .c (.sc (.bool t1.2.2.2.2.2.2.2.2.2.2.2.2.1)), .c (.sc (.int .u32 t1.2.2.2.2.2.2.2.2.2.2.2.2.2.1)), .c (.sc (.int .i64 t1.2.2.2.2.2.2.2.2.2.2.2.2.2.2.1)), .c (.sc (.int .i64 t1.2.2.2.2.2.2.2.2.2.2.2.2.2.2.2.1)), .c (.sc (.bool t1.2.2.2.2.2.2.2.2.2.2.2.2.2.2.2.2.1)), .c (.sc (.bool t1.2.2.2.2.2.2.2.2.2.2.2.2.2.2.2.2.2.1)), .c (.sc (.bool t1.2.2.2.2.2.2.2.2.2.2.2.2.2.2.2.2.2.2.1)), .c (.sc (.int .i64 t1.2.2.2.2.2.2.2.2.2.2.2.2.2.2.2.2.2.2.2.1)), .c (.sc (.int .i64 t1.2.2.2.2.2.2.2.2.2.2.2.2.2.2.2.2.2.2.2.2.1))], .one (.sc (.int .u32 (7 : Int)))] [] (proc_Answer.R t2) [] ∧ True) ∧ (∃ t3 : Int × Int × ByteArray × (List Int) × Int × Int × (List Int) × (List Int) × Int × Int × (List Int) × Int × Bool × Int × Int × Int × Bool × Bool × Bool × Int × Int × (Option Int), (Fun cfg 12 [.agg [.c (.sc (.int .i64 t2.1)), .c (.sc (.int .i64 t2.2.1)), .c (.sc (.string t2.2.2.1)), .row 16 (.int .u32) t2.2.2.2.1, .c (.sc (.int .u32 t2.2.2.2.2.1)), .c (.sc (.int .u32 t2.2.2.2.2.2.1)), .row 4 (.int .u64) t2.2.2.2.2.2.2.1, .row 8 (.int .i64) t2.2.2.2.2.2.2.2.1, .c (.sc (.int .u32 t2.2.2.2.2.2.2.2.2.1)), .c (.sc (.int .u32 t2.2.2.2.2.2.2.2.2.2.1)), .row 32 (.int .u32) t2.2.2.2.2.2.2.2.2.2.2.1, .c (.sc (.int .i64 t2.2.2.2.2.2.2.2.2.2.2.2.1)), .c (.sc (.bool t2.2.2.2.2.2.2.2.2.2.2.2.2.1)), .c (.sc (.int .u32 t2.2.2.2.2.2.2.2.2.2.2.2.2.2.1)), .c (.sc (.int .i64 t2.2.2.2.2.2.2.2.2.2.2.2.2.2.2.1)), .c (.sc (.int .i64 t2.2.2.2.2.2.2.2.2.2.2.2.2.2.2.2.1)), .c (.sc (.bool t2.2.2.2.2.2.2.2.2.2.2.2.2.2.2.2.2.1)), .c (.sc (.bool t2.2.2.2.2.2.2.2.2.2.2.2.2.2.2.2.2.2.1)), .c (.sc (.bool t2.2.2.2.2.2.2.2.2.2.2.2.2.2.2.2.2.2.2.1)), .c (.sc (.int .i64 t2.2.2.2.2.2.2.2.2.2.2.2.2.2.2.2.2.2.2.2.1)), .c (.sc (.int .i64 t2.2.2.2.2.2.2.2.2.2.2.2.2.2.2.2.2.2.2.2.2))], .one (.sc (.int .i64 (2 : Int)))] [] (proc_Child.R t3) [] ∧ True) ∧ (True) ∧ (True) ∧ (∃ t4 : Int × Int × ByteArray × (List Int) × Int × Int × (List Int) × (List Int) × Int × Int × (List Int) × Int × Bool × Int × Int × Int × Bool × Bool × Bool × Int × Int × (Option Int), (Fun cfg 11 [.agg [.c (.sc (.int .i64 t3.1)), .c (.sc (.int .i64 t3.2.1)), .c (.sc (.string t3.2.2.1)), .row 16 (.int .u32) t3.2.2.2.1, .c (.sc (.int .u32 t3.2.2.2.2.1)), .c (.sc (.int .u32 t3.2.2.2.2.2.1)), .row 4 (.int .u64) t3.2.2.2.2.2.2.1, .row 8 (.int .i64) t3.2.2.2.2.2.2.2.1, .c (.sc (.int .u32 t3.2.2.2.2.2.2.2.2.1)), .c (.sc (.int .u32 t3.2.2.2.2.2.2.2.2.2.1)), .row 32 (.int .u32) t3.2.2.2.2.2.2.2.2.2.2.1, .c (.sc (.int .i64 t3.2.2.2.2.2.2.2.2.2.2.2.1)), .c (.sc (.bool t3.2.2.2.2.2.2.2.2.2.2.2.2.1)), .c (.sc (.int .u32 t3.2.2.2.2.2.2.2.2.2.2.2.2.2.1)), .c (.sc (.int .i64 t3.2.2.2.2.2.2.2.2.2.2.2.2.2.2.1)), .c (.sc (.int .i64 t3.2.2.2.2.2.2.2.2.2.2.2.2.2.2.2.1)), .c (.sc (.bool t3.2.2.2.2.2.2.2.2.2.2.2.2.2.2.2.2.1)), .c (.sc (.bool t3.2.2.2.2.2.2.2.2.2.2.2.2.2.2.2.2.2.1)), .c (.sc (.bool t3.2.2.2.2.2.2.2.2.2.2.2.2.2.2.2.2.2.2.1)), .c (.sc (.int .i64 t3.2.2.2.2.2.2.2.2.2.2.2.2.2.2.2.2.2.2.2.1)), .c (.sc (.int .i64 t3.2.2.2.2.2.2.2.2.2.2.2.2.2.2.2.2.2.2.2.2.1))], .one (.sc (.int .i64 (9 : Int)))] [] (proc_Post.R t4) [] ∧ True) ∧ (True) ∧ (∃ t5 : Int × Int × ByteArray × (List Int) × Int × Int × (List Int) × (List Int) × Int × Int × (List Int) × Int × Bool × Int × Int × Int × Bool × Bool × Bool × Int × Int × (Option Int), (Fun cfg 23 [.one (.sc (.int .i64 (0 : Int))), .one (.sc (.string (⟨#[105, 110, 105, 116]⟩ : ByteArray))), .one (.sc (.int .u32 (0 : Int)))] [] (proc_First.R t5) [] ∧ True) ∧ (True) ∧ (True) ∧ (((Option.isNone t1.2.2.2.2.2.2.2.2.2.2.2.2.2.2.2.2.2.2.2.2.2) = true → ((Option.isNone t1.2.2.2.2.2.2.2.2.2.2.2.2.2.2.2.2.2.2.2.2.2) = true ∧ (True) ∧ ((Option.isNone t1.2.2.2.2.2.2.2.2.2.2.2.2.2.2.2.2.2.2.2.2.2) = true ∧ (((Option.isNone t3.2.2.2.2.2.2.2.2.2.2.2.2.2.2.2.2.2.2.2.2.2) = true → ((Option.isNone t3.2.2.2.2.2.2.2.2.2.2.2.2.2.2.2.2.2.2.2.2.2) = true ∧ (True) ∧ ((Option.isNone t3.2.2.2.2.2.2.2.2.2.2.2.2.2.2.2.2.2.2.2.2.2) = true ∧ (((Option.isNone t4.2.2.2.2.2.2.2.2.2.2.2.2.2.2.2.2.2.2.2.2.2) = true → ((Option.isNone t4.2.2.2.2.2.2.2.2.2.2.2.2.2.2.2.2.2.2.2.2.2) = true ∧ (∃ t9 : Int, (Fun cfg 24 [.one (.err t5.2.2.2.2.2.2.2.2.2.2.2.2.2.2.2.2.2.2.2.2.2)] [] (num.R t9) [] ∧ True) ∧ ((Option.isNone t4.2.2.2.2.2.2.2.2.2.2.2.2.2.2.2.2.2.2.2.2.2) = true ∧ (True) ∧ ((Option.isNone t4.2.2.2.2.2.2.2.2.2.2.2.2.2.2.2.2.2.2.2.2.2) = true ∧ (((t9 == (22 : Int)) = true → ((t9 == (22 : Int)) = true ∧ ((t9 == (22 : Int)) = true ∧ (True) ∧ ((t9 == (22 : Int)) = true ∧ (True) ∧ ((t9 == (22 : Int)) = true ∧ (((t1.2.2.2.2.1 == (256 : Int)) = true → ((t1.2.2.2.2.1 == (256 : Int)) = true ∧ ((t1.2.2.2.2.1 == (256 : Int)) = true ∧ (0 ≤ (13 : Int) ∧ (13 : Int) < ((16 : Nat) : Int)) ∧ ((t1.2.2.2.2.1 == (256 : Int)) = true ∧ (13 < 16) ∧ ((t1.2.2.2.2.1 == (256 : Int)) = true ∧ (True) ∧ ((t1.2.2.2.2.1 == (256 : Int)) = true ∧ ((((List.getD t1.2.2.2.1 13 (0 : Int)) == (1048576 : Int)) = true → (True) ∧ (((List.getD t1.2.2.2.1 13 (0 : Int)) == (1048576 : Int)) = true ∧ (∃ t13 : Int, (Fun cfg 6 [.agg [.c (.sc (.int .i64 t1.1)), .c (.sc (.int .i64 t1.2.1)), .c (.sc (.string t1.2.2.1)), .row 16 (.int .u32) t1.2.2.2.1, .c (.sc (.int .u32 t1.2.2.2.2.1)), .c (.sc (.int .u32 t1.2.2.2.2.2.1)), .row 4 (.int .u64) t1.2.2.2.2.2.2.1, .row 8 (.int .i64) t1.2.2.2.2.2.2.2.1, .c (.sc (.int .u32 t1.2.2.2.2.2.2.2.2.1)), .c (.sc (.int .u32 t1.2.2.2.2.2.2.2.2.2.1)), .row 32 (.int .u32) t1.2.2.2.2.2.2.2.2.2.2.1, .c (.sc (.int .i64 t1.2.2.2.2.2.2.2.2.2.2.2.1)), .c (.sc (.bool t1.2.2.2.2.2.2.2.2.2.2.2.2.1)), .c (.sc (.int .u32 t1.2.2.2.2.2.2.2.2.2.2.2.2.2.1)), .c (.sc (.int .i64 t1.2.2.2.2.2.2.2.2.2.2.2.2.2.2.1)), .c (.sc (.int .i64 t1.2.2.2.2.2.2.2.2.2.2.2.2.2.2.2.1)), .c (.sc (.bool t1.2.2.2.2.2.2.2.2.2.2.2.2.2.2.2.2.1)), .c (.sc (.bool t1.2.2.2.2.2.2.2.2.2.2.2.2.2.2.2.2.2.1)), .c (.sc (.bool t1.2.2.2.2.2.2.2.2.2.2.2.2.2.2.2.2.2.2.1)), .c (.sc (.int .i64 t1.2.2.2.2.2.2.2.2.2.2.2.2.2.2.2.2.2.2.2.1)), .c (.sc (.int .i64 t1.2.2.2.2.2.2.2.2.2.2.2.2.2.2.2.2.2.2.2.2.1))], .one (.sc (.bool false))] [] (proc_Letter.R t13) [] ∧ True) ∧ (((List.getD t1.2.2.2.1 13 (0 : Int)) == (1048576 : Int)) = true ∧ (True) ∧ (((List.getD t1.2.2.2.1 13 (0 : Int)) == (1048576 : Int)) = true ∧ (((t13 == (82 : Int)) = true → (True) ∧ ((t13 == (82 : Int)) = true ∧ (∃ t15 : Bool, (Fun cfg 7 [.agg [.c (.sc (.int .i64 t1.1)), .c (.sc (.int .i64 t1.2.1)), .c (.sc (.string t1.2.2.1)), .row 16 (.int .u32) t1.2.2.2.1, .c (.sc (.int .u32 t1.2.2.2.2.1)), .c (.sc (.int .u32 t1.2.2.2.2.2.1)), .row 4 (.int .u64) t1.2.2.2.2.2.2.1, .row 8 (.int .i64) t1.2.2.2.2.2.2.2.1, .c (.sc (.int .u32 t1.2.2.2.2.2.2.2.2.1)), .c (.sc (.int .u32 t1.2.2.2.2.2.2.2.2.2.1)), .row 32 (.int .u32) t1.2.2.2.2.2.2.2.2.2.2.1, .c (.sc (.int .i64 t1.2.2.2.2.2.2.2.2.2.2.2.1)), .c (.sc (.bool t1.2.2.2.2.2.2.2.2.2.2.2.2.1)), .c (.sc (.int .u32 t1.2.2.2.2.2.2.2.2.2.2.2.2.2.1)), .c (.sc (.int .i64 t1.2.2.2.2.2.2.2.2.2.2.2.2.2.2.1)), .c (.sc (.int .i64 t1.2.2.2.2.2.2.2.2.2.2.2.2.2.2.2.1)), .c (.sc (.bool t1.2.2.2.2.2.2.2.2.2.2.2.2.2.2.2.2.1)), .c (.sc (.bool t1.2.2.2.2.2.2.2.2.2.2.2.2.2.2.2.2.2.1)), .c (.sc (.bool t1.2.2.2.2.2.2.2.2.2.2.2.2.2.2.2.2.2.2.1)), .c (.sc (.int .i64 t1.2.2.2.2.2.2.2.2.2.2.2.2.2.2.2.2.2.2.2.1)), .c (.sc (.int .i64 t1.2.2.2.2.2.2.2.2.2.2.2.2.2.2.2.2.2.2.2.2.1))]] [] (proc_Runs.R t15) [] ∧ True) ∧ ((t13 == (82 : Int)) = true ∧ ((t15 = true → (t15 = true ∧ (True) ∧ (t15 = true ∧ (True) ∧ (t15 = true ∧ (((t3.1 == (2 : Int)) = true → ((t3.1 == (2 : Int)) = true ∧ ((t3.1 == (2 : Int)) = true ∧ (0 ≤ (0 : Int) ∧ (0 : Int) < ((16 : Nat) : Int)) ∧ ((t3.1 == (2 : Int)) = true ∧ (0 < 16) ∧ ((t3.1 == (2 : Int)) = true ∧ (True) ∧ ((t3.1 == (2 : Int)) = true ∧ ((((List.getD t3.2.2.2.1 0 (0 : Int)) == (0 : Int)) = true → (((List.getD t3.2.2.2.1 0 (0 : Int)) == (0 : Int)) = true ∧ (True) ∧ (((List.getD t3.2.2.2.1 0 (0 : Int)) == (0 : Int)) = true ∧ (∃ t19 : Int, (Fun cfg 14 [.agg [.c (.sc (.int .u32 t4.2.2.2.2.2.2.2.2.1)), .c (.sc (.int .u32 t4.2.2.2.2.2.2.2.2.2.1)), .row 32 (.int .u32) t4.2.2.2.2.2.2.2.2.2.2.1]] [] (sig_Next.R t19) [] ∧ True) ∧ (((List.getD t3.2.2.2.1 0 (0 : Int)) == (0 : Int)) = true ∧ (True) ∧ (((List.getD t3.2.2.2.1 0 (0 : Int)) == (0 : Int)) = true ∧ (True ∧ ((True) ∧ ((True) ∧ True) ∧ (.v (.one (.sc (.bool (t19 == (9 : Int))))) : Tm) = halterlaw33_sure.R r ∧ ([] : List Box) = [])))))))) ∧ (((List.getD t3.2.2.2.1 0 (0 : Int)) == (0 : Int)) = false → (((List.getD t3.2.2.2.1 0 (0 : Int)) == (0 : Int)) = false ∧ (((List.getD t3.2.2.2.1 0 (0 : Int)) == (0 : Int)) = false ∧ (((List.getD t3.2.2.2.1 0 (0 : Int)) == (0 : Int)) = false ∧ (((List.getD t3.2.2.2.1 0 (0 : Int)) == (0 : Int)) = false ∧ (True ∧ ((True) ∧ ((True) ∧ True) ∧ (.v (.one (.sc (.bool false))) : Tm) = halterlaw33_sure.R r ∧ ([] : List Box) = [])))))))))))))) ∧ ((t3.1 == (2 : Int)) = false → ((t3.1 == (2 : Int)) = false ∧ ((t3.1 == (2 : Int)) = false ∧ ((t3.1 == (2 : Int)) = false ∧ ((t3.1 == (2 : Int)) = false ∧ ((t3.1 == (2 : Int)) = false ∧ (false = false ∧ (false = false ∧ (false = false ∧ (false = false ∧ (false = false ∧ (True ∧ ((True) ∧ ((True) ∧ True) ∧ (.v (.one (.sc (.bool false))) : Tm) = halterlaw33_sure.R r ∧ ([] : List Box) = [])))))))))))))))))) ∧ (t15 = false → (t15 = false ∧ (t15 = false ∧ (t15 = false ∧ (false = false ∧ (false = false ∧ (false = false ∧ (false = false ∧ (false = false ∧ (false = false ∧ (false = false ∧ (false = false ∧ (false = false ∧ (false = false ∧ (false = false ∧ (True ∧ ((True) ∧ ((True) ∧ True) ∧ (.v (.one (.sc (.bool false))) : Tm) = halterlaw33_sure.R r ∧ ([] : List Box) = [])))))))))))))))))))))) ∧ ((t13 == (82 : Int)) = false → ((t13 == (82 : Int)) = false ∧ ((t13 == (82 : Int)) = false ∧ (false = false ∧ (false = false ∧ (false = false ∧ (false = false ∧ (false = false ∧ (false = false ∧ (false = false ∧ (false = false ∧ (false = false ∧ (false = false ∧ (false = false ∧ (false = false ∧ (false = false ∧ (false = false ∧ (false = false ∧ (True ∧ ((True) ∧ ((True) ∧ True) ∧ (.v (.one (.sc (.bool false))) : Tm) = halterlaw33_sure.R r ∧ ([] : List Box) = [])))))))))))))))))))))))))) ∧ (((List.getD t1.2.2.2.1 13 (0 : Int)) == (1048576 : Int)) = false → (((List.getD t1.2.2.2.1 13 (0 : Int)) == (1048576 : Int)) = false ∧ (((List.getD t1.2.2.2.1 13 (0 : Int)) == (1048576 : Int)) = false ∧ (((List.getD t1.2.2.2.1 13 (0 : Int)) == (1048576 : Int)) = false ∧ (false = false ∧ (false = false ∧ (false = false ∧ (false = false ∧ (false = false ∧ (false = false ∧ (false = false ∧ (false = false ∧ (false = false ∧ (false = false ∧ (false = false ∧ (false = false ∧ (false = false ∧ (false = false ∧ (false = false ∧ (false = false ∧ (false = false ∧ (false = false ∧ (True ∧ ((True) ∧ ((True) ∧ True) ∧ (.v (.one (.sc (.bool false))) : Tm) = halterlaw33_sure.R r ∧ ([] : List Box) = []))))))))))))))))))))))))))))))) ∧ ((t1.2.2.2.2.1 == (256 : Int)) = false → ((t1.2.2.2.2.1 == (256 : Int)) = false ∧ ((t1.2.2.2.2.1 == (256 : Int)) = false ∧ ((t1.2.2.2.2.1 == (256 : Int)) = false ∧ ((t1.2.2.2.2.1 == (256 : Int)) = false ∧ ((t1.2.2.2.2.1 == (256 : Int)) = false ∧ (false = false ∧ (false = false ∧ (false = false ∧ (false = false ∧ (false = false ∧ (false = false ∧ (false = false ∧ (false = false ∧ (false = false ∧ (false = false ∧ (false = false ∧ (false = false ∧ (false = false ∧ (false = false ∧ (false = false ∧ (false = false ∧ (false = false ∧ (false = false ∧ (false = false ∧ (false = false ∧ (false = false ∧ (false = false ∧ (True ∧ ((True) ∧ ((True) ∧ True) ∧ (.v (.one (.sc (.bool false))) : Tm) = halterlaw33_sure.R r ∧ ([] : List Box) = [])))))))))))))))))))))))))))))))))))) ∧ ((t9 == (22 : Int)) = false → ((t9 == (22 : Int)) = false ∧ ((t9 == (22 : Int)) = false ∧ ((t9 == (22 : Int)) = false ∧ ((t9 == (22 : Int)) = false ∧ (false = false ∧ (false = false ∧ (false = false ∧ (false = false ∧ (false = false ∧ (false = false ∧ (false = false ∧ (false = false ∧ (false = false ∧ (false = false ∧ (false = false ∧ (false = false ∧ (false = false ∧ (false = false ∧ (false = false ∧ (false = false ∧ (false = false ∧ (false = false ∧ (false = false ∧ (false = false ∧ (false = false ∧ (false = false ∧ (false = false ∧ (false = false ∧ (false = false ∧ (false = false ∧ (false = false ∧ (false = false ∧ (True ∧ ((True) ∧ ((True) ∧ True) ∧ (.v (.one (.sc (.bool false))) : Tm) = halterlaw33_sure.R r ∧ ([] : List Box) = []))))))))))))))))))))))))))))))))))))))))) ∧ ((Option.isNone t4.2.2.2.2.2.2.2.2.2.2.2.2.2.2.2.2.2.2.2.2.2) = false → ((Option.isNone t4.2.2.2.2.2.2.2.2.2.2.2.2.2.2.2.2.2.2.2.2.2) = false ∧ ((Option.isNone t4.2.2.2.2.2.2.2.2.2.2.2.2.2.2.2.2.2.2.2.2.2) = false ∧ ((Option.isNone t4.2.2.2.2.2.2.2.2.2.2.2.2.2.2.2.2.2.2.2.2.2) = false ∧ (false = false ∧ (false = false ∧ (false = false ∧ (false = false ∧ (false = false ∧ (false = false ∧ (false = false ∧ (false = false ∧ (false = false ∧ (false = false ∧ (false = false ∧ (false = false ∧ (false = false ∧ (false = false ∧ (false = false ∧ (false = false ∧ (false = false ∧ (false = false ∧ (false = false ∧ (false = false ∧ (false = false ∧ (false = false ∧ (false = false ∧ (false = false ∧ (false = false ∧ (false = false ∧ (false = false ∧ (false = false ∧ (false = false ∧ (false = false ∧ (false = false ∧ (false = false ∧ (false = false ∧ (True ∧ ((True) ∧ ((True) ∧ True) ∧ (.v (.one (.sc (.bool false))) : Tm) = halterlaw33_sure.R r ∧ ([] : List Box) = []))))))))))))))))))))))))))))))))))))))))))) ∧ ((Option.isNone t3.2.2.2.2.2.2.2.2.2.2.2.2.2.2.2.2.2.2.2.2.2) = false → ((Option.isNone t3.2.2.2.2.2.2.2.2.2.2.2.2.2.2.2.2.2.2.2.2.2) = false ∧ ((Option.isNone t3.2.2.2.2.2.2.2.2.2.2.2.2.2.2.2.2.2.2.2.2.2) = false ∧ (false = false ∧ (false = false ∧ (false = false ∧ (false = false ∧ (false = false ∧ (false = false ∧ (false = false ∧ (false = false ∧ (false = false ∧ (false = false ∧ (false = false ∧ (false = false ∧ (false = false ∧ (false = false ∧ (false = false ∧ (false = false ∧ (false = false ∧ (false = false ∧ (false = false ∧ (false = false ∧ (false = false ∧ (false = false ∧ (false = false ∧ (false = false ∧ (false = false ∧ (false = false ∧ (false = false ∧ (false = false ∧ (false = false ∧ (false = false ∧ (false = false ∧ (false = false ∧ (false = false ∧ (false = false ∧ (false = false ∧ (false = false ∧ (false = false ∧ (True ∧ ((True) ∧ ((True) ∧ True) ∧ (.v (.one (.sc (.bool false))) : Tm) = halterlaw33_sure.R r ∧ ([] : List Box) = [])))))))))))))))))))))))))))))))))))))))))))))) ∧ ((Option.isNone t1.2.2.2.2.2.2.2.2.2.2.2.2.2.2.2.2.2.2.2.2.2) = false → ((Option.isNone t1.2.2.2.2.2.2.2.2.2.2.2.2.2.2.2.2.2.2.2.2.2) = false ∧ ((Option.isNone t1.2.2.2.2.2.2.2.2.2.2.2.2.2.2.2.2.2.2.2.2.2) = false ∧ (false = false ∧ (false = false ∧ (false = false ∧ (false = false ∧ (false = false ∧ (false = false ∧ (false = false ∧ (false = false ∧ (false = false ∧ (false = false ∧ (false = false ∧ (false = false ∧ (false = false ∧ (false = false ∧ (false = false ∧ (false = false ∧ (false = false ∧ (false = false ∧ (false = false ∧ (false = false ∧ (false = false ∧ (false = false ∧ (false = false ∧ (false = false ∧ (false = false ∧ (false = false ∧ (false = false ∧ (false = false ∧ (false = false ∧ (false = false ∧ (false = false ∧ (false = false ∧ (false = false ∧ (false = false ∧ (false = false ∧ (false = false ∧ (false = false ∧ (false = false ∧ (false = false ∧ (false = false ∧ (True ∧ ((True) ∧ ((True) ∧ True) ∧ (.v (.one (.sc (.bool false))) : Tm) = halterlaw33_sure.R r ∧ ([] : List Box) = [])))))))))))))))))))))))))))))))))))))))))))))))))))) (by kernel_rfl) ?_)
  obtain ⟨t1, ht1, h⟩ := of_bind h
  refine ⟨t1, ⟨proc_First.fun_ ht1, trivial⟩, ?_⟩
  refine ⟨trivial, ?_⟩
  refine ⟨trivial, ?_⟩
  obtain ⟨t2, ht2, h⟩ := of_bind h
  refine ⟨t2, ⟨proc_Answer.fun_ ht2, trivial⟩, ?_⟩
  obtain ⟨t3, ht3, h⟩ := of_bind h
  refine ⟨t3, ⟨proc_Child.fun_ ht3, trivial⟩, ?_⟩
  refine ⟨trivial, ?_⟩
  refine ⟨trivial, ?_⟩
  obtain ⟨t4, ht4, h⟩ := of_bind h
  refine ⟨t4, ⟨proc_Post.fun_ ht4, trivial⟩, ?_⟩
  refine ⟨trivial, ?_⟩
  obtain ⟨t5, ht5, h⟩ := of_bind h
  refine ⟨t5, ⟨proc_First.fun_ ht5, trivial⟩, ?_⟩
  refine ⟨trivial, ?_⟩
  refine ⟨trivial, ?_⟩
  refine ⟨fun b6 => ?_, fun b6 => ?_⟩
  · rw [if_pos (none_t b6)] at h
    refine ⟨b6, ?_⟩
    refine ⟨trivial, ?_⟩
    refine ⟨b6, ?_⟩
    refine ⟨fun b7 => ?_, fun b7 => ?_⟩
    · rw [if_pos (none_t b7)] at h
      refine ⟨b7, ?_⟩
      refine ⟨trivial, ?_⟩
      refine ⟨b7, ?_⟩
      refine ⟨fun b8 => ?_, fun b8 => ?_⟩
      · rw [if_pos (none_t b8)] at h
        refine ⟨b8, ?_⟩
        obtain ⟨t9, ht9, h⟩ := of_bind h
        refine ⟨t9, ⟨num.fun_ ht9, trivial⟩, ?_⟩
        refine ⟨b8, ?_⟩
        refine ⟨trivial, ?_⟩
        refine ⟨b8, ?_⟩
        refine ⟨fun b10 => ?_, fun b10 => ?_⟩
        · rw [if_pos (beq_t b10)] at h
          refine ⟨b10, ?_⟩
          refine ⟨b10, ?_⟩
          refine ⟨trivial, ?_⟩
          refine ⟨b10, ?_⟩
          refine ⟨trivial, ?_⟩
          refine ⟨b10, ?_⟩
          refine ⟨fun b11 => ?_, fun b11 => ?_⟩
          · rw [if_pos (beq_t b11)] at h
            refine ⟨b11, ?_⟩
            refine ⟨b11, ?_⟩
            refine ⟨(by decide), ?_⟩
            refine ⟨b11, ?_⟩
            refine ⟨(by decide), ?_⟩
            refine ⟨b11, ?_⟩
            refine ⟨trivial, ?_⟩
            refine ⟨b11, ?_⟩
            refine ⟨fun b12 => ?_, fun b12 => ?_⟩
            · rw [if_pos (beq_t b12)] at h
              refine ⟨trivial, ?_⟩
              refine ⟨b12, ?_⟩
              obtain ⟨t13, ht13, h⟩ := of_bind h
              refine ⟨t13, ⟨proc_Letter.fun_ ht13, trivial⟩, ?_⟩
              refine ⟨b12, ?_⟩
              refine ⟨trivial, ?_⟩
              refine ⟨b12, ?_⟩
              refine ⟨fun b14 => ?_, fun b14 => ?_⟩
              · rw [if_pos (beq_t b14)] at h
                refine ⟨trivial, ?_⟩
                refine ⟨b14, ?_⟩
                obtain ⟨t15, ht15, h⟩ := of_bind h
                refine ⟨t15, ⟨proc_Runs.fun_ ht15, trivial⟩, ?_⟩
                refine ⟨b14, ?_⟩
                refine ⟨fun b16 => ?_, fun b16 => ?_⟩
                · rw [if_pos b16] at h
                  refine ⟨b16, ?_⟩
                  refine ⟨trivial, ?_⟩
                  refine ⟨b16, ?_⟩
                  refine ⟨trivial, ?_⟩
                  refine ⟨b16, ?_⟩
                  refine ⟨fun b17 => ?_, fun b17 => ?_⟩
                  · rw [if_pos (beq_t b17)] at h
                    refine ⟨b17, ?_⟩
                    refine ⟨b17, ?_⟩
                    refine ⟨(by decide), ?_⟩
                    refine ⟨b17, ?_⟩
                    refine ⟨(by decide), ?_⟩
                    refine ⟨b17, ?_⟩
                    refine ⟨trivial, ?_⟩
                    refine ⟨b17, ?_⟩
                    refine ⟨fun b18 => ?_, fun b18 => ?_⟩
                    · rw [if_pos (beq_t b18)] at h
                      refine ⟨b18, ?_⟩
                      refine ⟨trivial, ?_⟩
                      refine ⟨b18, ?_⟩
                      obtain ⟨t19, ht19, h⟩ := of_bind h
                      refine ⟨t19, ⟨sig_Next.fun_ ht19, trivial⟩, ?_⟩
                      refine ⟨b18, ?_⟩
                      refine ⟨trivial, ?_⟩
                      refine ⟨b18, ?_⟩
                      refine ⟨trivial, ?_⟩
                      obtain rfl := Option.some.inj h
                      exact ⟨trivial, ⟨trivial, trivial⟩, rfl, rfl⟩
                    · rw [if_neg (beq_f b18)] at h
                      refine ⟨b18, ?_⟩
                      refine ⟨b18, ?_⟩
                      refine ⟨b18, ?_⟩
                      refine ⟨b18, ?_⟩
                      refine ⟨trivial, ?_⟩
                      obtain rfl := Option.some.inj h
                      exact ⟨trivial, ⟨trivial, trivial⟩, rfl, rfl⟩
                  · rw [if_neg (beq_f b17)] at h
                    refine ⟨b17, ?_⟩
                    refine ⟨b17, ?_⟩
                    refine ⟨b17, ?_⟩
                    refine ⟨b17, ?_⟩
                    refine ⟨b17, ?_⟩
                    refine ⟨rfl, ?_⟩
                    refine ⟨rfl, ?_⟩
                    refine ⟨rfl, ?_⟩
                    refine ⟨rfl, ?_⟩
                    refine ⟨rfl, ?_⟩
                    refine ⟨trivial, ?_⟩
                    obtain rfl := Option.some.inj h
                    exact ⟨trivial, ⟨trivial, trivial⟩, rfl, rfl⟩
                · rw [if_neg (ff b16)] at h
                  refine ⟨b16, ?_⟩
                  refine ⟨b16, ?_⟩
                  refine ⟨b16, ?_⟩
                  refine ⟨rfl, ?_⟩
                  refine ⟨rfl, ?_⟩
                  refine ⟨rfl, ?_⟩
                  refine ⟨rfl, ?_⟩
                  refine ⟨rfl, ?_⟩
                  refine ⟨rfl, ?_⟩
                  refine ⟨rfl, ?_⟩
                  refine ⟨rfl, ?_⟩
                  refine ⟨rfl, ?_⟩
                  refine ⟨rfl, ?_⟩
                  refine ⟨rfl, ?_⟩
                  refine ⟨trivial, ?_⟩
                  obtain rfl := Option.some.inj h
                  exact ⟨trivial, ⟨trivial, trivial⟩, rfl, rfl⟩
              · rw [if_neg (beq_f b14)] at h
                refine ⟨b14, ?_⟩
                refine ⟨b14, ?_⟩
                refine ⟨rfl, ?_⟩
                refine ⟨rfl, ?_⟩
                refine ⟨rfl, ?_⟩
                refine ⟨rfl, ?_⟩
                refine ⟨rfl, ?_⟩
                refine ⟨rfl, ?_⟩
                refine ⟨rfl, ?_⟩
                refine ⟨rfl, ?_⟩
                refine ⟨rfl, ?_⟩
                refine ⟨rfl, ?_⟩
                refine ⟨rfl, ?_⟩
                refine ⟨rfl, ?_⟩
                refine ⟨rfl, ?_⟩
                refine ⟨rfl, ?_⟩
                refine ⟨rfl, ?_⟩
                refine ⟨trivial, ?_⟩
                obtain rfl := Option.some.inj h
                exact ⟨trivial, ⟨trivial, trivial⟩, rfl, rfl⟩
            · rw [if_neg (beq_f b12)] at h
              refine ⟨b12, ?_⟩
              refine ⟨b12, ?_⟩
              refine ⟨b12, ?_⟩
              refine ⟨rfl, ?_⟩
              refine ⟨rfl, ?_⟩
              refine ⟨rfl, ?_⟩
              refine ⟨rfl, ?_⟩
              refine ⟨rfl, ?_⟩
              refine ⟨rfl, ?_⟩
              refine ⟨rfl, ?_⟩
              refine ⟨rfl, ?_⟩
              refine ⟨rfl, ?_⟩
              refine ⟨rfl, ?_⟩
              refine ⟨rfl, ?_⟩
              refine ⟨rfl, ?_⟩
              refine ⟨rfl, ?_⟩
              refine ⟨rfl, ?_⟩
              refine ⟨rfl, ?_⟩
              refine ⟨rfl, ?_⟩
              refine ⟨rfl, ?_⟩
              refine ⟨rfl, ?_⟩
              refine ⟨trivial, ?_⟩
              obtain rfl := Option.some.inj h
              exact ⟨trivial, ⟨trivial, trivial⟩, rfl, rfl⟩
          · rw [if_neg (beq_f b11)] at h
            refine ⟨b11, ?_⟩
            refine ⟨b11, ?_⟩
            refine ⟨b11, ?_⟩
            refine ⟨b11, ?_⟩
            refine ⟨b11, ?_⟩
            refine ⟨rfl, ?_⟩
            refine ⟨rfl, ?_⟩
            refine ⟨rfl, ?_⟩
            refine ⟨rfl, ?_⟩
            refine ⟨rfl, ?_⟩
            refine ⟨rfl, ?_⟩
            refine ⟨rfl, ?_⟩
            refine ⟨rfl, ?_⟩
            refine ⟨rfl, ?_⟩
            refine ⟨rfl, ?_⟩
            refine ⟨rfl, ?_⟩
            refine ⟨rfl, ?_⟩
            refine ⟨rfl, ?_⟩
            refine ⟨rfl, ?_⟩
            refine ⟨rfl, ?_⟩
            refine ⟨rfl, ?_⟩
            refine ⟨rfl, ?_⟩
            refine ⟨rfl, ?_⟩
            refine ⟨rfl, ?_⟩
            refine ⟨rfl, ?_⟩
            refine ⟨rfl, ?_⟩
            refine ⟨rfl, ?_⟩
            refine ⟨trivial, ?_⟩
            obtain rfl := Option.some.inj h
            exact ⟨trivial, ⟨trivial, trivial⟩, rfl, rfl⟩
        · rw [if_neg (beq_f b10)] at h
          refine ⟨b10, ?_⟩
          refine ⟨b10, ?_⟩
          refine ⟨b10, ?_⟩
          refine ⟨b10, ?_⟩
          refine ⟨rfl, ?_⟩
          refine ⟨rfl, ?_⟩
          refine ⟨rfl, ?_⟩
          refine ⟨rfl, ?_⟩
          refine ⟨rfl, ?_⟩
          refine ⟨rfl, ?_⟩
          refine ⟨rfl, ?_⟩
          refine ⟨rfl, ?_⟩
          refine ⟨rfl, ?_⟩
          refine ⟨rfl, ?_⟩
          refine ⟨rfl, ?_⟩
          refine ⟨rfl, ?_⟩
          refine ⟨rfl, ?_⟩
          refine ⟨rfl, ?_⟩
          refine ⟨rfl, ?_⟩
          refine ⟨rfl, ?_⟩
          refine ⟨rfl, ?_⟩
          refine ⟨rfl, ?_⟩
          refine ⟨rfl, ?_⟩
          refine ⟨rfl, ?_⟩
          refine ⟨rfl, ?_⟩
          refine ⟨rfl, ?_⟩
          refine ⟨rfl, ?_⟩
          refine ⟨rfl, ?_⟩
          refine ⟨rfl, ?_⟩
          refine ⟨rfl, ?_⟩
          refine ⟨rfl, ?_⟩
          refine ⟨rfl, ?_⟩
          refine ⟨trivial, ?_⟩
          obtain rfl := Option.some.inj h
          exact ⟨trivial, ⟨trivial, trivial⟩, rfl, rfl⟩
      · rw [if_neg (none_f b8)] at h
        refine ⟨b8, ?_⟩
        refine ⟨b8, ?_⟩
        refine ⟨b8, ?_⟩
        refine ⟨rfl, ?_⟩
        refine ⟨rfl, ?_⟩
        refine ⟨rfl, ?_⟩
        refine ⟨rfl, ?_⟩
        refine ⟨rfl, ?_⟩
        refine ⟨rfl, ?_⟩
        refine ⟨rfl, ?_⟩
        refine ⟨rfl, ?_⟩
        refine ⟨rfl, ?_⟩
        refine ⟨rfl, ?_⟩
        refine ⟨rfl, ?_⟩
        refine ⟨rfl, ?_⟩
        refine ⟨rfl, ?_⟩
        refine ⟨rfl, ?_⟩
        refine ⟨rfl, ?_⟩
        refine ⟨rfl, ?_⟩
        refine ⟨rfl, ?_⟩
        refine ⟨rfl, ?_⟩
        refine ⟨rfl, ?_⟩
        refine ⟨rfl, ?_⟩
        refine ⟨rfl, ?_⟩
        refine ⟨rfl, ?_⟩
        refine ⟨rfl, ?_⟩
        refine ⟨rfl, ?_⟩
        refine ⟨rfl, ?_⟩
        refine ⟨rfl, ?_⟩
        refine ⟨rfl, ?_⟩
        refine ⟨rfl, ?_⟩
        refine ⟨rfl, ?_⟩
        refine ⟨rfl, ?_⟩
        refine ⟨rfl, ?_⟩
        refine ⟨rfl, ?_⟩
        refine ⟨rfl, ?_⟩
        refine ⟨trivial, ?_⟩
        obtain rfl := Option.some.inj h
        exact ⟨trivial, ⟨trivial, trivial⟩, rfl, rfl⟩
    · rw [if_neg (none_f b7)] at h
      refine ⟨b7, ?_⟩
      refine ⟨b7, ?_⟩
      refine ⟨rfl, ?_⟩
      refine ⟨rfl, ?_⟩
      refine ⟨rfl, ?_⟩
      refine ⟨rfl, ?_⟩
      refine ⟨rfl, ?_⟩
      refine ⟨rfl, ?_⟩
      refine ⟨rfl, ?_⟩
      refine ⟨rfl, ?_⟩
      refine ⟨rfl, ?_⟩
      refine ⟨rfl, ?_⟩
      refine ⟨rfl, ?_⟩
      refine ⟨rfl, ?_⟩
      refine ⟨rfl, ?_⟩
      refine ⟨rfl, ?_⟩
      refine ⟨rfl, ?_⟩
      refine ⟨rfl, ?_⟩
      refine ⟨rfl, ?_⟩
      refine ⟨rfl, ?_⟩
      refine ⟨rfl, ?_⟩
      refine ⟨rfl, ?_⟩
      refine ⟨rfl, ?_⟩
      refine ⟨rfl, ?_⟩
      refine ⟨rfl, ?_⟩
      refine ⟨rfl, ?_⟩
      refine ⟨rfl, ?_⟩
      refine ⟨rfl, ?_⟩
      refine ⟨rfl, ?_⟩
      refine ⟨rfl, ?_⟩
      refine ⟨rfl, ?_⟩
      refine ⟨rfl, ?_⟩
      refine ⟨rfl, ?_⟩
      refine ⟨rfl, ?_⟩
      refine ⟨rfl, ?_⟩
      refine ⟨rfl, ?_⟩
      refine ⟨rfl, ?_⟩
      refine ⟨rfl, ?_⟩
      refine ⟨rfl, ?_⟩
      refine ⟨trivial, ?_⟩
      obtain rfl := Option.some.inj h
      exact ⟨trivial, ⟨trivial, trivial⟩, rfl, rfl⟩
  · rw [if_neg (none_f b6)] at h
    refine ⟨b6, ?_⟩
    refine ⟨b6, ?_⟩
    refine ⟨rfl, ?_⟩
    refine ⟨rfl, ?_⟩
    refine ⟨rfl, ?_⟩
    refine ⟨rfl, ?_⟩
    refine ⟨rfl, ?_⟩
    refine ⟨rfl, ?_⟩
    refine ⟨rfl, ?_⟩
    refine ⟨rfl, ?_⟩
    refine ⟨rfl, ?_⟩
    refine ⟨rfl, ?_⟩
    refine ⟨rfl, ?_⟩
    refine ⟨rfl, ?_⟩
    refine ⟨rfl, ?_⟩
    refine ⟨rfl, ?_⟩
    refine ⟨rfl, ?_⟩
    refine ⟨rfl, ?_⟩
    refine ⟨rfl, ?_⟩
    refine ⟨rfl, ?_⟩
    refine ⟨rfl, ?_⟩
    refine ⟨rfl, ?_⟩
    refine ⟨rfl, ?_⟩
    refine ⟨rfl, ?_⟩
    refine ⟨rfl, ?_⟩
    refine ⟨rfl, ?_⟩
    refine ⟨rfl, ?_⟩
    refine ⟨rfl, ?_⟩
    refine ⟨rfl, ?_⟩
    refine ⟨rfl, ?_⟩
    refine ⟨rfl, ?_⟩
    refine ⟨rfl, ?_⟩
    refine ⟨rfl, ?_⟩
    refine ⟨rfl, ?_⟩
    refine ⟨rfl, ?_⟩
    refine ⟨rfl, ?_⟩
    refine ⟨rfl, ?_⟩
    refine ⟨rfl, ?_⟩
    refine ⟨rfl, ?_⟩
    refine ⟨rfl, ?_⟩
    refine ⟨rfl, ?_⟩
    refine ⟨rfl, ?_⟩
    refine ⟨trivial, ?_⟩
    obtain rfl := Option.some.inj h
    exact ⟨trivial, ⟨trivial, trivial⟩, rfl, rfl⟩
/-! halter/halterlaw33.ProcLetters -/
def halterlaw33_ProcLetters.f (a0 : Int) (a1 : Int) (a2 : ByteArray) (a3 : (List Int)) (a4 : Int) (a5 : Int) (a6 : (List Int)) (a7 : (List Int)) (a8 : Int) (a9 : Int) (a10 : (List Int)) (a11 : Int) (a12 : Bool) (a13 : Int) (a14 : Int) (a15 : Int) (a16 : Bool) (a17 : Bool) (a18 : Bool) (a19 : Int) (a20 : Int) (a21 : Int) (a22 : Int) : Option Bool :=
  (halterlaw33_giveProc.f a0 a1 a2 a3 a4 a5 a6 a7 a8 a9 a10 a11 a12 a13 a14 a15 a16 a17 a18 a19 a20).bind fun t1 =>
  (proc_Letter.f t1.1 t1.2.1 t1.2.2.1 t1.2.2.2.1 t1.2.2.2.2.1 t1.2.2.2.2.2.1 t1.2.2.2.2.2.2.1 t1.2.2.2.2.2.2.2.1 t1.2.2.2.2.2.2.2.2.1 t1.2.2.2.2.2.2.2.2.2.1 t1.2.2.2.2.2.2.2.2.2.2.1 t1.2.2.2.2.2.2.2.2.2.2.2.1 t1.2.2.2.2.2.2.2.2.2.2.2.2.1 t1.2.2.2.2.2.2.2.2.2.2.2.2.2.1 t1.2.2.2.2.2.2.2.2.2.2.2.2.2.2.1 t1.2.2.2.2.2.2.2.2.2.2.2.2.2.2.2.1 t1.2.2.2.2.2.2.2.2.2.2.2.2.2.2.2.2.1 t1.2.2.2.2.2.2.2.2.2.2.2.2.2.2.2.2.2.1 t1.2.2.2.2.2.2.2.2.2.2.2.2.2.2.2.2.2.2.1 t1.2.2.2.2.2.2.2.2.2.2.2.2.2.2.2.2.2.2.2.1 t1.2.2.2.2.2.2.2.2.2.2.2.2.2.2.2.2.2.2.2.2 false).bind fun t2 =>
  (proc_Runs.f t1.1 t1.2.1 t1.2.2.1 t1.2.2.2.1 t1.2.2.2.2.1 t1.2.2.2.2.2.1 t1.2.2.2.2.2.2.1 t1.2.2.2.2.2.2.2.1 t1.2.2.2.2.2.2.2.2.1 t1.2.2.2.2.2.2.2.2.2.1 t1.2.2.2.2.2.2.2.2.2.2.1 t1.2.2.2.2.2.2.2.2.2.2.2.1 t1.2.2.2.2.2.2.2.2.2.2.2.2.1 t1.2.2.2.2.2.2.2.2.2.2.2.2.2.1 t1.2.2.2.2.2.2.2.2.2.2.2.2.2.2.1 t1.2.2.2.2.2.2.2.2.2.2.2.2.2.2.2.1 t1.2.2.2.2.2.2.2.2.2.2.2.2.2.2.2.2.1 t1.2.2.2.2.2.2.2.2.2.2.2.2.2.2.2.2.2.1 t1.2.2.2.2.2.2.2.2.2.2.2.2.2.2.2.2.2.2.1 t1.2.2.2.2.2.2.2.2.2.2.2.2.2.2.2.2.2.2.2.1 t1.2.2.2.2.2.2.2.2.2.2.2.2.2.2.2.2.2.2.2.2).bind fun t3 =>
  if t2 = (82 : Int) then
    if ¬ (t3 = true) then
      some false
    else
      (proc_Letter.f t1.1 t1.2.1 t1.2.2.1 t1.2.2.2.1 t1.2.2.2.2.1 t1.2.2.2.2.2.1 t1.2.2.2.2.2.2.1 t1.2.2.2.2.2.2.2.1 t1.2.2.2.2.2.2.2.2.1 t1.2.2.2.2.2.2.2.2.2.1 t1.2.2.2.2.2.2.2.2.2.2.1 t1.2.2.2.2.2.2.2.2.2.2.2.1 t1.2.2.2.2.2.2.2.2.2.2.2.2.1 t1.2.2.2.2.2.2.2.2.2.2.2.2.2.1 t1.2.2.2.2.2.2.2.2.2.2.2.2.2.2.1 t1.2.2.2.2.2.2.2.2.2.2.2.2.2.2.2.1 t1.2.2.2.2.2.2.2.2.2.2.2.2.2.2.2.2.1 t1.2.2.2.2.2.2.2.2.2.2.2.2.2.2.2.2.2.1 t1.2.2.2.2.2.2.2.2.2.2.2.2.2.2.2.2.2.2.1 t1.2.2.2.2.2.2.2.2.2.2.2.2.2.2.2.2.2.2.2.1 t1.2.2.2.2.2.2.2.2.2.2.2.2.2.2.2.2.2.2.2.2 true).bind fun t6 =>
      if ¬ t6 = (90 : Int) then
        some false
      else
        (proc_Answer.f t1.1 t1.2.1 t1.2.2.1 t1.2.2.2.1 t1.2.2.2.2.1 t1.2.2.2.2.2.1 t1.2.2.2.2.2.2.1 t1.2.2.2.2.2.2.2.1 t1.2.2.2.2.2.2.2.2.1 t1.2.2.2.2.2.2.2.2.2.1 t1.2.2.2.2.2.2.2.2.2.2.1 t1.2.2.2.2.2.2.2.2.2.2.2.1 t1.2.2.2.2.2.2.2.2.2.2.2.2.1 t1.2.2.2.2.2.2.2.2.2.2.2.2.2.1 t1.2.2.2.2.2.2.2.2.2.2.2.2.2.2.1 t1.2.2.2.2.2.2.2.2.2.2.2.2.2.2.2.1 t1.2.2.2.2.2.2.2.2.2.2.2.2.2.2.2.2.1 t1.2.2.2.2.2.2.2.2.2.2.2.2.2.2.2.2.2.1 t1.2.2.2.2.2.2.2.2.2.2.2.2.2.2.2.2.2.2.1 t1.2.2.2.2.2.2.2.2.2.2.2.2.2.2.2.2.2.2.2.1 t1.2.2.2.2.2.2.2.2.2.2.2.2.2.2.2.2.2.2.2.2 a22).bind fun t8 =>
        if ¬ ((t8.1 = t1.1 ∧ (t8.2.1 = t1.2.1 ∧ (t8.2.2.1 = t1.2.2.1 ∧ (((List.set t8.2.2.2.1 0 (List.getD t1.2.2.2.1 0 (0 : Int))) = t1.2.2.2.1 ∧ (t8.2.2.2.2.1 = t1.2.2.2.2.1 ∧ (t8.2.2.2.2.2.1 = t1.2.2.2.2.2.1 ∧ t8.2.2.2.2.2.2.1 = t1.2.2.2.2.2.2.1))) ∧ (t8.2.2.2.2.2.2.2.1 = t1.2.2.2.2.2.2.2.1 ∧ ((t8.2.2.2.2.2.2.2.2.1 = t1.2.2.2.2.2.2.2.2.1 ∧ (t8.2.2.2.2.2.2.2.2.2.1 = t1.2.2.2.2.2.2.2.2.2.1 ∧ t8.2.2.2.2.2.2.2.2.2.2.1 = t1.2.2.2.2.2.2.2.2.2.2.1)) ∧ ((t8.2.2.2.2.2.2.2.2.2.2.2.1 = t1.2.2.2.2.2.2.2.2.2.2.2.1 ∧ (t8.2.2.2.2.2.2.2.2.2.2.2.2.1 = t1.2.2.2.2.2.2.2.2.2.2.2.2.1 ∧ (t8.2.2.2.2.2.2.2.2.2.2.2.2.2.1 = t1.2.2.2.2.2.2.2.2.2.2.2.2.2.1 ∧ (t8.2.2.2.2.2.2.2.2.2.2.2.2.2.2.1 = t1.2.2.2.2.2.2.2.2.2.2.2.2.2.2.1 ∧ (t8.2.2.2.2.2.2.2.2.2.2.2.2.2.2.2.1 = t1.2.2.2.2.2.2.2.2.2.2.2.2.2.2.2.1 ∧ t8.2.2.2.2.2.2.2.2.2.2.2.2.2.2.2.2.1 = t1.2.2.2.2.2.2.2.2.2.2.2.2.2.2.2.2.1))))) ∧ (t8.2.2.2.2.2.2.2.2.2.2.2.2.2.2.2.2.2.1 = t1.2.2.2.2.2.2.2.2.2.2.2.2.2.2.2.2.2.1 ∧ (t8.2.2.2.2.2.2.2.2.2.2.2.2.2.2.2.2.2.2.1 = t1.2.2.2.2.2.2.2.2.2.2.2.2.2.2.2.2.2.2.1 ∧ (t1.2.2.2.2.2.2.2.2.2.2.2.2.2.2.2.2.2.2.2.1 = t1.2.2.2.2.2.2.2.2.2.2.2.2.2.2.2.2.2.2.2.1 ∧ t8.2.2.2.2.2.2.2.2.2.2.2.2.2.2.2.2.2.2.2.2 = t1.2.2.2.2.2.2.2.2.2.2.2.2.2.2.2.2.2.2.2.2))))))))))) then
          some false
        else
          if ¬ (List.getD t8.2.2.2.1 0 (0 : Int)) = a22 then
            some false
          else
            if ¬ t8.2.2.2.2.2.2.2.2.2.2.2.2.2.2.2.2.2.2.2.1 = (0 : Int) then
              some false
            else
              (proc_Check.f t1.1 t1.2.1 t1.2.2.1 t1.2.2.2.1 t1.2.2.2.2.1 t1.2.2.2.2.2.1 t1.2.2.2.2.2.2.1 t1.2.2.2.2.2.2.2.1 t1.2.2.2.2.2.2.2.2.1 t1.2.2.2.2.2.2.2.2.2.1 t1.2.2.2.2.2.2.2.2.2.2.1 t1.2.2.2.2.2.2.2.2.2.2.2.1 t1.2.2.2.2.2.2.2.2.2.2.2.2.1 t1.2.2.2.2.2.2.2.2.2.2.2.2.2.1 t1.2.2.2.2.2.2.2.2.2.2.2.2.2.2.1 t1.2.2.2.2.2.2.2.2.2.2.2.2.2.2.2.1 t1.2.2.2.2.2.2.2.2.2.2.2.2.2.2.2.2.1 t1.2.2.2.2.2.2.2.2.2.2.2.2.2.2.2.2.2.1 t1.2.2.2.2.2.2.2.2.2.2.2.2.2.2.2.2.2.2.1 t1.2.2.2.2.2.2.2.2.2.2.2.2.2.2.2.2.2.2.2.1 t1.2.2.2.2.2.2.2.2.2.2.2.2.2.2.2.2.2.2.2.2).bind fun t12 =>
              if ¬ (t12 = none) then
                halterlaw33_sure.f.bind fun t14 =>
                some t14
              else
                (proc_Post.f t1.1 t1.2.1 t1.2.2.1 t1.2.2.2.1 t1.2.2.2.2.1 t1.2.2.2.2.2.1 t1.2.2.2.2.2.2.1 t1.2.2.2.2.2.2.2.1 t1.2.2.2.2.2.2.2.2.1 t1.2.2.2.2.2.2.2.2.2.1 t1.2.2.2.2.2.2.2.2.2.2.1 t1.2.2.2.2.2.2.2.2.2.2.2.1 t1.2.2.2.2.2.2.2.2.2.2.2.2.1 t1.2.2.2.2.2.2.2.2.2.2.2.2.2.1 t1.2.2.2.2.2.2.2.2.2.2.2.2.2.2.1 t1.2.2.2.2.2.2.2.2.2.2.2.2.2.2.2.1 t1.2.2.2.2.2.2.2.2.2.2.2.2.2.2.2.2.1 t1.2.2.2.2.2.2.2.2.2.2.2.2.2.2.2.2.2.1 t1.2.2.2.2.2.2.2.2.2.2.2.2.2.2.2.2.2.2.1 t1.2.2.2.2.2.2.2.2.2.2.2.2.2.2.2.2.2.2.2.1 t1.2.2.2.2.2.2.2.2.2.2.2.2.2.2.2.2.2.2.2.2 (IntKind.wrap .i64 ((1 : Int) + (IntKind.wrap .i64 ((Int.tmod (IntKind.wrap .u64 (a21)) (31 : Int))))))).bind fun t15 =>
                if t15.2.2.2.2.2.2.2.2.2.2.2.2.2.2.2.2.2.2.2.2.2 = none then
                  if t1.2.2.2.2.2.2.2.2.2.2.2.2.2.2.2.2.2.1 = true then
                    if ¬ (IntKind.wrap .i64 ((1 : Int) + (IntKind.wrap .i64 ((Int.tmod (IntKind.wrap .u64 (a21)) (31 : Int)))))) = (18 : Int) then
                      if t15.2.2.2.2.2.2.2.2.2.2.2.2.2.2.2.2.2.1 = ((IntKind.wrap .i64 ((1 : Int) + (IntKind.wrap .i64 ((Int.tmod (IntKind.wrap .u64 (a21)) (31 : Int)))))) != (9 : Int)) then
                        if (t15.2.2.2.2.2.2.2.2.2.2.2.1 = t1.2.2.2.2.2.2.2.2.2.2.2.1 ∧ (t15.2.2.2.2.2.2.2.2.2.2.2.2.1 = t1.2.2.2.2.2.2.2.2.2.2.2.2.1 ∧ (t15.2.2.2.2.2.2.2.2.2.2.2.2.2.1 = t1.2.2.2.2.2.2.2.2.2.2.2.2.2.1 ∧ (t15.2.2.2.2.2.2.2.2.2.2.2.2.2.2.1 = t1.2.2.2.2.2.2.2.2.2.2.2.2.2.2.1 ∧ (t15.2.2.2.2.2.2.2.2.2.2.2.2.2.2.2.1 = t1.2.2.2.2.2.2.2.2.2.2.2.2.2.2.2.1 ∧ t15.2.2.2.2.2.2.2.2.2.2.2.2.2.2.2.2.1 = t1.2.2.2.2.2.2.2.2.2.2.2.2.2.2.2.2.1))))) then
                          if t15.2.2.2.2.2.2.2.1 = t1.2.2.2.2.2.2.2.1 then
                            halterlaw33_sure.f.bind fun t22 =>
                            some t22
                          else
                            some false
                        else
                          some false
                      else
                        some false
                    else
                      if t15.2.2.2.2.2.2.2.2.2.2.2.2.2.2.2.2.2.1 = false then
                        if (t15.2.2.2.2.2.2.2.2.2.2.2.1 = t1.2.2.2.2.2.2.2.2.2.2.2.1 ∧ (t15.2.2.2.2.2.2.2.2.2.2.2.2.1 = t1.2.2.2.2.2.2.2.2.2.2.2.2.1 ∧ (t15.2.2.2.2.2.2.2.2.2.2.2.2.2.1 = t1.2.2.2.2.2.2.2.2.2.2.2.2.2.1 ∧ (t15.2.2.2.2.2.2.2.2.2.2.2.2.2.2.1 = t1.2.2.2.2.2.2.2.2.2.2.2.2.2.2.1 ∧ (t15.2.2.2.2.2.2.2.2.2.2.2.2.2.2.2.1 = t1.2.2.2.2.2.2.2.2.2.2.2.2.2.2.2.1 ∧ t15.2.2.2.2.2.2.2.2.2.2.2.2.2.2.2.2.1 = t1.2.2.2.2.2.2.2.2.2.2.2.2.2.2.2.2.1))))) then
                          if t15.2.2.2.2.2.2.2.1 = t1.2.2.2.2.2.2.2.1 then
                            halterlaw33_sure.f.bind fun t26 =>
                            some t26
                          else
                            some false
                        else
                          some false
                      else
                        some false
                  else
                    if t15.2.2.2.2.2.2.2.2.2.2.2.2.2.2.2.2.2.1 = false then
                      if (t15.2.2.2.2.2.2.2.2.2.2.2.1 = t1.2.2.2.2.2.2.2.2.2.2.2.1 ∧ (t15.2.2.2.2.2.2.2.2.2.2.2.2.1 = t1.2.2.2.2.2.2.2.2.2.2.2.2.1 ∧ (t15.2.2.2.2.2.2.2.2.2.2.2.2.2.1 = t1.2.2.2.2.2.2.2.2.2.2.2.2.2.1 ∧ (t15.2.2.2.2.2.2.2.2.2.2.2.2.2.2.1 = t1.2.2.2.2.2.2.2.2.2.2.2.2.2.2.1 ∧ (t15.2.2.2.2.2.2.2.2.2.2.2.2.2.2.2.1 = t1.2.2.2.2.2.2.2.2.2.2.2.2.2.2.2.1 ∧ t15.2.2.2.2.2.2.2.2.2.2.2.2.2.2.2.2.1 = t1.2.2.2.2.2.2.2.2.2.2.2.2.2.2.2.2.1))))) then
                        if t15.2.2.2.2.2.2.2.1 = t1.2.2.2.2.2.2.2.1 then
                          halterlaw33_sure.f.bind fun t30 =>
                          some t30
                        else
                          some false
                      else
                        some false
                    else
                      some false
                else
                  some false
  else
    if ¬ (t3 = (t2 == (83 : Int))) then
      some false
    else
      (proc_Letter.f t1.1 t1.2.1 t1.2.2.1 t1.2.2.2.1 t1.2.2.2.2.1 t1.2.2.2.2.2.1 t1.2.2.2.2.2.2.1 t1.2.2.2.2.2.2.2.1 t1.2.2.2.2.2.2.2.2.1 t1.2.2.2.2.2.2.2.2.2.1 t1.2.2.2.2.2.2.2.2.2.2.1 t1.2.2.2.2.2.2.2.2.2.2.2.1 t1.2.2.2.2.2.2.2.2.2.2.2.2.1 t1.2.2.2.2.2.2.2.2.2.2.2.2.2.1 t1.2.2.2.2.2.2.2.2.2.2.2.2.2.2.1 t1.2.2.2.2.2.2.2.2.2.2.2.2.2.2.2.1 t1.2.2.2.2.2.2.2.2.2.2.2.2.2.2.2.2.1 t1.2.2.2.2.2.2.2.2.2.2.2.2.2.2.2.2.2.1 t1.2.2.2.2.2.2.2.2.2.2.2.2.2.2.2.2.2.2.1 t1.2.2.2.2.2.2.2.2.2.2.2.2.2.2.2.2.2.2.2.1 t1.2.2.2.2.2.2.2.2.2.2.2.2.2.2.2.2.2.2.2.2 true).bind fun t32 =>
      if ¬ t32 = (90 : Int) then
        some false
      else
        (proc_Answer.f t1.1 t1.2.1 t1.2.2.1 t1.2.2.2.1 t1.2.2.2.2.1 t1.2.2.2.2.2.1 t1.2.2.2.2.2.2.1 t1.2.2.2.2.2.2.2.1 t1.2.2.2.2.2.2.2.2.1 t1.2.2.2.2.2.2.2.2.2.1 t1.2.2.2.2.2.2.2.2.2.2.1 t1.2.2.2.2.2.2.2.2.2.2.2.1 t1.2.2.2.2.2.2.2.2.2.2.2.2.1 t1.2.2.2.2.2.2.2.2.2.2.2.2.2.1 t1.2.2.2.2.2.2.2.2.2.2.2.2.2.2.1 t1.2.2.2.2.2.2.2.2.2.2.2.2.2.2.2.1 t1.2.2.2.2.2.2.2.2.2.2.2.2.2.2.2.2.1 t1.2.2.2.2.2.2.2.2.2.2.2.2.2.2.2.2.2.1 t1.2.2.2.2.2.2.2.2.2.2.2.2.2.2.2.2.2.2.1 t1.2.2.2.2.2.2.2.2.2.2.2.2.2.2.2.2.2.2.2.1 t1.2.2.2.2.2.2.2.2.2.2.2.2.2.2.2.2.2.2.2.2 a22).bind fun t34 =>
        if ¬ ((t34.1 = t1.1 ∧ (t34.2.1 = t1.2.1 ∧ (t34.2.2.1 = t1.2.2.1 ∧ (((List.set t34.2.2.2.1 0 (List.getD t1.2.2.2.1 0 (0 : Int))) = t1.2.2.2.1 ∧ (t34.2.2.2.2.1 = t1.2.2.2.2.1 ∧ (t34.2.2.2.2.2.1 = t1.2.2.2.2.2.1 ∧ t34.2.2.2.2.2.2.1 = t1.2.2.2.2.2.2.1))) ∧ (t34.2.2.2.2.2.2.2.1 = t1.2.2.2.2.2.2.2.1 ∧ ((t34.2.2.2.2.2.2.2.2.1 = t1.2.2.2.2.2.2.2.2.1 ∧ (t34.2.2.2.2.2.2.2.2.2.1 = t1.2.2.2.2.2.2.2.2.2.1 ∧ t34.2.2.2.2.2.2.2.2.2.2.1 = t1.2.2.2.2.2.2.2.2.2.2.1)) ∧ ((t34.2.2.2.2.2.2.2.2.2.2.2.1 = t1.2.2.2.2.2.2.2.2.2.2.2.1 ∧ (t34.2.2.2.2.2.2.2.2.2.2.2.2.1 = t1.2.2.2.2.2.2.2.2.2.2.2.2.1 ∧ (t34.2.2.2.2.2.2.2.2.2.2.2.2.2.1 = t1.2.2.2.2.2.2.2.2.2.2.2.2.2.1 ∧ (t34.2.2.2.2.2.2.2.2.2.2.2.2.2.2.1 = t1.2.2.2.2.2.2.2.2.2.2.2.2.2.2.1 ∧ (t34.2.2.2.2.2.2.2.2.2.2.2.2.2.2.2.1 = t1.2.2.2.2.2.2.2.2.2.2.2.2.2.2.2.1 ∧ t34.2.2.2.2.2.2.2.2.2.2.2.2.2.2.2.2.1 = t1.2.2.2.2.2.2.2.2.2.2.2.2.2.2.2.2.1))))) ∧ (t34.2.2.2.2.2.2.2.2.2.2.2.2.2.2.2.2.2.1 = t1.2.2.2.2.2.2.2.2.2.2.2.2.2.2.2.2.2.1 ∧ (t34.2.2.2.2.2.2.2.2.2.2.2.2.2.2.2.2.2.2.1 = t1.2.2.2.2.2.2.2.2.2.2.2.2.2.2.2.2.2.2.1 ∧ (t1.2.2.2.2.2.2.2.2.2.2.2.2.2.2.2.2.2.2.2.1 = t1.2.2.2.2.2.2.2.2.2.2.2.2.2.2.2.2.2.2.2.1 ∧ t34.2.2.2.2.2.2.2.2.2.2.2.2.2.2.2.2.2.2.2.2 = t1.2.2.2.2.2.2.2.2.2.2.2.2.2.2.2.2.2.2.2.2))))))))))) then
          some false
        else
          if ¬ (List.getD t34.2.2.2.1 0 (0 : Int)) = a22 then
            some false
          else
            if ¬ t34.2.2.2.2.2.2.2.2.2.2.2.2.2.2.2.2.2.2.2.1 = (0 : Int) then
              some false
            else
              (proc_Check.f t1.1 t1.2.1 t1.2.2.1 t1.2.2.2.1 t1.2.2.2.2.1 t1.2.2.2.2.2.1 t1.2.2.2.2.2.2.1 t1.2.2.2.2.2.2.2.1 t1.2.2.2.2.2.2.2.2.1 t1.2.2.2.2.2.2.2.2.2.1 t1.2.2.2.2.2.2.2.2.2.2.1 t1.2.2.2.2.2.2.2.2.2.2.2.1 t1.2.2.2.2.2.2.2.2.2.2.2.2.1 t1.2.2.2.2.2.2.2.2.2.2.2.2.2.1 t1.2.2.2.2.2.2.2.2.2.2.2.2.2.2.1 t1.2.2.2.2.2.2.2.2.2.2.2.2.2.2.2.1 t1.2.2.2.2.2.2.2.2.2.2.2.2.2.2.2.2.1 t1.2.2.2.2.2.2.2.2.2.2.2.2.2.2.2.2.2.1 t1.2.2.2.2.2.2.2.2.2.2.2.2.2.2.2.2.2.2.1 t1.2.2.2.2.2.2.2.2.2.2.2.2.2.2.2.2.2.2.2.1 t1.2.2.2.2.2.2.2.2.2.2.2.2.2.2.2.2.2.2.2.2).bind fun t38 =>
              if ¬ (t38 = none) then
                halterlaw33_sure.f.bind fun t40 =>
                some t40
              else
                (proc_Post.f t1.1 t1.2.1 t1.2.2.1 t1.2.2.2.1 t1.2.2.2.2.1 t1.2.2.2.2.2.1 t1.2.2.2.2.2.2.1 t1.2.2.2.2.2.2.2.1 t1.2.2.2.2.2.2.2.2.1 t1.2.2.2.2.2.2.2.2.2.1 t1.2.2.2.2.2.2.2.2.2.2.1 t1.2.2.2.2.2.2.2.2.2.2.2.1 t1.2.2.2.2.2.2.2.2.2.2.2.2.1 t1.2.2.2.2.2.2.2.2.2.2.2.2.2.1 t1.2.2.2.2.2.2.2.2.2.2.2.2.2.2.1 t1.2.2.2.2.2.2.2.2.2.2.2.2.2.2.2.1 t1.2.2.2.2.2.2.2.2.2.2.2.2.2.2.2.2.1 t1.2.2.2.2.2.2.2.2.2.2.2.2.2.2.2.2.2.1 t1.2.2.2.2.2.2.2.2.2.2.2.2.2.2.2.2.2.2.1 t1.2.2.2.2.2.2.2.2.2.2.2.2.2.2.2.2.2.2.2.1 t1.2.2.2.2.2.2.2.2.2.2.2.2.2.2.2.2.2.2.2.2 (IntKind.wrap .i64 ((1 : Int) + (IntKind.wrap .i64 ((Int.tmod (IntKind.wrap .u64 (a21)) (31 : Int))))))).bind fun t41 =>
                if t41.2.2.2.2.2.2.2.2.2.2.2.2.2.2.2.2.2.2.2.2.2 = none then
                  if t1.2.2.2.2.2.2.2.2.2.2.2.2.2.2.2.2.2.1 = true then
                    if ¬ (IntKind.wrap .i64 ((1 : Int) + (IntKind.wrap .i64 ((Int.tmod (IntKind.wrap .u64 (a21)) (31 : Int)))))) = (18 : Int) then
                      if t41.2.2.2.2.2.2.2.2.2.2.2.2.2.2.2.2.2.1 = ((IntKind.wrap .i64 ((1 : Int) + (IntKind.wrap .i64 ((Int.tmod (IntKind.wrap .u64 (a21)) (31 : Int)))))) != (9 : Int)) then
                        if (t41.2.2.2.2.2.2.2.2.2.2.2.1 = t1.2.2.2.2.2.2.2.2.2.2.2.1 ∧ (t41.2.2.2.2.2.2.2.2.2.2.2.2.1 = t1.2.2.2.2.2.2.2.2.2.2.2.2.1 ∧ (t41.2.2.2.2.2.2.2.2.2.2.2.2.2.1 = t1.2.2.2.2.2.2.2.2.2.2.2.2.2.1 ∧ (t41.2.2.2.2.2.2.2.2.2.2.2.2.2.2.1 = t1.2.2.2.2.2.2.2.2.2.2.2.2.2.2.1 ∧ (t41.2.2.2.2.2.2.2.2.2.2.2.2.2.2.2.1 = t1.2.2.2.2.2.2.2.2.2.2.2.2.2.2.2.1 ∧ t41.2.2.2.2.2.2.2.2.2.2.2.2.2.2.2.2.1 = t1.2.2.2.2.2.2.2.2.2.2.2.2.2.2.2.2.1))))) then
                          if t41.2.2.2.2.2.2.2.1 = t1.2.2.2.2.2.2.2.1 then
                            halterlaw33_sure.f.bind fun t48 =>
                            some t48
                          else
                            some false
                        else
                          some false
                      else
                        some false
                    else
                      if t41.2.2.2.2.2.2.2.2.2.2.2.2.2.2.2.2.2.1 = false then
                        if (t41.2.2.2.2.2.2.2.2.2.2.2.1 = t1.2.2.2.2.2.2.2.2.2.2.2.1 ∧ (t41.2.2.2.2.2.2.2.2.2.2.2.2.1 = t1.2.2.2.2.2.2.2.2.2.2.2.2.1 ∧ (t41.2.2.2.2.2.2.2.2.2.2.2.2.2.1 = t1.2.2.2.2.2.2.2.2.2.2.2.2.2.1 ∧ (t41.2.2.2.2.2.2.2.2.2.2.2.2.2.2.1 = t1.2.2.2.2.2.2.2.2.2.2.2.2.2.2.1 ∧ (t41.2.2.2.2.2.2.2.2.2.2.2.2.2.2.2.1 = t1.2.2.2.2.2.2.2.2.2.2.2.2.2.2.2.1 ∧ t41.2.2.2.2.2.2.2.2.2.2.2.2.2.2.2.2.1 = t1.2.2.2.2.2.2.2.2.2.2.2.2.2.2.2.2.1))))) then
                          if t41.2.2.2.2.2.2.2.1 = t1.2.2.2.2.2.2.2.1 then
                            halterlaw33_sure.f.bind fun t52 =>
                            some t52
                          else
                            some false
                        else
                          some false
                      else
                        some false
                  else
                    if t41.2.2.2.2.2.2.2.2.2.2.2.2.2.2.2.2.2.1 = false then
                      if (t41.2.2.2.2.2.2.2.2.2.2.2.1 = t1.2.2.2.2.2.2.2.2.2.2.2.1 ∧ (t41.2.2.2.2.2.2.2.2.2.2.2.2.1 = t1.2.2.2.2.2.2.2.2.2.2.2.2.1 ∧ (t41.2.2.2.2.2.2.2.2.2.2.2.2.2.1 = t1.2.2.2.2.2.2.2.2.2.2.2.2.2.1 ∧ (t41.2.2.2.2.2.2.2.2.2.2.2.2.2.2.1 = t1.2.2.2.2.2.2.2.2.2.2.2.2.2.2.1 ∧ (t41.2.2.2.2.2.2.2.2.2.2.2.2.2.2.2.1 = t1.2.2.2.2.2.2.2.2.2.2.2.2.2.2.2.1 ∧ t41.2.2.2.2.2.2.2.2.2.2.2.2.2.2.2.2.1 = t1.2.2.2.2.2.2.2.2.2.2.2.2.2.2.2.2.1))))) then
                        if t41.2.2.2.2.2.2.2.1 = t1.2.2.2.2.2.2.2.1 then
                          halterlaw33_sure.f.bind fun t56 =>
                          some t56
                        else
                          some false
                      else
                        some false
                    else
                      some false
                else
                  some false
def halterlaw33_ProcLetters.R (r : Bool) : Tm := .v (.one (.sc (.bool r)))
end Go.Proofs.YtbnlochgbhcfnaaDoorGProcLetters
