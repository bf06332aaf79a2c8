/- Printed by gen.py: the next part. -/
import Derived.Test.YtmpdijmcoboiiaaDoorGSigLawsp0
set_option linter.unusedVariables false
set_option maxRecDepth 100000
set_option maxHeartbeats 4000000
namespace Go.Proofs.YtmpdijmcoboiiaaDoorGSigLaws
open Go Go.Proofs.YtmpdijmcoboiiaaDoorE
theorem halterlaw25_SigLaws.j1_ok (x155 : Int) (x156 : Int) (x157 : List Int) (x158 : Int) (a0 : (List (Int × (Int × Int)))) (r : (Int × Int × (List Int)) ⊕ (Int × Int × (List Int))) (h : halterlaw25_SigLaws.j1 x155 x156 x157 x158 a0 = some r) : Trip cfg (cpath (Tryd.f4.body.getD .skip) [1, 1, 0, 1, 0, 0, 1, 0]) (halterlaw25_SigLaws.j1_S x155 x156 x157 x158 a0) (halterlaw25_SigLaws.j1_Q x155 x156 x157 x158 a0 r) := by
  unfold halterlaw25_SigLaws.j1 at h
  refine Trip.of_run cfg_ok (k := (.adj [] (.adj [] (.adj [] (.adj [] (.adj [] (.adj [.keep [0, 3, 4, 5, 6, 7, 36]] (.altb (.blk (Int × Int × (List Int) × (Option Int)) (fun _ => .normal) (fun t533 => ⟨[.v (.one (.fs (.pair (.int .i64) (.pair (.int .i64) (.int .u32))) a0 false)), .any, .any, .v (.one (.ptr 0 ⟨0, 0, 0, 0⟩)), .v (.one (.sc (.int .i64 x158))), .v (.one (.sc (.int .i64 (IntKind.wrap .i64 ((1 : Int) + (IntKind.wrap .i64 ((Int.tmod (IntKind.wrap .u64 ((List.getD a0 (Int.toNat x158) ((0 : Int), ((0 : Int), (0 : Int)))).2.1)) (31 : Int))))))))), .v (.one (.ptr 1 ⟨0, 0, 0, 0⟩)), .v (.one (.err t533.2.2.2)), .any, .any, .any, .any, .any, .any, .any, .any, .any, .any, .any, .any, .any, .any, .any, .any, .any, .any, .any, .any, .any, .any, .any, .any, .any, .any, .any, .any, .any, .any, .any, .any, .any, .any, .any, .any, .any, .any, .any, .any, .any, .any, .any, .any, .any, .any, .any, .any, .any, .any, .any, .any, .any, .any, .any, .any, .any, .any, .any, .any, .any, .any, .any, .any, .any, .any, .any, .any, .any, .any, .any, .any, .any, .any, .any, .any, .any, .any, .any, .any, .any, .any, .any, .any, .any, .any, .any, .any, .any, .any, .any, .any, .any, .any, .any, .any, .any, .any, .any, .any, .any, .any, .any, .any, .any, .any, .any, .any, .any, .any, .any, .any, .any, .any, .any, .any, .any, .any, .any, .any, .any, .any, .any, .any, .any, .any, .any, .any, .any, .any, .any, .any, .any, .any, .any, .any, .any, .any, .any, .any, .any, .any, .any, .any, .any, .any, .any, .any, .any, .any, .any, .any, .any, .any, .any, .any, .any, .any, .any, .any, .any, .any, .any, .any, .any, .any, .any, .any, .any, .any, .any, .any, .any], [.ex false [.c (.sc (.int .u32 x155)), .c (.sc (.int .u32 x156)), .row 32 (.int .u32) x157] 27, .ex false [.c (.sc (.int .u32 t533.1)), .c (.sc (.int .u32 t533.2.1)), .row 32 (.int .u32) t533.2.2.1] 27], 0⟩) (fun t533 => (.br (.call true [] (Int) (fun t539 => sig_Next.R t539) (fun t539 => (.call true [] ((Option Int)) (fun t540 => sig_Check.R t540) (fun t540 => (.br (.one true (.one true (.one true (.one true (.one true (.one true (.one true (.one true (.one true (.one true (.one true (.one true (.one true (.one true (.one true (.one true (.one true (.one true (.one true (.one true (.adj [] (.adj [.keep [2], .drop 1] .nil)))))))))))))))))))))) (.one false (.one false (.call true [] (Bool) (fun t542 => sigset_Has.R t542) (fun t542 => (.one false (.br (.one true (.one true (.one true (.one true (.one true (.one true (.one true (.one true (.one true (.one true (.one true (.one true (.one true (.one true (.one true (.one true (.adj [] (.adj [.keep [2], .drop 1] .nil)))))))))))))))))) (.one false (.one false (.call true [] (Bool) (fun t544 => sigset_Has.R t544) (fun t544 => (.one false (.br (.one true (.one false (.one true (.one false (.br (.one true (.one true (.one true (.one true (.one true (.one true (.one true (.one true (.one true (.one true (.adj [] (.adj [.keep [2], .drop 1] .nil)))))))))))) (.one false (.one false (.br (.one true (.one true (.one true (.call true [] (Bool) (fun t548 => sigset_Has.R t548) (fun t548 => (.one true (.one true (.br (.one true (.one true (.one true (.one true (.one true (.one false (.one true (.one false (.one true (.one true (.one true (.one true (.one true (.one true (.adj [] (.adj [.keep [2], .drop 1] .nil)))))))))))))))) (.one false (.one false (.one false (.call true [] (Bool) (fun t550 => sigset_Has.R t550) (fun t550 => (.one true (.one false (.one false (.one true (.one false (.br (.one true (.one true (.one true (.one true (.one true (.adj [] (.adj [.keep [2], .drop 1] .nil))))))) (.one false (.one false (.br (.one true (.one true (.one true (.one true (.one true (.call true [] (Int) (fun t553 => sigset_Count.R t553) (fun t553 => (.one true (.one false (.one true (.one false (.br (.adj [] (.adj [.keep [2], .drop 1] .nil)) (.adj [] (.adj [.keep [0, 3, 4], .drop 1] .nil)))))))))))))) (.one false (.one false (.one false (.one false (.one false (.one false (.one false (.one false (.one false (.one false (.adj [] (.adj [.keep [0, 3, 4], .drop 1] .nil)))))))))))))))))))))))))))))))))) (.one false (.one false (.one false (.one false (.one false (.one false (.one false (.one false (.one false (.one false (.one false (.one false (.br (.one true (.one true (.one true (.one true (.one true (.call true [] (Int) (fun t556 => sigset_Count.R t556) (fun t556 => (.one true (.one false (.one true (.one false (.br (.adj [] (.adj [.keep [2], .drop 1] .nil)) (.adj [] (.adj [.keep [0, 3, 4], .drop 1] .nil)))))))))))))) (.one false (.one false (.one false (.one false (.one false (.one false (.one false (.one false (.one false (.one false (.adj [] (.adj [.keep [0, 3, 4], .drop 1] .nil))))))))))))))))))))))))))))))))) (.one false (.one false (.one false (.one false (.one false (.one false (.one false (.br (.one true (.one true (.one true (.call true [] (Bool) (fun t559 => sigset_Has.R t559) (fun t559 => (.one true (.one true (.br (.one true (.one true (.one true (.one true (.one true (.one false (.one true (.one false (.one true (.one true (.one true (.one true (.one true (.one true (.adj [] (.adj [.keep [2], .drop 1] .nil)))))))))))))))) (.one false (.one false (.one false (.call true [] (Bool) (fun t561 => sigset_Has.R t561) (fun t561 => (.one true (.one false (.one false (.one true (.one false (.br (.one true (.one true (.one true (.one true (.one true (.adj [] (.adj [.keep [2], .drop 1] .nil))))))) (.one false (.one false (.br (.one true (.one true (.one true (.one true (.one true (.call true [] (Int) (fun t564 => sigset_Count.R t564) (fun t564 => (.one true (.one false (.one true (.one false (.br (.adj [] (.adj [.keep [2], .drop 1] .nil)) (.adj [] (.adj [.keep [0, 3, 4], .drop 1] .nil)))))))))))))) (.one false (.one false (.one false (.one false (.one false (.one false (.one false (.one false (.one false (.one false (.adj [] (.adj [.keep [0, 3, 4], .drop 1] .nil)))))))))))))))))))))))))))))))))) (.one false (.one false (.one false (.one false (.one false (.one false (.one false (.one false (.one false (.one false (.one false (.one false (.br (.one true (.one true (.one true (.one true (.one true (.call true [] (Int) (fun t567 => sigset_Count.R t567) (fun t567 => (.one true (.one false (.one true (.one false (.br (.adj [] (.adj [.keep [2], .drop 1] .nil)) (.adj [] (.adj [.keep [0, 3, 4], .drop 1] .nil)))))))))))))) (.one false (.one false (.one false (.one false (.one false (.one false (.one false (.one false (.one false (.one false (.adj [] (.adj [.keep [0, 3, 4], .drop 1] .nil)))))))))))))))))))))))))))))))))))))))))))))))))) (.br (.one true (.one true (.br (.adj [] (.adj [.keep [2], .drop 1] .nil)) (.call true [] (Int) (fun t571 => sig_Next.R t571) (fun t571 => (.call true [] ((Option Int)) (fun t572 => sig_Check.R t572) (fun t572 => (.br (.one true (.one true (.one true (.one true (.one true (.one true (.one true (.one true (.one true (.one true (.one true (.one true (.one true (.one true (.one true (.one true (.one true (.one true (.one true (.one true (.adj [] (.adj [.keep [2], .drop 1] .nil)))))))))))))))))))))) (.one false (.one false (.call true [] (Bool) (fun t574 => sigset_Has.R t574) (fun t574 => (.one false (.br (.one true (.one true (.one true (.one true (.one true (.one true (.one true (.one true (.one true (.one true (.one true (.one true (.one true (.one true (.one true (.one true (.adj [] (.adj [.keep [2], .drop 1] .nil)))))))))))))))))) (.one false (.one false (.call true [] (Bool) (fun t576 => sigset_Has.R t576) (fun t576 => (.one false (.br (.one true (.one false (.one true (.one false (.br (.one true (.one true (.one true (.one true (.one true (.one true (.one true (.one true (.one true (.one true (.adj [] (.adj [.keep [2], .drop 1] .nil)))))))))))) (.one false (.one false (.br (.one true (.one true (.one true (.call true [] (Bool) (fun t580 => sigset_Has.R t580) (fun t580 => (.one true (.one true (.br (.one true (.one true (.one true (.one true (.one true (.one false (.one true (.one false (.one true (.one true (.one true (.one true (.one true (.one true (.adj [] (.adj [.keep [2], .drop 1] .nil)))))))))))))))) (.one false (.one false (.one false (.call true [] (Bool) (fun t582 => sigset_Has.R t582) (fun t582 => (.one true (.one false (.one false (.one true (.one false (.br (.one true (.one true (.one true (.one true (.one true (.adj [] (.adj [.keep [2], .drop 1] .nil))))))) (.one false (.one false (.br (.one true (.one true (.one true (.one true (.one true (.call true [] (Int) (fun t585 => sigset_Count.R t585) (fun t585 => (.one true (.one false (.one true (.one false (.br (.adj [] (.adj [.keep [2], .drop 1] .nil)) (.adj [] (.adj [.keep [0, 3, 4], .drop 1] .nil)))))))))))))) (.one false (.one false (.one false (.one false (.one false (.one false (.one false (.one false (.one false (.one false (.adj [] (.adj [.keep [0, 3, 4], .drop 1] .nil)))))))))))))))))))))))))))))))))) (.one false (.one false (.one false (.one false (.one false (.one false (.one false (.one false (.one false (.one false (.one false (.one false (.br (.one true (.one true (.one true (.one true (.one true (.call true [] (Int) (fun t588 => sigset_Count.R t588) (fun t588 => (.one true (.one false (.one true (.one false (.br (.adj [] (.adj [.keep [2], .drop 1] .nil)) (.adj [] (.adj [.keep [0, 3, 4], .drop 1] .nil)))))))))))))) (.one false (.one false (.one false (.one false (.one false (.one false (.one false (.one false (.one false (.one false (.adj [] (.adj [.keep [0, 3, 4], .drop 1] .nil))))))))))))))))))))))))))))))))) (.one false (.one false (.one false (.one false (.one false (.one false (.one false (.br (.one true (.one true (.one true (.call true [] (Bool) (fun t591 => sigset_Has.R t591) (fun t591 => (.one true (.one true (.br (.one true (.one true (.one true (.one true (.one true (.one false (.one true (.one false (.one true (.one true (.one true (.one true (.one true (.one true (.adj [] (.adj [.keep [2], .drop 1] .nil)))))))))))))))) (.one false (.one false (.one false (.call true [] (Bool) (fun t593 => sigset_Has.R t593) (fun t593 => (.one true (.one false (.one false (.one true (.one false (.br (.one true (.one true (.one true (.one true (.one true (.adj [] (.adj [.keep [2], .drop 1] .nil))))))) (.one false (.one false (.br (.one true (.one true (.one true (.one true (.one true (.call true [] (Int) (fun t596 => sigset_Count.R t596) (fun t596 => (.one true (.one false (.one true (.one false (.br (.adj [] (.adj [.keep [2], .drop 1] .nil)) (.adj [] (.adj [.keep [0, 3, 4], .drop 1] .nil)))))))))))))) (.one false (.one false (.one false (.one false (.one false (.one false (.one false (.one false (.one false (.one false (.adj [] (.adj [.keep [0, 3, 4], .drop 1] .nil)))))))))))))))))))))))))))))))))) (.one false (.one false (.one false (.one false (.one false (.one false (.one false (.one false (.one false (.one false (.one false (.one false (.br (.one true (.one true (.one true (.one true (.one true (.call true [] (Int) (fun t599 => sigset_Count.R t599) (fun t599 => (.one true (.one false (.one true (.one false (.br (.adj [] (.adj [.keep [2], .drop 1] .nil)) (.adj [] (.adj [.keep [0, 3, 4], .drop 1] .nil)))))))))))))) (.one false (.one false (.one false (.one false (.one false (.one false (.one false (.one false (.one false (.one false (.adj [] (.adj [.keep [0, 3, 4], .drop 1] .nil))))))))))))))))))))))))))))))))))))))))))))))))))))) (.one false (.one false (.one false (.call true [] (Int) (fun t601 => sig_Next.R t601) (fun t601 => (.call true [] ((Option Int)) (fun t602 => sig_Check.R t602) (fun t602 => (.br (.one true (.one true (.one true (.one true (.one true (.one true (.one true (.one true (.one true (.one true (.one true (.one true (.one true (.one true (.one true (.one true (.one true (.one true (.one true (.one true (.adj [] (.adj [.keep [2], .drop 1] .nil)))))))))))))))))))))) (.one false (.one false (.call true [] (Bool) (fun t604 => sigset_Has.R t604) (fun t604 => (.one false (.br (.one true (.one true (.one true (.one true (.one true (.one true (.one true (.one true (.one true (.one true (.one true (.one true (.one true (.one true (.one true (.one true (.adj [] (.adj [.keep [2], .drop 1] .nil)))))))))))))))))) (.one false (.one false (.call true [] (Bool) (fun t606 => sigset_Has.R t606) (fun t606 => (.one false (.br (.one true (.one false (.one true (.one false (.br (.one true (.one true (.one true (.one true (.one true (.one true (.one true (.one true (.one true (.one true (.adj [] (.adj [.keep [2], .drop 1] .nil)))))))))))) (.one false (.one false (.br (.one true (.one true (.one true (.call true [] (Bool) (fun t610 => sigset_Has.R t610) (fun t610 => (.one true (.one true (.br (.one true (.one true (.one true (.one true (.one true (.one false (.one true (.one false (.one true (.one true (.one true (.one true (.one true (.one true (.adj [] (.adj [.keep [2], .drop 1] .nil)))))))))))))))) (.one false (.one false (.one false (.call true [] (Bool) (fun t612 => sigset_Has.R t612) (fun t612 => (.one true (.one false (.one false (.one true (.one false (.br (.one true (.one true (.one true (.one true (.one true (.adj [] (.adj [.keep [2], .drop 1] .nil))))))) (.one false (.one false (.br (.one true (.one true (.one true (.one true (.one true (.call true [] (Int) (fun t615 => sigset_Count.R t615) (fun t615 => (.one true (.one false (.one true (.one false (.br (.adj [] (.adj [.keep [2], .drop 1] .nil)) (.adj [] (.adj [.keep [0, 3, 4], .drop 1] .nil)))))))))))))) (.one false (.one false (.one false (.one false (.one false (.one false (.one false (.one false (.one false (.one false (.adj [] (.adj [.keep [0, 3, 4], .drop 1] .nil)))))))))))))))))))))))))))))))))) (.one false (.one false (.one false (.one false (.one false (.one false (.one false (.one false (.one false (.one false (.one false (.one false (.br (.one true (.one true (.one true (.one true (.one true (.call true [] (Int) (fun t618 => sigset_Count.R t618) (fun t618 => (.one true (.one false (.one true (.one false (.br (.adj [] (.adj [.keep [2], .drop 1] .nil)) (.adj [] (.adj [.keep [0, 3, 4], .drop 1] .nil)))))))))))))) (.one false (.one false (.one false (.one false (.one false (.one false (.one false (.one false (.one false (.one false (.adj [] (.adj [.keep [0, 3, 4], .drop 1] .nil))))))))))))))))))))))))))))))))) (.one false (.one false (.one false (.one false (.one false (.one false (.one false (.br (.one true (.one true (.one true (.call true [] (Bool) (fun t621 => sigset_Has.R t621) (fun t621 => (.one true (.one true (.br (.one true (.one true (.one true (.one true (.one true (.one false (.one true (.one false (.one true (.one true (.one true (.one true (.one true (.one true (.adj [] (.adj [.keep [2], .drop 1] .nil)))))))))))))))) (.one false (.one false (.one false (.call true [] (Bool) (fun t623 => sigset_Has.R t623) (fun t623 => (.one true (.one false (.one false (.one true (.one false (.br (.one true (.one true (.one true (.one true (.one true (.adj [] (.adj [.keep [2], .drop 1] .nil))))))) (.one false (.one false (.br (.one true (.one true (.one true (.one true (.one true (.call true [] (Int) (fun t626 => sigset_Count.R t626) (fun t626 => (.one true (.one false (.one true (.one false (.br (.adj [] (.adj [.keep [2], .drop 1] .nil)) (.adj [] (.adj [.keep [0, 3, 4], .drop 1] .nil)))))))))))))) (.one false (.one false (.one false (.one false (.one false (.one false (.one false (.one false (.one false (.one false (.adj [] (.adj [.keep [0, 3, 4], .drop 1] .nil)))))))))))))))))))))))))))))))))) (.one false (.one false (.one false (.one false (.one false (.one false (.one false (.one false (.one false (.one false (.one false (.one false (.br (.one true (.one true (.one true (.one true (.one true (.call true [] (Int) (fun t629 => sigset_Count.R t629) (fun t629 => (.one true (.one false (.one true (.one false (.br (.adj [] (.adj [.keep [2], .drop 1] .nil)) (.adj [] (.adj [.keep [0, 3, 4], .drop 1] .nil)))))))))))))) (.one false (.one false (.one false (.one false (.one false (.one false (.one false (.one false (.one false (.one false (.adj [] (.adj [.keep [0, 3, 4], .drop 1] .nil))))))))))))))))))))))))))))))))))))))))))))))))))))))))) (.blk (Unit) (fun _ => .ret) (fun t631 => ⟨[.any, .any, .v (.one (.sc (.bool false))), .any, .any, .any, .any, .any, .any, .any, .any, .any, .any, .any, .any, .any, .any, .any, .any, .any, .any, .any, .any, .any, .any, .any, .any, .any, .any, .any, .any, .any, .any, .any, .any, .any, .any, .any, .any, .any, .any, .any, .any, .any, .any, .any, .any, .any, .any, .any, .any, .any, .any, .any, .any, .any, .any, .any, .any, .any, .any, .any, .any, .any, .any, .any, .any, .any, .any, .any, .any, .any, .any, .any, .any, .any, .any, .any, .any, .any, .any, .any, .any, .any, .any, .any, .any, .any, .any, .any, .any, .any, .any, .any, .any, .any, .any, .any, .any, .any, .any, .any, .any, .any, .any, .any, .any, .any, .any, .any, .any, .any, .any, .any, .any, .any, .any, .any, .any, .any, .any, .any, .any, .any, .any, .any, .any, .any, .any, .any, .any, .any, .any, .any, .any, .any, .any, .any, .any, .any, .any, .any, .any, .any, .any, .any, .any, .any, .any, .any, .any, .any, .any, .any, .any, .any, .any, .any, .any, .any, .any, .any, .any, .any, .any, .any, .any, .any, .any, .any, .any, .any, .any, .any, .any, .any, .any, .any, .any, .any, .any], [.ex false [.c (.sc (.int .u32 x155)), .c (.sc (.int .u32 x156)), .row 32 (.int .u32) x157] 27], 0⟩) (fun t631 => .nil)))))))))) (to_goal (q := (True ∧ (True ∧ (0 ≤ x158 ∧ x158 < (((List.length a0) : Nat) : Int)) ∧ (True) ∧ (True) ∧ ((31 : Int) ≠ 0) ∧ (True) ∧ (True) ∧ (True ∧ (True ∧ (True ∧ (0 ≤ x158 ∧ x158 < (((List.length a0) : Nat) : Int)) ∧ (True) ∧ (True) ∧ ((5 : Int) ≠ 0) ∧ (True) ∧ (((True) ∧ True) ∧ ((∃ t533 : Int × Int × (List Int) × (Option Int), Trip cfg (cpath (Tryd.f4.body.getD .skip) [1, 1, 0, 1, 0, 0, 1, 0, 0, 1, 1, 1, 0, 1]) ⟨[.v (.one (.fs (.pair (.int .i64) (.pair (.int .i64) (.int .u32))) a0 false)), .any, .any, .v (.one (.ptr 0 ⟨0, 0, 0, 0⟩)), .v (.one (.sc (.int .i64 x158))), .v (.one (.sc (.int .i64 (IntKind.wrap .i64 ((1 : Int) + (IntKind.wrap .i64 ((Int.tmod (IntKind.wrap .u64 ((List.getD a0 (Int.toNat x158) ((0 : Int), ((0 : Int), (0 : Int)))).2.1)) (31 : Int))))))))), .v (.one (.ptr 1 ⟨0, 0, 0, 0⟩)), .v (.one (.err none)), .any, .any, .any, .any, .any, .any, .any, .any, .any, .any, .any, .any, .any, .any, .any, .any, .any, .any, .any, .any, .any, .any, .any, .any, .any, .any, .any, .any, .v (.one (.sc (.int .i64 (IntKind.wrap .i64 ((Int.tmod (IntKind.wrap .u64 ((List.getD a0 (Int.toNat x158) ((0 : Int), ((0 : Int), (0 : Int)))).1)) (5 : Int))))))), .any, .any, .any, .any, .any, .any, .any, .any, .any, .any, .any, .any, .any, .any, .any, .any, .any, .any, .any, .any, .any, .any, .any, .any, .any, .any, .any, .any, .any, .any, .any, .any, .any, .any, .any, .any, .any, .any, .any, .any, .any, .any, .any, .any, .any, .any, .any, .any, .any, .any, .any, .any, .any, .any, .any, .any, .any, .any, .any, .any, .any, .any, .any, .any, .any, .any, .any, .any, .any, .any, .any, .any, .any, .any, .any, .any, .any, .any, .any, .any, .any, .any, .any, .any, .any, .any, .any, .any, .any, .any, .any, .any, .any, .any, .any, .any, .any, .any, .any, .any, .any, .any, .any, .any, .any, .any, .any, .any, .any, .any, .any, .any, .any, .any, .any, .any, .any, .any, .any, .any, .any, .any, .any, .any, .any, .any, .any, .any, .any, .any, .any, .any, .any, .any, .any, .any, .any, .any, .any, .any, .any, .any, .any, .any], [.ex false [.c (.sc (.int .u32 x155)), .c (.sc (.int .u32 x156)), .row 32 (.int .u32) x157] 27, .ex false [.c (.sc (.int .u32 (0 : Int))), .c (.sc (.int .u32 (0 : Int))), .row 32 (.int .u32) (List.replicate 32 (0 : Int))] 27], 0⟩ (fun e s => e = .normal ∧ s = ⟨[.v (.one (.fs (.pair (.int .i64) (.pair (.int .i64) (.int .u32))) a0 false)), .any, .any, .v (.one (.ptr 0 ⟨0, 0, 0, 0⟩)), .v (.one (.sc (.int .i64 x158))), .v (.one (.sc (.int .i64 (IntKind.wrap .i64 ((1 : Int) + (IntKind.wrap .i64 ((Int.tmod (IntKind.wrap .u64 ((List.getD a0 (Int.toNat x158) ((0 : Int), ((0 : Int), (0 : Int)))).2.1)) (31 : Int))))))))), .v (.one (.ptr 1 ⟨0, 0, 0, 0⟩)), .v (.one (.err t533.2.2.2)), .any, .any, .any, .any, .any, .any, .any, .any, .any, .any, .any, .any, .any, .any, .any, .any, .any, .any, .any, .any, .any, .any, .any, .any, .any, .any, .any, .any, .any, .any, .any, .any, .any, .any, .any, .any, .any, .any, .any, .any, .any, .any, .any, .any, .any, .any, .any, .any, .any, .any, .any, .any, .any, .any, .any, .any, .any, .any, .any, .any, .any, .any, .any, .any, .any, .any, .any, .any, .any, .any, .any, .any, .any, .any, .any, .any, .any, .any, .any, .any, .any, .any, .any, .any, .any, .any, .any, .any, .any, .any, .any, .any, .any, .any, .any, .any, .any, .any, .any, .any, .any, .any, .any, .any, .any, .any, .any, .any, .any, .any, .any, .any, .any, .any, .any, .any, .any, .any, .any, .any, .any, .any, .any, .any, .any, .any, .any, .any, .any, .any, .any, .any, .any, .any, .any, .any, .any, .any, .any, .any, .any, .any, .any, .any, .any, .any, .any, .any, .any, .any, .any, .any, .any, .any, .any, .any, .any, .any, .any, .any, .any, .any, .any, .any, .any, .any, .any, .any, .any, .any, .any, .any, .any], [.ex false [.c (.sc (.int .u32 x155)), .c (.sc (.int .u32 x156)), .row 32 (.int .u32) x157] 27, .ex false [.c (.sc (.int .u32 t533.1)), .c (.sc (.int .u32 t533.2.1)), .row 32 (.int .u32) t533.2.2.1] 27], 0⟩) ∧ (True) ∧ (((Option.isNone t533.2.2.2) = true → (True) ∧ (True) ∧ (True) ∧ (∃ t539 : Int, (Fun cfg 9 [.agg [.c (.sc (.int .u32 t533.1)), .c (.sc (.int .u32 t533.2.1)), .row 32 (.int .u32) t533.2.2.1]] [] (sig_Next.R t539) [] ∧ True) ∧ (True) ∧ (∃ t540 : (Option Int), (Fun cfg 14 [.agg [.c (.sc (.int .u32 t533.1)), .c (.sc (.int .u32 t533.2.1)), .row 32 (.int .u32) t533.2.2.1]] [] (sig_Check.R t540) [] ∧ True) ∧ (True) ∧ (((!(Option.isNone t540)) = false → ((!(Option.isNone t540)) = false ∧ (True) ∧ ((!(Option.isNone t540)) = false ∧ (∃ t542 : Bool, (Fun cfg 11 [.one (.sc (.int .u32 t533.2.1)), .one (.sc (.int .i64 (9 : Int)))] [] (sigset_Has.R t542) [] ∧ True) ∧ ((!(Option.isNone t540)) = false ∧ ((t542 = false → (t542 = false ∧ (True) ∧ (t542 = false ∧ (∃ t544 : Bool, (Fun cfg 11 [.one (.sc (.int .u32 t533.1)), .one (.sc (.int .i64 (9 : Int)))] [] (sigset_Has.R t544) [] ∧ True) ∧ (t542 = false ∧ ((t544 = true → (t544 = true ∧ (True) ∧ (t542 = false ∧ (t544 = true ∧ (t542 = false ∧ (((t539 != (9 : Int)) = false → ((t539 != (9 : Int)) = false ∧ (True) ∧ ((t539 != (9 : Int)) = false ∧ (((t539 != (0 : Int)) = true → ((t539 != (0 : Int)) = true ∧ (True) ∧ ((t539 != (0 : Int)) = true ∧ ((t539 != (0 : Int)) = true ∧ (∃ t548 : Bool, (Fun cfg 11 [.one (.sc (.int .u32 t533.1)), .one (.sc (.int .i64 t539))] [] (sigset_Has.R t548) [] ∧ True) ∧ ((t539 != (0 : Int)) = true ∧ ((t539 != (0 : Int)) = true ∧ (((!t548) = false → ((!t548) = false ∧ (True) ∧ ((!t548) = false ∧ ((!t548) = false ∧ (∃ t550 : Bool, (Fun cfg 11 [.one (.sc (.int .u32 t533.2.1)), .one (.sc (.int .i64 t539))] [] (sigset_Has.R t550) [] ∧ True) ∧ ((t539 != (0 : Int)) = true ∧ ((!t548) = false ∧ ((t539 != (9 : Int)) = false ∧ ((t539 != (0 : Int)) = true ∧ ((t539 != (9 : Int)) = false ∧ ((t550 = false → (t550 = false ∧ (True) ∧ (t550 = false ∧ (((t539 == (0 : Int)) = true → ((t539 == (0 : Int)) = true ∧ (True) ∧ ((t539 == (0 : Int)) = true ∧ ((t539 == (0 : Int)) = true ∧ (True) ∧ ((t539 == (0 : Int)) = true ∧ (True) ∧ ((t539 == (0 : Int)) = true ∧ (∃ t553 : Int, (Fun cfg 15 [.one (.sc (.int .u32 (bits .andNot .u32 t533.1 t533.2.1)))] [] (sigset_Count.R t553) [] ∧ True) ∧ ((t539 == (0 : Int)) = true ∧ (True) ∧ (t550 = false ∧ ((t539 == (0 : Int)) = true ∧ (t550 = false ∧ (((t553 != (0 : Int)) = true → (True ∧ (((True) ∧ (True) ∧ True) ∧ halterlaw25_SigLaws.j1_Q x155 x156 x157 x158 a0 r .ret ⟨[.any, .any, .v (.one (.sc (.bool false))), .any, .any, .any, .any, .any, .any, .any, .any, .any, .any, .any, .any, .any, .any, .any, .any, .any, .any, .any, .any, .any, .any, .any, .any, .any, .any, .any, .any, .any, .any, .any, .any, .any, .any, .any, .any, .any, .any, .any, .any, .any, .any, .any, .any, .any, .any, .any, .any, .any, .any, .any, .any, .any, .any, .any, .any, .any, .any, .any, .any, .any, .any, .any, .any, .any, .any, .any, .any, .any, .any, .any, .any, .any, .any, .any, .any, .any, .any, .any, .any, .any, .any, .any, .any, .any, .any, .any, .any, .any, .any, .any, .any, .any, .any, .any, .any, .any, .any, .any, .any, .any, .any, .any, .any, .any, .any, .any, .any, .any, .any, .any, .any, .any, .any, .any, .any, .any, .any, .any, .any, .any, .any, .any, .any, .any, .any, .any, .any, .any, .any, .any, .any, .any, .any, .any, .any, .any, .any, .any, .any, .any, .any, .any, .any, .any, .any, .any, .any, .any, .any, .any, .any, .any, .any, .any, .any, .any, .any, .any, .any, .any, .any, .any, .any, .any, .any, .any, .any, .any, .any, .any, .any, .any, .any, .any, .any, .any, .any], [.ex false [.c (.sc (.int .u32 t533.1)), .c (.sc (.int .u32 t533.2.1)), .row 32 (.int .u32) t533.2.2.1] 27], 0⟩))) ∧ ((t553 != (0 : Int)) = false → (True ∧ (((True) ∧ (True) ∧ True) ∧ halterlaw25_SigLaws.j1_Q x155 x156 x157 x158 a0 r .normal ⟨[.v (.one (.fs (.pair (.int .i64) (.pair (.int .i64) (.int .u32))) a0 false)), .any, .any, .v (.one (.ptr 0 ⟨0, 0, 0, 0⟩)), .v (.one (.sc (.int .i64 x158))), .any, .any, .any, .any, .any, .any, .any, .any, .any, .any, .any, .any, .any, .any, .any, .any, .any, .any, .any, .any, .any, .any, .any, .any, .any, .any, .any, .any, .any, .any, .any, .any, .any, .any, .any, .any, .any, .any, .any, .any, .any, .any, .any, .any, .any, .any, .any, .any, .any, .any, .any, .any, .any, .any, .any, .any, .any, .any, .any, .any, .any, .any, .any, .any, .any, .any, .any, .any, .any, .any, .any, .any, .any, .any, .any, .any, .any, .any, .any, .any, .any, .any, .any, .any, .any, .any, .any, .any, .any, .any, .any, .any, .any, .any, .any, .any, .any, .any, .any, .any, .any, .any, .any, .any, .any, .any, .any, .any, .any, .any, .any, .any, .any, .any, .any, .any, .any, .any, .any, .any, .any, .any, .any, .any, .any, .any, .any, .any, .any, .any, .any, .any, .any, .any, .any, .any, .any, .any, .any, .any, .any, .any, .any, .any, .any, .any, .any, .any, .any, .any, .any, .any, .any, .any, .any, .any, .any, .any, .any, .any, .any, .any, .any, .any, .any, .any, .any, .any, .any, .any, .any, .any, .any, .any, .any, .any], [.ex false [.c (.sc (.int .u32 t533.1)), .c (.sc (.int .u32 t533.2.1)), .row 32 (.int .u32) t533.2.2.1] 27], 0⟩))))))))))))))) ∧ ((t539 == (0 : Int)) = false → ((t539 == (0 : Int)) = false ∧ ((t539 == (0 : Int)) = false ∧ ((t539 == (0 : Int)) = false ∧ ((t539 == (0 : Int)) = false ∧ ((t539 == (0 : Int)) = false ∧ ((t539 == (0 : Int)) = false ∧ (t550 = false ∧ ((t539 == (0 : Int)) = false ∧ (t550 = false ∧ (false = false ∧ (True ∧ (((True) ∧ (True) ∧ True) ∧ halterlaw25_SigLaws.j1_Q x155 x156 x157 x158 a0 r .normal ⟨[.v (.one (.fs (.pair (.int .i64) (.pair (.int .i64) (.int .u32))) a0 false)), .any, .any, .v (.one (.ptr 0 ⟨0, 0, 0, 0⟩)), .v (.one (.sc (.int .i64 x158))), .any, .any, .any, .any, .any, .any, .any, .any, .any, .any, .any, .any, .any, .any, .any, .any, .any, .any, .any, .any, .any, .any, .any, .any, .any, .any, .any, .any, .any, .any, .any, .any, .any, .any, .any, .any, .any, .any, .any, .any, .any, .any, .any, .any, .any, .any, .any, .any, .any, .any, .any, .any, .any, .any, .any, .any, .any, .any, .any, .any, .any, .any, .any, .any, .any, .any, .any, .any, .any, .any, .any, .any, .any, .any, .any, .any, .any, .any, .any, .any, .any, .any, .any, .any, .any, .any, .any, .any, .any, .any, .any, .any, .any, .any, .any, .any, .any, .any, .any, .any, .any, .any, .any, .any, .any, .any, .any, .any, .any, .any, .any, .any, .any, .any, .any, .any, .any, .any, .any, .any, .any, .any, .any, .any, .any, .any, .any, .any, .any, .any, .any, .any, .any, .any, .any, .any, .any, .any, .any, .any, .any, .any, .any, .any, .any, .any, .any, .any, .any, .any, .any, .any, .any, .any, .any, .any, .any, .any, .any, .any, .any, .any, .any, .any, .any, .any, .any, .any, .any, .any, .any, .any, .any, .any, .any, .any], [.ex false [.c (.sc (.int .u32 t533.1)), .c (.sc (.int .u32 t533.2.1)), .row 32 (.int .u32) t533.2.2.1] 27], 0⟩))))))))))))))))) ∧ (t550 = true → (t550 = true ∧ (t550 = true ∧ (t550 = true ∧ (t550 = true ∧ (true = true ∧ (True ∧ (((True) ∧ (True) ∧ True) ∧ halterlaw25_SigLaws.j1_Q x155 x156 x157 x158 a0 r .ret ⟨[.any, .any, .v (.one (.sc (.bool false))), .any, .any, .any, .any, .any, .any, .any, .any, .any, .any, .any, .any, .any, .any, .any, .any, .any, .any, .any, .any, .any, .any, .any, .any, .any, .any, .any, .any, .any, .any, .any, .any, .any, .any, .any, .any, .any, .any, .any, .any, .any, .any, .any, .any, .any, .any, .any, .any, .any, .any, .any, .any, .any, .any, .any, .any, .any, .any, .any, .any, .any, .any, .any, .any, .any, .any, .any, .any, .any, .any, .any, .any, .any, .any, .any, .any, .any, .any, .any, .any, .any, .any, .any, .any, .any, .any, .any, .any, .any, .any, .any, .any, .any, .any, .any, .any, .any, .any, .any, .any, .any, .any, .any, .any, .any, .any, .any, .any, .any, .any, .any, .any, .any, .any, .any, .any, .any, .any, .any, .any, .any, .any, .any, .any, .any, .any, .any, .any, .any, .any, .any, .any, .any, .any, .any, .any, .any, .any, .any, .any, .any, .any, .any, .any, .any, .any, .any, .any, .any, .any, .any, .any, .any, .any, .any, .any, .any, .any, .any, .any, .any, .any, .any, .any, .any, .any, .any, .any, .any, .any, .any, .any, .any, .any, .any, .any, .any, .any], [.ex false [.c (.sc (.int .u32 t533.1)), .c (.sc (.int .u32 t533.2.1)), .row 32 (.int .u32) t533.2.2.1] 27], 0⟩))))))))))))))))))) ∧ ((!t548) = true → ((!t548) = true ∧ ((!t548) = true ∧ ((!t548) = true ∧ ((t539 != (0 : Int)) = true ∧ ((!t548) = true ∧ ((t539 != (9 : Int)) = false ∧ ((t539 != (0 : Int)) = true ∧ ((t539 != (9 : Int)) = false ∧ (true = true ∧ (true = true ∧ (true = true ∧ (true = true ∧ (true = true ∧ (true = true ∧ (True ∧ (((True) ∧ (True) ∧ True) ∧ halterlaw25_SigLaws.j1_Q x155 x156 x157 x158 a0 r .ret ⟨[.any, .any, .v (.one (.sc (.bool false))), .any, .any, .any, .any, .any, .any, .any, .any, .any, .any, .any, .any, .any, .any, .any, .any, .any, .any, .any, .any, .any, .any, .any, .any, .any, .any, .any, .any, .any, .any, .any, .any, .any, .any, .any, .any, .any, .any, .any, .any, .any, .any, .any, .any, .any, .any, .any, .any, .any, .any, .any, .any, .any, .any, .any, .any, .any, .any, .any, .any, .any, .any, .any, .any, .any, .any, .any, .any, .any, .any, .any, .any, .any, .any, .any, .any, .any, .any, .any, .any, .any, .any, .any, .any, .any, .any, .any, .any, .any, .any, .any, .any, .any, .any, .any, .any, .any, .any, .any, .any, .any, .any, .any, .any, .any, .any, .any, .any, .any, .any, .any, .any, .any, .any, .any, .any, .any, .any, .any, .any, .any, .any, .any, .any, .any, .any, .any, .any, .any, .any, .any, .any, .any, .any, .any, .any, .any, .any, .any, .any, .any, .any, .any, .any, .any, .any, .any, .any, .any, .any, .any, .any, .any, .any, .any, .any, .any, .any, .any, .any, .any, .any, .any, .any, .any, .any, .any, .any, .any, .any, .any, .any, .any, .any, .any, .any, .any, .any], [.ex false [.c (.sc (.int .u32 t533.1)), .c (.sc (.int .u32 t533.2.1)), .row 32 (.int .u32) t533.2.2.1] 27], 0⟩))))))))))))))))))))))))) ∧ ((t539 != (0 : Int)) = false → ((t539 != (0 : Int)) = false ∧ ((t539 != (0 : Int)) = false ∧ ((t539 != (0 : Int)) = false ∧ ((t539 != (0 : Int)) = false ∧ ((t539 != (0 : Int)) = false ∧ ((t539 != (0 : Int)) = false ∧ ((t539 != (9 : Int)) = false ∧ ((t539 != (0 : Int)) = false ∧ ((t539 != (9 : Int)) = false ∧ (false = false ∧ (false = false ∧ (True) ∧ (false = false ∧ (((t539 == (0 : Int)) = true → ((t539 == (0 : Int)) = true ∧ (True) ∧ ((t539 == (0 : Int)) = true ∧ ((t539 == (0 : Int)) = true ∧ (True) ∧ ((t539 == (0 : Int)) = true ∧ (True) ∧ ((t539 == (0 : Int)) = true ∧ (∃ t556 : Int, (Fun cfg 15 [.one (.sc (.int .u32 (bits .andNot .u32 t533.1 t533.2.1)))] [] (sigset_Count.R t556) [] ∧ True) ∧ ((t539 == (0 : Int)) = true ∧ (True) ∧ (false = false ∧ ((t539 == (0 : Int)) = true ∧ (false = false ∧ (((t556 != (0 : Int)) = true → (True ∧ (((True) ∧ (True) ∧ True) ∧ halterlaw25_SigLaws.j1_Q x155 x156 x157 x158 a0 r .ret ⟨[.any, .any, .v (.one (.sc (.bool false))), .any, .any, .any, .any, .any, .any, .any, .any, .any, .any, .any, .any, .any, .any, .any, .any, .any, .any, .any, .any, .any, .any, .any, .any, .any, .any, .any, .any, .any, .any, .any, .any, .any, .any, .any, .any, .any, .any, .any, .any, .any, .any, .any, .any, .any, .any, .any, .any, .any, .any, .any, .any, .any, .any, .any, .any, .any, .any, .any, .any, .any, .any, .any, .any, .any, .any, .any, .any, .any, .any, .any, .any, .any, .any, .any, .any, .any, .any, .any, .any, .any, .any, .any, .any, .any, .any, .any, .any, .any, .any, .any, .any, .any, .any, .any, .any, .any, .any, .any, .any, .any, .any, .any, .any, .any, .any, .any, .any, .any, .any, .any, .any, .any, .any, .any, .any, .any, .any, .any, .any, .any, .any, .any, .any, .any, .any, .any, .any, .any, .any, .any, .any, .any, .any, .any, .any, .any, .any, .any, .any, .any, .any, .any, .any, .any, .any, .any, .any, .any, .any, .any, .any, .any, .any, .any, .any, .any, .any, .any, .any, .any, .any, .any, .any, .any, .any, .any, .any, .any, .any, .any, .any, .any, .any, .any, .any, .any, .any], [.ex false [.c (.sc (.int .u32 t533.1)), .c (.sc (.int .u32 t533.2.1)), .row 32 (.int .u32) t533.2.2.1] 27], 0⟩))) ∧ ((t556 != (0 : Int)) = false → (True ∧ (((True) ∧ (True) ∧ True) ∧ halterlaw25_SigLaws.j1_Q x155 x156 x157 x158 a0 r .normal ⟨[.v (.one (.fs (.pair (.int .i64) (.pair (.int .i64) (.int .u32))) a0 false)), .any, .any, .v (.one (.ptr 0 ⟨0, 0, 0, 0⟩)), .v (.one (.sc (.int .i64 x158))), .any, .any, .any, .any, .any, .any, .any, .any, .any, .any, .any, .any, .any, .any, .any, .any, .any, .any, .any, .any, .any, .any, .any, .any, .any, .any, .any, .any, .any, .any, .any, .any, .any, .any, .any, .any, .any, .any, .any, .any, .any, .any, .any, .any, .any, .any, .any, .any, .any, .any, .any, .any, .any, .any, .any, .any, .any, .any, .any, .any, .any, .any, .any, .any, .any, .any, .any, .any, .any, .any, .any, .any, .any, .any, .any, .any, .any, .any, .any, .any, .any, .any, .any, .any, .any, .any, .any, .any, .any, .any, .any, .any, .any, .any, .any, .any, .any, .any, .any, .any, .any, .any, .any, .any, .any, .any, .any, .any, .any, .any, .any, .any, .any, .any, .any, .any, .any, .any, .any, .any, .any, .any, .any, .any, .any, .any, .any, .any, .any, .any, .any, .any, .any, .any, .any, .any, .any, .any, .any, .any, .any, .any, .any, .any, .any, .any, .any, .any, .any, .any, .any, .any, .any, .any, .any, .any, .any, .any, .any, .any, .any, .any, .any, .any, .any, .any, .any, .any, .any, .any, .any, .any, .any, .any, .any, .any], [.ex false [.c (.sc (.int .u32 t533.1)), .c (.sc (.int .u32 t533.2.1)), .row 32 (.int .u32) t533.2.2.1] 27], 0⟩))))))))))))))) ∧ ((t539 == (0 : Int)) = false → ((t539 == (0 : Int)) = false ∧ ((t539 == (0 : Int)) = false ∧ ((t539 == (0 : Int)) = false ∧ ((t539 == (0 : Int)) = false ∧ ((t539 == (0 : Int)) = false ∧ ((t539 == (0 : Int)) = false ∧ (false = false ∧ ((t539 == (0 : Int)) = false ∧ (false = false ∧ (false = false ∧ (True ∧ (((True) ∧ (True) ∧ True) ∧ halterlaw25_SigLaws.j1_Q x155 x156 x157 x158 a0 r .normal ⟨[.v (.one (.fs (.pair (.int .i64) (.pair (.int .i64) (.int .u32))) a0 false)), .any, .any, .v (.one (.ptr 0 ⟨0, 0, 0, 0⟩)), .v (.one (.sc (.int .i64 x158))), .any, .any, .any, .any, .any, .any, .any, .any, .any, .any, .any, .any, .any, .any, .any, .any, .any, .any, .any, .any, .any, .any, .any, .any, .any, .any, .any, .any, .any, .any, .any, .any, .any, .any, .any, .any, .any, .any, .any, .any, .any, .any, .any, .any, .any, .any, .any, .any, .any, .any, .any, .any, .any, .any, .any, .any, .any, .any, .any, .any, .any, .any, .any, .any, .any, .any, .any, .any, .any, .any, .any, .any, .any, .any, .any, .any, .any, .any, .any, .any, .any, .any, .any, .any, .any, .any, .any, .any, .any, .any, .any, .any, .any, .any, .any, .any, .any, .any, .any, .any, .any, .any, .any, .any, .any, .any, .any, .any, .any, .any, .any, .any, .any, .any, .any, .any, .any, .any, .any, .any, .any, .any, .any, .any, .any, .any, .any, .any, .any, .any, .any, .any, .any, .any, .any, .any, .any, .any, .any, .any, .any, .any, .any, .any, .any, .any, .any, .any, .any, .any, .any, .any, .any, .any, .any, .any, .any, .any, .any, .any, .any, .any, .any, .any, .any, .any, .any, .any, .any, .any, .any, .any, .any, .any, .any, .any], [.ex false [.c (.sc (.int .u32 t533.1)), .c (.sc (.int .u32 t533.2.1)), .row 32 (.int .u32) t533.2.2.1] 27], 0⟩))))))))))))))))))))))))))))))) ∧ ((t539 != (9 : Int)) = true → ((t539 != (9 : Int)) = true ∧ ((t539 != (9 : Int)) = true ∧ ((t539 != (9 : Int)) = true ∧ ((t539 != (9 : Int)) = true ∧ (true = true ∧ (true = true ∧ (true = true ∧ (true = true ∧ (true = true ∧ (true = true ∧ (True ∧ (((True) ∧ (True) ∧ True) ∧ halterlaw25_SigLaws.j1_Q x155 x156 x157 x158 a0 r .ret ⟨[.any, .any, .v (.one (.sc (.bool false))), .any, .any, .any, .any, .any, .any, .any, .any, .any, .any, .any, .any, .any, .any, .any, .any, .any, .any, .any, .any, .any, .any, .any, .any, .any, .any, .any, .any, .any, .any, .any, .any, .any, .any, .any, .any, .any, .any, .any, .any, .any, .any, .any, .any, .any, .any, .any, .any, .any, .any, .any, .any, .any, .any, .any, .any, .any, .any, .any, .any, .any, .any, .any, .any, .any, .any, .any, .any, .any, .any, .any, .any, .any, .any, .any, .any, .any, .any, .any, .any, .any, .any, .any, .any, .any, .any, .any, .any, .any, .any, .any, .any, .any, .any, .any, .any, .any, .any, .any, .any, .any, .any, .any, .any, .any, .any, .any, .any, .any, .any, .any, .any, .any, .any, .any, .any, .any, .any, .any, .any, .any, .any, .any, .any, .any, .any, .any, .any, .any, .any, .any, .any, .any, .any, .any, .any, .any, .any, .any, .any, .any, .any, .any, .any, .any, .any, .any, .any, .any, .any, .any, .any, .any, .any, .any, .any, .any, .any, .any, .any, .any, .any, .any, .any, .any, .any, .any, .any, .any, .any, .any, .any, .any, .any, .any, .any, .any, .any], [.ex false [.c (.sc (.int .u32 t533.1)), .c (.sc (.int .u32 t533.2.1)), .row 32 (.int .u32) t533.2.2.1] 27], 0⟩))))))))))))))))))) ∧ (t544 = false → (t544 = false ∧ (t542 = false ∧ (t544 = false ∧ (t542 = false ∧ (false = false ∧ (false = false ∧ (True) ∧ (false = false ∧ (((t539 != (0 : Int)) = true → ((t539 != (0 : Int)) = true ∧ (True) ∧ ((t539 != (0 : Int)) = true ∧ ((t539 != (0 : Int)) = true ∧ (∃ t559 : Bool, (Fun cfg 11 [.one (.sc (.int .u32 t533.1)), .one (.sc (.int .i64 t539))] [] (sigset_Has.R t559) [] ∧ True) ∧ ((t539 != (0 : Int)) = true ∧ ((t539 != (0 : Int)) = true ∧ (((!t559) = false → ((!t559) = false ∧ (True) ∧ ((!t559) = false ∧ ((!t559) = false ∧ (∃ t561 : Bool, (Fun cfg 11 [.one (.sc (.int .u32 t533.2.1)), .one (.sc (.int .i64 t539))] [] (sigset_Has.R t561) [] ∧ True) ∧ ((t539 != (0 : Int)) = true ∧ ((!t559) = false ∧ (false = false ∧ ((t539 != (0 : Int)) = true ∧ (false = false ∧ ((t561 = false → (t561 = false ∧ (True) ∧ (t561 = false ∧ (((t539 == (0 : Int)) = true → ((t539 == (0 : Int)) = true ∧ (True) ∧ ((t539 == (0 : Int)) = true ∧ ((t539 == (0 : Int)) = true ∧ (True) ∧ ((t539 == (0 : Int)) = true ∧ (True) ∧ ((t539 == (0 : Int)) = true ∧ (∃ t564 : Int, (Fun cfg 15 [.one (.sc (.int .u32 (bits .andNot .u32 t533.1 t533.2.1)))] [] (sigset_Count.R t564) [] ∧ True) ∧ ((t539 == (0 : Int)) = true ∧ (True) ∧ (t561 = false ∧ ((t539 == (0 : Int)) = true ∧ (t561 = false ∧ (((t564 != (0 : Int)) = true → (True ∧ (((True) ∧ (True) ∧ True) ∧ halterlaw25_SigLaws.j1_Q x155 x156 x157 x158 a0 r .ret ⟨[.any, .any, .v (.one (.sc (.bool false))), .any, .any, .any, .any, .any, .any, .any, .any, .any, .any, .any, .any, .any, .any, .any, .any, .any, .any, .any, .any, .any, .any, .any, .any, .any, .any, .any, .any, .any, .any, .any, .any, .any, .any, .any, .any, .any, .any, .any, .any, .any, .any, .any, .any, .any, .any, .any, .any, .any, .any, .any, .any, .any, .any, .any, .any, .any, .any, .any, .any, .any, .any, .any, .any, .any, .any, .any, .any, .any, .any, .any, .any, .any, .any, .any, .any, .any, .any, .any, .any, .any, .any, .any, .any, .any, .any, .any, .any, .any, .any, .any, .any, .any, .any, .any, .any, .any, .any, .any, .any, .any, .any, .any, .any, .any, .any, .any, .any, .any, .any, .any, .any, .any, .any, .any, .any, .any, .any, .any, .any, .any, .any, .any, .any, .any, .any, .any, .any, .any, .any, .any, .any, .any, .any, .any, .any, .any, .any, .any, .any, .any, .any, .any, .any, .any, .any, .any, .any, .any, .any, .any, .any, .any, .any, .any, .any, .any, .any, .any, .any, .any, .any, .any, .any, .any, .any, .any, .any, .any, .any, .any, .any, .any, .any, .any, .any, .any, .any], [.ex false [.c (.sc (.int .u32 t533.1)), .c (.sc (.int .u32 t533.2.1)), .row 32 (.int .u32) t533.2.2.1] 27], 0⟩))) ∧ ((t564 != (0 : Int)) = false → (True ∧ (((True) ∧ (True) ∧ True) ∧ halterlaw25_SigLaws.j1_Q x155 x156 x157 x158 a0 r .normal ⟨[.v (.one (.fs (.pair (.int .i64) (.pair (.int .i64) (.int .u32))) a0 false)), .any, .any, .v (.one (.ptr 0 ⟨0, 0, 0, 0⟩)), .v (.one (.sc (.int .i64 x158))), .any, .any, .any, .any, .any, .any, .any, .any, .any, .any, .any, .any, .any, .any, .any, .any, .any, .any, .any, .any, .any, .any, .any, .any, .any, .any, .any, .any, .any, .any, .any, .any, .any, .any, .any, .any, .any, .any, .any, .any, .any, .any, .any, .any, .any, .any, .any, .any, .any, .any, .any, .any, .any, .any, .any, .any, .any, .any, .any, .any, .any, .any, .any, .any, .any, .any, .any, .any, .any, .any, .any, .any, .any, .any, .any, .any, .any, .any, .any, .any, .any, .any, .any, .any, .any, .any, .any, .any, .any, .any, .any, .any, .any, .any, .any, .any, .any, .any, .any, .any, .any, .any, .any, .any, .any, .any, .any, .any, .any, .any, .any, .any, .any, .any, .any, .any, .any, .any, .any, .any, .any, .any, .any, .any, .any, .any, .any, .any, .any, .any, .any, .any, .any, .any, .any, .any, .any, .any, .any, .any, .any, .any, .any, .any, .any, .any, .any, .any, .any, .any, .any, .any, .any, .any, .any, .any, .any, .any, .any, .any, .any, .any, .any, .any, .any, .any, .any, .any, .any, .any, .any, .any, .any, .any, .any, .any], [.ex false [.c (.sc (.int .u32 t533.1)), .c (.sc (.int .u32 t533.2.1)), .row 32 (.int .u32) t533.2.2.1] 27], 0⟩))))))))))))))) ∧ ((t539 == (0 : Int)) = false → ((t539 == (0 : Int)) = false ∧ ((t539 == (0 : Int)) = false ∧ ((t539 == (0 : Int)) = false ∧ ((t539 == (0 : Int)) = false ∧ ((t539 == (0 : Int)) = false ∧ ((t539 == (0 : Int)) = false ∧ (t561 = false ∧ ((t539 == (0 : Int)) = false ∧ (t561 = false ∧ (false = false ∧ (True ∧ (((True) ∧ (True) ∧ True) ∧ halterlaw25_SigLaws.j1_Q x155 x156 x157 x158 a0 r .normal ⟨[.v (.one (.fs (.pair (.int .i64) (.pair (.int .i64) (.int .u32))) a0 false)), .any, .any, .v (.one (.ptr 0 ⟨0, 0, 0, 0⟩)), .v (.one (.sc (.int .i64 x158))), .any, .any, .any, .any, .any, .any, .any, .any, .any, .any, .any, .any, .any, .any, .any, .any, .any, .any, .any, .any, .any, .any, .any, .any, .any, .any, .any, .any, .any, .any, .any, .any, .any, .any, .any, .any, .any, .any, .any, .any, .any, .any, .any, .any, .any, .any, .any, .any, .any, .any, .any, .any, .any, .any, .any, .any, .any, .any, .any, .any, .any, .any, .any, .any, .any, .any, .any, .any, .any, .any, .any, .any, .any, .any, .any, .any, .any, .any, .any, .any, .any, .any, .any, .any, .any, .any, .any, .any, .any, .any, .any, .any, .any, .any, .any, .any, .any, .any, .any, .any, .any, .any, .any, .any, .any, .any, .any, .any, .any, .any, .any, .any, .any, .any, .any, .any, .any, .any, .any, .any, .any, .any, .any, .any, .any, .any, .any, .any, .any, .any, .any, .any, .any, .any, .any, .any, .any, .any, .any, .any, .any, .any, .any, .any, .any, .any, .any, .any, .any, .any, .any, .any, .any, .any, .any, .any, .any, .any, .any, .any, .any, .any, .any, .any, .any, .any, .any, .any, .any, .any, .any, .any, .any, .any, .any, .any], [.ex false [.c (.sc (.int .u32 t533.1)), .c (.sc (.int .u32 t533.2.1)), .row 32 (.int .u32) t533.2.2.1] 27], 0⟩))))))))))))))))) ∧ (t561 = true → (t561 = true ∧ (t561 = true ∧ (t561 = true ∧ (t561 = true ∧ (true = true ∧ (True ∧ (((True) ∧ (True) ∧ True) ∧ halterlaw25_SigLaws.j1_Q x155 x156 x157 x158 a0 r .ret ⟨[.any, .any, .v (.one (.sc (.bool false))), .any, .any, .any, .any, .any, .any, .any, .any, .any, .any, .any, .any, .any, .any, .any, .any, .any, .any, .any, .any, .any, .any, .any, .any, .any, .any, .any, .any, .any, .any, .any, .any, .any, .any, .any, .any, .any, .any, .any, .any, .any, .any, .any, .any, .any, .any, .any, .any, .any, .any, .any, .any, .any, .any, .any, .any, .any, .any, .any, .any, .any, .any, .any, .any, .any, .any, .any, .any, .any, .any, .any, .any, .any, .any, .any, .any, .any, .any, .any, .any, .any, .any, .any, .any, .any, .any, .any, .any, .any, .any, .any, .any, .any, .any, .any, .any, .any, .any, .any, .any, .any, .any, .any, .any, .any, .any, .any, .any, .any, .any, .any, .any, .any, .any, .any, .any, .any, .any, .any, .any, .any, .any, .any, .any, .any, .any, .any, .any, .any, .any, .any, .any, .any, .any, .any, .any, .any, .any, .any, .any, .any, .any, .any, .any, .any, .any, .any, .any, .any, .any, .any, .any, .any, .any, .any, .any, .any, .any, .any, .any, .any, .any, .any, .any, .any, .any, .any, .any, .any, .any, .any, .any, .any, .any, .any, .any, .any, .any], [.ex false [.c (.sc (.int .u32 t533.1)), .c (.sc (.int .u32 t533.2.1)), .row 32 (.int .u32) t533.2.2.1] 27], 0⟩))))))))))))))))))) ∧ ((!t559) = true → ((!t559) = true ∧ ((!t559) = true ∧ ((!t559) = true ∧ ((t539 != (0 : Int)) = true ∧ ((!t559) = true ∧ (false = false ∧ ((t539 != (0 : Int)) = true ∧ (false = false ∧ (true = true ∧ (true = true ∧ (true = true ∧ (true = true ∧ (true = true ∧ (true = true ∧ (True ∧ (((True) ∧ (True) ∧ True) ∧ halterlaw25_SigLaws.j1_Q x155 x156 x157 x158 a0 r .ret ⟨[.any, .any, .v (.one (.sc (.bool false))), .any, .any, .any, .any, .any, .any, .any, .any, .any, .any, .any, .any, .any, .any, .any, .any, .any, .any, .any, .any, .any, .any, .any, .any, .any, .any, .any, .any, .any, .any, .any, .any, .any, .any, .any, .any, .any, .any, .any, .any, .any, .any, .any, .any, .any, .any, .any, .any, .any, .any, .any, .any, .any, .any, .any, .any, .any, .any, .any, .any, .any, .any, .any, .any, .any, .any, .any, .any, .any, .any, .any, .any, .any, .any, .any, .any, .any, .any, .any, .any, .any, .any, .any, .any, .any, .any, .any, .any, .any, .any, .any, .any, .any, .any, .any, .any, .any, .any, .any, .any, .any, .any, .any, .any, .any, .any, .any, .any, .any, .any, .any, .any, .any, .any, .any, .any, .any, .any, .any, .any, .any, .any, .any, .any, .any, .any, .any, .any, .any, .any, .any, .any, .any, .any, .any, .any, .any, .any, .any, .any, .any, .any, .any, .any, .any, .any, .any, .any, .any, .any, .any, .any, .any, .any, .any, .any, .any, .any, .any, .any, .any, .any, .any, .any, .any, .any, .any, .any, .any, .any, .any, .any, .any, .any, .any, .any, .any, .any], [.ex false [.c (.sc (.int .u32 t533.1)), .c (.sc (.int .u32 t533.2.1)), .row 32 (.int .u32) t533.2.2.1] 27], 0⟩))))))))))))))))))))))))) ∧ ((t539 != (0 : Int)) = false → ((t539 != (0 : Int)) = false ∧ ((t539 != (0 : Int)) = false ∧ ((t539 != (0 : Int)) = false ∧ ((t539 != (0 : Int)) = false ∧ ((t539 != (0 : Int)) = false ∧ ((t539 != (0 : Int)) = false ∧ (false = false ∧ ((t539 != (0 : Int)) = false ∧ (false = false ∧ (false = false ∧ (false = false ∧ (True) ∧ (false = false ∧ (((t539 == (0 : Int)) = true → ((t539 == (0 : Int)) = true ∧ (True) ∧ ((t539 == (0 : Int)) = true ∧ ((t539 == (0 : Int)) = true ∧ (True) ∧ ((t539 == (0 : Int)) = true ∧ (True) ∧ ((t539 == (0 : Int)) = true ∧ (∃ t567 : Int, (Fun cfg 15 [.one (.sc (.int .u32 (bits .andNot .u32 t533.1 t533.2.1)))] [] (sigset_Count.R t567) [] ∧ True) ∧ ((t539 == (0 : Int)) = true ∧ (True) ∧ (false = false ∧ ((t539 == (0 : Int)) = true ∧ (false = false ∧ (((t567 != (0 : Int)) = true → (True ∧ (((True) ∧ (True) ∧ True) ∧ halterlaw25_SigLaws.j1_Q x155 x156 x157 x158 a0 r .ret ⟨[.any, .any, .v (.one (.sc (.bool false))), .any, .any, .any, .any, .any, .any, .any, .any, .any, .any, .any, .any, .any, .any, .any, .any, .any, .any, .any, .any, .any, .any, .any, .any, .any, .any, .any, .any, .any, .any, .any, .any, .any, .any, .any, .any, .any, .any, .any, .any, .any, .any, .any, .any, .any, .any, .any, .any, .any, .any, .any, .any, .any, .any, .any, .any, .any, .any, .any, .any, .any, .any, .any, .any, .any, .any, .any, .any, .any, .any, .any, .any, .any, .any, .any, .any, .any, .any, .any, .any, .any, .any, .any, .any, .any, .any, .any, .any, .any, .any, .any, .any, .any, .any, .any, .any, .any, .any, .any, .any, .any, .any, .any, .any, .any, .any, .any, .any, .any, .any, .any, .any, .any, .any, .any, .any, .any, .any, .any, .any, .any, .any, .any, .any, .any, .any, .any, .any, .any, .any, .any, .any, .any, .any, .any, .any, .any, .any, .any, .any, .any, .any, .any, .any, .any, .any, .any, .any, .any, .any, .any, .any, .any, .any, .any, .any, .any, .any, .any, .any, .any, .any, .any, .any, .any, .any, .any, .any, .any, .any, .any, .any, .any, .any, .any, .any, .any, .any], [.ex false [.c (.sc (.int .u32 t533.1)), .c (.sc (.int .u32 t533.2.1)), .row 32 (.int .u32) t533.2.2.1] 27], 0⟩))) ∧ ((t567 != (0 : Int)) = false → (True ∧ (((True) ∧ (True) ∧ True) ∧ halterlaw25_SigLaws.j1_Q x155 x156 x157 x158 a0 r .normal ⟨[.v (.one (.fs (.pair (.int .i64) (.pair (.int .i64) (.int .u32))) a0 false)), .any, .any, .v (.one (.ptr 0 ⟨0, 0, 0, 0⟩)), .v (.one (.sc (.int .i64 x158))), .any, .any, .any, .any, .any, .any, .any, .any, .any, .any, .any, .any, .any, .any, .any, .any, .any, .any, .any, .any, .any, .any, .any, .any, .any, .any, .any, .any, .any, .any, .any, .any, .any, .any, .any, .any, .any, .any, .any, .any, .any, .any, .any, .any, .any, .any, .any, .any, .any, .any, .any, .any, .any, .any, .any, .any, .any, .any, .any, .any, .any, .any, .any, .any, .any, .any, .any, .any, .any, .any, .any, .any, .any, .any, .any, .any, .any, .any, .any, .any, .any, .any, .any, .any, .any, .any, .any, .any, .any, .any, .any, .any, .any, .any, .any, .any, .any, .any, .any, .any, .any, .any, .any, .any, .any, .any, .any, .any, .any, .any, .any, .any, .any, .any, .any, .any, .any, .any, .any, .any, .any, .any, .any, .any, .any, .any, .any, .any, .any, .any, .any, .any, .any, .any, .any, .any, .any, .any, .any, .any, .any, .any, .any, .any, .any, .any, .any, .any, .any, .any, .any, .any, .any, .any, .any, .any, .any, .any, .any, .any, .any, .any, .any, .any, .any, .any, .any, .any, .any, .any, .any, .any, .any, .any, .any, .any], [.ex false [.c (.sc (.int .u32 t533.1)), .c (.sc (.int .u32 t533.2.1)), .row 32 (.int .u32) t533.2.2.1] 27], 0⟩))))))))))))))) ∧ ((t539 == (0 : Int)) = false → ((t539 == (0 : Int)) = false ∧ ((t539 == (0 : Int)) = false ∧ ((t539 == (0 : Int)) = false ∧ ((t539 == (0 : Int)) = false ∧ ((t539 == (0 : Int)) = false ∧ ((t539 == (0 : Int)) = false ∧ (false = false ∧ ((t539 == (0 : Int)) = false ∧ (false = false ∧ (false = false ∧ (True ∧ (((True) ∧ (True) ∧ True) ∧ halterlaw25_SigLaws.j1_Q x155 x156 x157 x158 a0 r .normal ⟨[.v (.one (.fs (.pair (.int .i64) (.pair (.int .i64) (.int .u32))) a0 false)), .any, .any, .v (.one (.ptr 0 ⟨0, 0, 0, 0⟩)), .v (.one (.sc (.int .i64 x158))), .any, .any, .any, .any, .any, .any, .any, .any, .any, .any, .any, .any, .any, .any, .any, .any, .any, .any, .any, .any, .any, .any, .any, .any, .any, .any, .any, .any, .any, .any, .any, .any, .any, .any, .any, .any, .any, .any, .any, .any, .any, .any, .any, .any, .any, .any, .any, .any, .any, .any, .any, .any, .any, .any, .any, .any, .any, .any, .any, .any, .any, .any, .any, .any, .any, .any, .any, .any, .any, .any, .any, .any, .any, .any, .any, .any, .any, .any, .any, .any, .any, .any, .any, .any, .any, .any, .any, .any, .any, .any, .any, .any, .any, .any, .any, .any, .any, .any, .any, .any, .any, .any, .any, .any, .any, .any, .any, .any, .any, .any, .any, .any, .any, .any, .any, .any, .any, .any, .any, .any, .any, .any, .any, .any, .any, .any, .any, .any, .any, .any, .any, .any, .any, .any, .any, .any, .any, .any, .any, .any, .any, .any, .any, .any, .any, .any, .any, .any, .any, .any, .any, .any, .any, .any, .any, .any, .any, .any, .any, .any, .any, .any, .any, .any, .any, .any, .any, .any, .any, .any, .any, .any, .any, .any, .any, .any], [.ex false [.c (.sc (.int .u32 t533.1)), .c (.sc (.int .u32 t533.2.1)), .row 32 (.int .u32) t533.2.2.1] 27], 0⟩)))))))))))))))))))))))))))))))))))))))))) ∧ (t542 = true → (t542 = true ∧ (t542 = true ∧ (t542 = true ∧ (t542 = true ∧ (t542 = true ∧ (true = true ∧ (true = true ∧ (true = true ∧ (true = true ∧ (true = true ∧ (true = true ∧ (true = true ∧ (true = true ∧ (true = true ∧ (true = true ∧ (true = true ∧ (True ∧ (((True) ∧ (True) ∧ True) ∧ halterlaw25_SigLaws.j1_Q x155 x156 x157 x158 a0 r .ret ⟨[.any, .any, .v (.one (.sc (.bool false))), .any, .any, .any, .any, .any, .any, .any, .any, .any, .any, .any, .any, .any, .any, .any, .any, .any, .any, .any, .any, .any, .any, .any, .any, .any, .any, .any, .any, .any, .any, .any, .any, .any, .any, .any, .any, .any, .any, .any, .any, .any, .any, .any, .any, .any, .any, .any, .any, .any, .any, .any, .any, .any, .any, .any, .any, .any, .any, .any, .any, .any, .any, .any, .any, .any, .any, .any, .any, .any, .any, .any, .any, .any, .any, .any, .any, .any, .any, .any, .any, .any, .any, .any, .any, .any, .any, .any, .any, .any, .any, .any, .any, .any, .any, .any, .any, .any, .any, .any, .any, .any, .any, .any, .any, .any, .any, .any, .any, .any, .any, .any, .any, .any, .any, .any, .any, .any, .any, .any, .any, .any, .any, .any, .any, .any, .any, .any, .any, .any, .any, .any, .any, .any, .any, .any, .any, .any, .any, .any, .any, .any, .any, .any, .any, .any, .any, .any, .any, .any, .any, .any, .any, .any, .any, .any, .any, .any, .any, .any, .any, .any, .any, .any, .any, .any, .any, .any, .any, .any, .any, .any, .any, .any, .any, .any, .any, .any, .any], [.ex false [.c (.sc (.int .u32 t533.1)), .c (.sc (.int .u32 t533.2.1)), .row 32 (.int .u32) t533.2.2.1] 27], 0⟩))))))))))))))))))))))))) ∧ ((!(Option.isNone t540)) = true → ((!(Option.isNone t540)) = true ∧ ((!(Option.isNone t540)) = true ∧ ((!(Option.isNone t540)) = true ∧ (true = true ∧ (true = true ∧ (true = true ∧ (true = true ∧ (true = true ∧ (true = true ∧ (true = true ∧ (true = true ∧ (true = true ∧ (true = true ∧ (true = true ∧ (true = true ∧ (true = true ∧ (true = true ∧ (true = true ∧ (true = true ∧ (true = true ∧ (True ∧ (((True) ∧ (True) ∧ True) ∧ halterlaw25_SigLaws.j1_Q x155 x156 x157 x158 a0 r .ret ⟨[.any, .any, .v (.one (.sc (.bool false))), .any, .any, .any, .any, .any, .any, .any, .any, .any, .any, .any, .any, .any, .any, .any, .any, .any, .any, .any, .any, .any, .any, .any, .any, .any, .any, .any, .any, .any, .any, .any, .any, .any, .any, .any, .any, .any, .any, .any, .any, .any, .any, .any, .any, .any, .any, .any, .any, .any, .any, .any, .any, .any, .any, .any, .any, .any, .any, .any, .any, .any, .any, .any, .any, .any, .any, .any, .any, .any, .any, .any, .any, .any, .any, .any, .any, .any, .any, .any, .any, .any, .any, .any, .any, .any, .any, .any, .any, .any, .any, .any, .any, .any, .any, .any, .any, .any, .any, .any, .any, .any, .any, .any, .any, .any, .any, .any, .any, .any, .any, .any, .any, .any, .any, .any, .any, .any, .any, .any, .any, .any, .any, .any, .any, .any, .any, .any, .any, .any, .any, .any, .any, .any, .any, .any, .any, .any, .any, .any, .any, .any, .any, .any, .any, .any, .any, .any, .any, .any, .any, .any, .any, .any, .any, .any, .any, .any, .any, .any, .any, .any, .any, .any, .any, .any, .any, .any, .any, .any, .any, .any, .any, .any, .any, .any, .any, .any, .any], [.ex false [.c (.sc (.int .u32 t533.1)), .c (.sc (.int .u32 t533.2.1)), .row 32 (.int .u32) t533.2.2.1] 27], 0⟩))))))))))))))))))))))))))) ∧ ((Option.isNone t533.2.2.2) = false → (True) ∧ ((((IntKind.wrap .i64 ((1 : Int) + (IntKind.wrap .i64 ((Int.tmod (IntKind.wrap .u64 ((List.getD a0 (Int.toNat x158) ((0 : Int), ((0 : Int), (0 : Int)))).2.1)) (31 : Int)))))) != (9 : Int)) = true → (((IntKind.wrap .i64 ((1 : Int) + (IntKind.wrap .i64 ((Int.tmod (IntKind.wrap .u64 ((List.getD a0 (Int.toNat x158) ((0 : Int), ((0 : Int), (0 : Int)))).2.1)) (31 : Int)))))) != (9 : Int)) = true ∧ (True) ∧ (((IntKind.wrap .i64 ((1 : Int) + (IntKind.wrap .i64 ((Int.tmod (IntKind.wrap .u64 ((List.getD a0 (Int.toNat x158) ((0 : Int), ((0 : Int), (0 : Int)))).2.1)) (31 : Int)))))) != (9 : Int)) = true ∧ ((((IntKind.wrap .i64 ((1 : Int) + (IntKind.wrap .i64 ((Int.tmod (IntKind.wrap .u64 ((List.getD a0 (Int.toNat x158) ((0 : Int), ((0 : Int), (0 : Int)))).2.1)) (31 : Int)))))) != (19 : Int)) = true → (True ∧ (((True) ∧ (True) ∧ True) ∧ halterlaw25_SigLaws.j1_Q x155 x156 x157 x158 a0 r .ret ⟨[.any, .any, .v (.one (.sc (.bool false))), .any, .any, .any, .any, .any, .any, .any, .any, .any, .any, .any, .any, .any, .any, .any, .any, .any, .any, .any, .any, .any, .any, .any, .any, .any, .any, .any, .any, .any, .any, .any, .any, .any, .any, .any, .any, .any, .any, .any, .any, .any, .any, .any, .any, .any, .any, .any, .any, .any, .any, .any, .any, .any, .any, .any, .any, .any, .any, .any, .any, .any, .any, .any, .any, .any, .any, .any, .any, .any, .any, .any, .any, .any, .any, .any, .any, .any, .any, .any, .any, .any, .any, .any, .any, .any, .any, .any, .any, .any, .any, .any, .any, .any, .any, .any, .any, .any, .any, .any, .any, .any, .any, .any, .any, .any, .any, .any, .any, .any, .any, .any, .any, .any, .any, .any, .any, .any, .any, .any, .any, .any, .any, .any, .any, .any, .any, .any, .any, .any, .any, .any, .any, .any, .any, .any, .any, .any, .any, .any, .any, .any, .any, .any, .any, .any, .any, .any, .any, .any, .any, .any, .any, .any, .any, .any, .any, .any, .any, .any, .any, .any, .any, .any, .any, .any, .any, .any, .any, .any, .any, .any, .any, .any, .any, .any, .any, .any, .any], [.ex false [.c (.sc (.int .u32 x155)), .c (.sc (.int .u32 x156)), .row 32 (.int .u32) x157] 27], 0⟩))) ∧ (((IntKind.wrap .i64 ((1 : Int) + (IntKind.wrap .i64 ((Int.tmod (IntKind.wrap .u64 ((List.getD a0 (Int.toNat x158) ((0 : Int), ((0 : Int), (0 : Int)))).2.1)) (31 : Int)))))) != (19 : Int)) = false → (True) ∧ (∃ t571 : Int, (Fun cfg 9 [.agg [.c (.sc (.int .u32 x155)), .c (.sc (.int .u32 x156)), .row 32 (.int .u32) x157]] [] (sig_Next.R t571) [] ∧ True) ∧ (True) ∧ (∃ t572 : (Option Int), (Fun cfg 14 [.agg [.c (.sc (.int .u32 x155)), .c (.sc (.int .u32 x156)), .row 32 (.int .u32) x157]] [] (sig_Check.R t572) [] ∧ True) ∧ (True) ∧ (((!(Option.isNone t572)) = false → ((!(Option.isNone t572)) = false ∧ (True) ∧ ((!(Option.isNone t572)) = false ∧ (∃ t574 : Bool, (Fun cfg 11 [.one (.sc (.int .u32 x156)), .one (.sc (.int .i64 (9 : Int)))] [] (sigset_Has.R t574) [] ∧ True) ∧ ((!(Option.isNone t572)) = false ∧ ((t574 = false → (t574 = false ∧ (True) ∧ (t574 = false ∧ (∃ t576 : Bool, (Fun cfg 11 [.one (.sc (.int .u32 x155)), .one (.sc (.int .i64 (9 : Int)))] [] (sigset_Has.R t576) [] ∧ True) ∧ (t574 = false ∧ ((t576 = true → (t576 = true ∧ (True) ∧ (t574 = false ∧ (t576 = true ∧ (t574 = false ∧ (((t571 != (9 : Int)) = false → ((t571 != (9 : Int)) = false ∧ (True) ∧ ((t571 != (9 : Int)) = false ∧ (((t571 != (0 : Int)) = true → ((t571 != (0 : Int)) = true ∧ (True) ∧ ((t571 != (0 : Int)) = true ∧ ((t571 != (0 : Int)) = true ∧ (∃ t580 : Bool, (Fun cfg 11 [.one (.sc (.int .u32 x155)), .one (.sc (.int .i64 t571))] [] (sigset_Has.R t580) [] ∧ True) ∧ ((t571 != (0 : Int)) = true ∧ ((t571 != (0 : Int)) = true ∧ (((!t580) = false → ((!t580) = false ∧ (True) ∧ ((!t580) = false ∧ ((!t580) = false ∧ (∃ t582 : Bool, (Fun cfg 11 [.one (.sc (.int .u32 x156)), .one (.sc (.int .i64 t571))] [] (sigset_Has.R t582) [] ∧ True) ∧ ((t571 != (0 : Int)) = true ∧ ((!t580) = false ∧ ((t571 != (9 : Int)) = false ∧ ((t571 != (0 : Int)) = true ∧ ((t571 != (9 : Int)) = false ∧ ((t582 = false → (t582 = false ∧ (True) ∧ (t582 = false ∧ (((t571 == (0 : Int)) = true → ((t571 == (0 : Int)) = true ∧ (True) ∧ ((t571 == (0 : Int)) = true ∧ ((t571 == (0 : Int)) = true ∧ (True) ∧ ((t571 == (0 : Int)) = true ∧ (True) ∧ ((t571 == (0 : Int)) = true ∧ (∃ t585 : Int, (Fun cfg 15 [.one (.sc (.int .u32 (bits .andNot .u32 x155 x156)))] [] (sigset_Count.R t585) [] ∧ True) ∧ ((t571 == (0 : Int)) = true ∧ (True) ∧ (t582 = false ∧ ((t571 == (0 : Int)) = true ∧ (t582 = false ∧ (((t585 != (0 : Int)) = true → (True ∧ (((True) ∧ (True) ∧ True) ∧ halterlaw25_SigLaws.j1_Q x155 x156 x157 x158 a0 r .ret ⟨[.any, .any, .v (.one (.sc (.bool false))), .any, .any, .any, .any, .any, .any, .any, .any, .any, .any, .any, .any, .any, .any, .any, .any, .any, .any, .any, .any, .any, .any, .any, .any, .any, .any, .any, .any, .any, .any, .any, .any, .any, .any, .any, .any, .any, .any, .any, .any, .any, .any, .any, .any, .any, .any, .any, .any, .any, .any, .any, .any, .any, .any, .any, .any, .any, .any, .any, .any, .any, .any, .any, .any, .any, .any, .any, .any, .any, .any, .any, .any, .any, .any, .any, .any, .any, .any, .any, .any, .any, .any, .any, .any, .any, .any, .any, .any, .any, .any, .any, .any, .any, .any, .any, .any, .any, .any, .any, .any, .any, .any, .any, .any, .any, .any, .any, .any, .any, .any, .any, .any, .any, .any, .any, .any, .any, .any, .any, .any, .any, .any, .any, .any, .any, .any, .any, .any, .any, .any, .any, .any, .any, .any, .any, .any, .any, .any, .any, .any, .any, .any, .any, .any, .any, .any, .any, .any, .any, .any, .any, .any, .any, .any, .any, .any, .any, .any, .any, .any, .any, .any, .any, .any, .any, .any, .any, .any, .any, .any, .any, .any, .any, .any, .any, .any, .any, .any], [.ex false [.c (.sc (.int .u32 x155)), .c (.sc (.int .u32 x156)), .row 32 (.int .u32) x157] 27], 0⟩))) ∧ ((t585 != (0 : Int)) = false → (True ∧ (((True) ∧ (True) ∧ True) ∧ halterlaw25_SigLaws.j1_Q x155 x156 x157 x158 a0 r .normal ⟨[.v (.one (.fs (.pair (.int .i64) (.pair (.int .i64) (.int .u32))) a0 false)), .any, .any, .v (.one (.ptr 0 ⟨0, 0, 0, 0⟩)), .v (.one (.sc (.int .i64 x158))), .any, .any, .any, .any, .any, .any, .any, .any, .any, .any, .any, .any, .any, .any, .any, .any, .any, .any, .any, .any, .any, .any, .any, .any, .any, .any, .any, .any, .any, .any, .any, .any, .any, .any, .any, .any, .any, .any, .any, .any, .any, .any, .any, .any, .any, .any, .any, .any, .any, .any, .any, .any, .any, .any, .any, .any, .any, .any, .any, .any, .any, .any, .any, .any, .any, .any, .any, .any, .any, .any, .any, .any, .any, .any, .any, .any, .any, .any, .any, .any, .any, .any, .any, .any, .any, .any, .any, .any, .any, .any, .any, .any, .any, .any, .any, .any, .any, .any, .any, .any, .any, .any, .any, .any, .any, .any, .any, .any, .any, .any, .any, .any, .any, .any, .any, .any, .any, .any, .any, .any, .any, .any, .any, .any, .any, .any, .any, .any, .any, .any, .any, .any, .any, .any, .any, .any, .any, .any, .any, .any, .any, .any, .any, .any, .any, .any, .any, .any, .any, .any, .any, .any, .any, .any, .any, .any, .any, .any, .any, .any, .any, .any, .any, .any, .any, .any, .any, .any, .any, .any, .any, .any, .any, .any, .any, .any], [.ex false [.c (.sc (.int .u32 x155)), .c (.sc (.int .u32 x156)), .row 32 (.int .u32) x157] 27], 0⟩))))))))))))))) ∧ ((t571 == (0 : Int)) = false → ((t571 == (0 : Int)) = false ∧ ((t571 == (0 : Int)) = false ∧ ((t571 == (0 : Int)) = false ∧ ((t571 == (0 : Int)) = false ∧ ((t571 == (0 : Int)) = false ∧ ((t571 == (0 : Int)) = false ∧ (t582 = false ∧ ((t571 == (0 : Int)) = false ∧ (t582 = false ∧ (false = false ∧ (True ∧ (((True) ∧ (True) ∧ True) ∧ halterlaw25_SigLaws.j1_Q x155 x156 x157 x158 a0 r .normal ⟨[.v (.one (.fs (.pair (.int .i64) (.pair (.int .i64) (.int .u32))) a0 false)), .any, .any, .v (.one (.ptr 0 ⟨0, 0, 0, 0⟩)), .v (.one (.sc (.int .i64 x158))), .any, .any, .any, .any, .any, .any, .any, .any, .any, .any, .any, .any, .any, .any, .any, .any, .any, .any, .any, .any, .any, .any, .any, .any, .any, .any, .any, .any, .any, .any, .any, .any, .any, .any, .any, .any, .any, .any, .any, .any, .any, .any, .any, .any, .any, .any, .any, .any, .any, .any, .any, .any, .any, .any, .any, .any, .any, .any, .any, .any, .any, .any, .any, .any, .any, .any, .any, .any, .any, .any, .any, .any, .any, .any, .any, .any, .any, .any, .any, .any, .any, .any, .any, .any, .any, .any, .any, .any, .any, .any, .any, .any, .any, .any, .any, .any, .any, .any, .any, .any, .any, .any, .any, .any, .any, .any, .any, .any, .any, .any, .any, .any, .any, .any, .any, .any, .any, .any, .any, .any, .any, .any, .any, .any, .any, .any, .any, .any, .any, .any, .any, .any, .any, .any, .any, .any, .any, .any, .any, .any, .any, .any, .any, .any, .any, .any, .any, .any, .any, .any, .any, .any, .any, .any, .any, .any, .any, .any, .any, .any, .any, .any, .any, .any, .any, .any, .any, .any, .any, .any, .any, .any, .any, .any, .any, .any], [.ex false [.c (.sc (.int .u32 x155)), .c (.sc (.int .u32 x156)), .row 32 (.int .u32) x157] 27], 0⟩))))))))))))))))) ∧ (t582 = true → (t582 = true ∧ (t582 = true ∧ (t582 = true ∧ (t582 = true ∧ (true = true ∧ (True ∧ (((True) ∧ (True) ∧ True) ∧ halterlaw25_SigLaws.j1_Q x155 x156 x157 x158 a0 r .ret ⟨[.any, .any, .v (.one (.sc (.bool false))), .any, .any, .any, .any, .any, .any, .any, .any, .any, .any, .any, .any, .any, .any, .any, .any, .any, .any, .any, .any, .any, .any, .any, .any, .any, .any, .any, .any, .any, .any, .any, .any, .any, .any, .any, .any, .any, .any, .any, .any, .any, .any, .any, .any, .any, .any, .any, .any, .any, .any, .any, .any, .any, .any, .any, .any, .any, .any, .any, .any, .any, .any, .any, .any, .any, .any, .any, .any, .any, .any, .any, .any, .any, .any, .any, .any, .any, .any, .any, .any, .any, .any, .any, .any, .any, .any, .any, .any, .any, .any, .any, .any, .any, .any, .any, .any, .any, .any, .any, .any, .any, .any, .any, .any, .any, .any, .any, .any, .any, .any, .any, .any, .any, .any, .any, .any, .any, .any, .any, .any, .any, .any, .any, .any, .any, .any, .any, .any, .any, .any, .any, .any, .any, .any, .any, .any, .any, .any, .any, .any, .any, .any, .any, .any, .any, .any, .any, .any, .any, .any, .any, .any, .any, .any, .any, .any, .any, .any, .any, .any, .any, .any, .any, .any, .any, .any, .any, .any, .any, .any, .any, .any, .any, .any, .any, .any, .any, .any], [.ex false [.c (.sc (.int .u32 x155)), .c (.sc (.int .u32 x156)), .row 32 (.int .u32) x157] 27], 0⟩))))))))))))))))))) ∧ ((!t580) = true → ((!t580) = true ∧ ((!t580) = true ∧ ((!t580) = true ∧ ((t571 != (0 : Int)) = true ∧ ((!t580) = true ∧ ((t571 != (9 : Int)) = false ∧ ((t571 != (0 : Int)) = true ∧ ((t571 != (9 : Int)) = false ∧ (true = true ∧ (true = true ∧ (true = true ∧ (true = true ∧ (true = true ∧ (true = true ∧ (True ∧ (((True) ∧ (True) ∧ True) ∧ halterlaw25_SigLaws.j1_Q x155 x156 x157 x158 a0 r .ret ⟨[.any, .any, .v (.one (.sc (.bool false))), .any, .any, .any, .any, .any, .any, .any, .any, .any, .any, .any, .any, .any, .any, .any, .any, .any, .any, .any, .any, .any, .any, .any, .any, .any, .any, .any, .any, .any, .any, .any, .any, .any, .any, .any, .any, .any, .any, .any, .any, .any, .any, .any, .any, .any, .any, .any, .any, .any, .any, .any, .any, .any, .any, .any, .any, .any, .any, .any, .any, .any, .any, .any, .any, .any, .any, .any, .any, .any, .any, .any, .any, .any, .any, .any, .any, .any, .any, .any, .any, .any, .any, .any, .any, .any, .any, .any, .any, .any, .any, .any, .any, .any, .any, .any, .any, .any, .any, .any, .any, .any, .any, .any, .any, .any, .any, .any, .any, .any, .any, .any, .any, .any, .any, .any, .any, .any, .any, .any, .any, .any, .any, .any, .any, .any, .any, .any, .any, .any, .any, .any, .any, .any, .any, .any, .any, .any, .any, .any, .any, .any, .any, .any, .any, .any, .any, .any, .any, .any, .any, .any, .any, .any, .any, .any, .any, .any, .any, .any, .any, .any, .any, .any, .any, .any, .any, .any, .any, .any, .any, .any, .any, .any, .any, .any, .any, .any, .any], [.ex false [.c (.sc (.int .u32 x155)), .c (.sc (.int .u32 x156)), .row 32 (.int .u32) x157] 27], 0⟩))))))))))))))))))))))))) ∧ ((t571 != (0 : Int)) = false → ((t571 != (0 : Int)) = false ∧ ((t571 != (0 : Int)) = false ∧ ((t571 != (0 : Int)) = false ∧ ((t571 != (0 : Int)) = false ∧ ((t571 != (0 : Int)) = false ∧ ((t571 != (0 : Int)) = false ∧ ((t571 != (9 : Int)) = false ∧ ((t571 != (0 : Int)) = false ∧ ((t571 != (9 : Int)) = false ∧ (false = false ∧ (false = false ∧ (True) ∧ (false = false ∧ (((t571 == (0 : Int)) = true → ((t571 == (0 : Int)) = true ∧ (True) ∧ ((t571 == (0 : Int)) = true ∧ ((t571 == (0 : Int)) = true ∧ (True) ∧ ((t571 == (0 : Int)) = true ∧ (True) ∧ ((t571 == (0 : Int)) = true ∧ (∃ t588 : Int, (Fun cfg 15 [.one (.sc (.int .u32 (bits .andNot .u32 x155 x156)))] [] (sigset_Count.R t588) [] ∧ True) ∧ ((t571 == (0 : Int)) = true ∧ (True) ∧ (false = false ∧ ((t571 == (0 : Int)) = true ∧ (false = false ∧ (((t588 != (0 : Int)) = true → (True ∧ (((True) ∧ (True) ∧ True) ∧ halterlaw25_SigLaws.j1_Q x155 x156 x157 x158 a0 r .ret ⟨[.any, .any, .v (.one (.sc (.bool false))), .any, .any, .any, .any, .any, .any, .any, .any, .any, .any, .any, .any, .any, .any, .any, .any, .any, .any, .any, .any, .any, .any, .any, .any, .any, .any, .any, .any, .any, .any, .any, .any, .any, .any, .any, .any, .any, .any, .any, .any, .any, .any, .any, .any, .any, .any, .any, .any, .any, .any, .any, .any, .any, .any, .any, .any, .any, .any, .any, .any, .any, .any, .any, .any, .any, .any, .any, .any, .any, .any, .any, .any, .any, .any, .any, .any, .any, .any, .any, .any, .any, .any, .any, .any, .any, .any, .any, .any, .any, .any, .any, .any, .any, .any, .any, .any, .any, .any, .any, .any, .any, .any, .any, .any, .any, .any, .any, .any, .any, .any, .any, .any, .any, .any, .any, .any, .any, .any, .any, .any, .any, .any, .any, .any, .any, .any, .any, .any, .any, .any, .any, .any, .any, .any, .any, .any, .any, .any, .any, .any, .any, .any, .any, .any, .any, .any, .any, .any, .any, .any, .any, .any, .any, .any, .any, .any, .any, .any, .any, .any, .any, .any, .any, .any, .any, .any, .any, .any, .any, .any, .any, .any, .any, .any, .any, .any, .any, .any], [.ex false [.c (.sc (.int .u32 x155)), .c (.sc (.int .u32 x156)), .row 32 (.int .u32) x157] 27], 0⟩))) ∧ ((t588 != (0 : Int)) = false → (True ∧ (((True) ∧ (True) ∧ True) ∧ halterlaw25_SigLaws.j1_Q x155 x156 x157 x158 a0 r .normal ⟨[.v (.one (.fs (.pair (.int .i64) (.pair (.int .i64) (.int .u32))) a0 false)), .any, .any, .v (.one (.ptr 0 ⟨0, 0, 0, 0⟩)), .v (.one (.sc (.int .i64 x158))), .any, .any, .any, .any, .any, .any, .any, .any, .any, .any, .any, .any, .any, .any, .any, .any, .any, .any, .any, .any, .any, .any, .any, .any, .any, .any, .any, .any, .any, .any, .any, .any, .any, .any, .any, .any, .any, .any, .any, .any, .any, .any, .any, .any, .any, .any, .any, .any, .any, .any, .any, .any, .any, .any, .any, .any, .any, .any, .any, .any, .any, .any, .any, .any, .any, .any, .any, .any, .any, .any, .any, .any, .any, .any, .any, .any, .any, .any, .any, .any, .any, .any, .any, .any, .any, .any, .any, .any, .any, .any, .any, .any, .any, .any, .any, .any, .any, .any, .any, .any, .any, .any, .any, .any, .any, .any, .any, .any, .any, .any, .any, .any, .any, .any, .any, .any, .any, .any, .any, .any, .any, .any, .any, .any, .any, .any, .any, .any, .any, .any, .any, .any, .any, .any, .any, .any, .any, .any, .any, .any, .any, .any, .any, .any, .any, .any, .any, .any, .any, .any, .any, .any, .any, .any, .any, .any, .any, .any, .any, .any, .any, .any, .any, .any, .any, .any, .any, .any, .any, .any, .any, .any, .any, .any, .any, .any], [.ex false [.c (.sc (.int .u32 x155)), .c (.sc (.int .u32 x156)), .row 32 (.int .u32) x157] 27], 0⟩))))))))))))))) ∧ ((t571 == (0 : Int)) = false → ((t571 == (0 : Int)) = false ∧ ((t571 == (0 : Int)) = false ∧ ((t571 == (0 : Int)) = false ∧ ((t571 == (0 : Int)) = false ∧ ((t571 == (0 : Int)) = false ∧ ((t571 == (0 : Int)) = false ∧ (false = false ∧ ((t571 == (0 : Int)) = false ∧ (false = false ∧ (false = false ∧ (True ∧ (((True) ∧ (True) ∧ True) ∧ halterlaw25_SigLaws.j1_Q x155 x156 x157 x158 a0 r .normal ⟨[.v (.one (.fs (.pair (.int .i64) (.pair (.int .i64) (.int .u32))) a0 false)), .any, .any, .v (.one (.ptr 0 ⟨0, 0, 0, 0⟩)), .v (.one (.sc (.int .i64 x158))), .any, .any, .any, .any, .any, .any, .any, .any, .any, .any, .any, .any, .any, .any, .any, .any, .any, .any, .any, .any, .any, .any, .any, .any, .any, .any, .any, .any, .any, .any, .any, .any, .any, .any, .any, .any, .any, .any, .any, .any, .any, .any, .any, .any, .any, .any, .any, .any, .any, .any, .any, .any, .any, .any, .any, .any, .any, .any, .any, .any, .any, .any, .any, .any, .any, .any, .any, .any, .any, .any, .any, .any, .any, .any, .any, .any, .any, .any, .any, .any, .any, .any, .any, .any, .any, .any, .any, .any, .any, .any, .any, .any, .any, .any, .any, .any, .any, .any, .any, .any, .any, .any, .any, .any, .any, .any, .any, .any, .any, .any, .any, .any, .any, .any, .any, .any, .any, .any, .any, .any, .any, .any, .any, .any, .any, .any, .any, .any, .any, .any, .any, .any, .any, .any, .any, .any, .any, .any, .any, .any, .any, .any, .any, .any, .any, .any, .any, .any, .any, .any, .any, .any, .any, .any, .any, .any, .any, .any, .any, .any, .any, .any, .any, .any, .any, .any, .any, .any, .any, .any, .any, .any, .any, .any, .any, .any], [.ex false [.c (.sc (.int .u32 x155)), .c (.sc (.int .u32 x156)), .row 32 (.int .u32) x157] 27], 0⟩))))))))))))))))))))))))))))))) ∧ ((t571 != (9 : Int)) = true → ((t571 != (9 : Int)) = true ∧ ((t571 != (9 : Int)) = true ∧ ((t571 != (9 : Int)) = true ∧ ((t571 != (9 : Int)) = true ∧ (true = true ∧ (true = true ∧ (true = true ∧ (true = true ∧ (true = true ∧ (true = true ∧ (True ∧ (((True) ∧ (True) ∧ True) ∧ halterlaw25_SigLaws.j1_Q x155 x156 x157 x158 a0 r .ret ⟨[.any, .any, .v (.one (.sc (.bool false))), .any, .any, .any, .any, .any, .any, .any, .any, .any, .any, .any, .any, .any, .any, .any, .any, .any, .any, .any, .any, .any, .any, .any, .any, .any, .any, .any, .any, .any, .any, .any, .any, .any, .any, .any, .any, .any, .any, .any, .any, .any, .any, .any, .any, .any, .any, .any, .any, .any, .any, .any, .any, .any, .any, .any, .any, .any, .any, .any, .any, .any, .any, .any, .any, .any, .any, .any, .any, .any, .any, .any, .any, .any, .any, .any, .any, .any, .any, .any, .any, .any, .any, .any, .any, .any, .any, .any, .any, .any, .any, .any, .any, .any, .any, .any, .any, .any, .any, .any, .any, .any, .any, .any, .any, .any, .any, .any, .any, .any, .any, .any, .any, .any, .any, .any, .any, .any, .any, .any, .any, .any, .any, .any, .any, .any, .any, .any, .any, .any, .any, .any, .any, .any, .any, .any, .any, .any, .any, .any, .any, .any, .any, .any, .any, .any, .any, .any, .any, .any, .any, .any, .any, .any, .any, .any, .any, .any, .any, .any, .any, .any, .any, .any, .any, .any, .any, .any, .any, .any, .any, .any, .any, .any, .any, .any, .any, .any, .any], [.ex false [.c (.sc (.int .u32 x155)), .c (.sc (.int .u32 x156)), .row 32 (.int .u32) x157] 27], 0⟩))))))))))))))))))) ∧ (t576 = false → (t576 = false ∧ (t574 = false ∧ (t576 = false ∧ (t574 = false ∧ (false = false ∧ (false = false ∧ (True) ∧ (false = false ∧ (((t571 != (0 : Int)) = true → ((t571 != (0 : Int)) = true ∧ (True) ∧ ((t571 != (0 : Int)) = true ∧ ((t571 != (0 : Int)) = true ∧ (∃ t591 : Bool, (Fun cfg 11 [.one (.sc (.int .u32 x155)), .one (.sc (.int .i64 t571))] [] (sigset_Has.R t591) [] ∧ True) ∧ ((t571 != (0 : Int)) = true ∧ ((t571 != (0 : Int)) = true ∧ (((!t591) = false → ((!t591) = false ∧ (True) ∧ ((!t591) = false ∧ ((!t591) = false ∧ (∃ t593 : Bool, (Fun cfg 11 [.one (.sc (.int .u32 x156)), .one (.sc (.int .i64 t571))] [] (sigset_Has.R t593) [] ∧ True) ∧ ((t571 != (0 : Int)) = true ∧ ((!t591) = false ∧ (false = false ∧ ((t571 != (0 : Int)) = true ∧ (false = false ∧ ((t593 = false → (t593 = false ∧ (True) ∧ (t593 = false ∧ (((t571 == (0 : Int)) = true → ((t571 == (0 : Int)) = true ∧ (True) ∧ ((t571 == (0 : Int)) = true ∧ ((t571 == (0 : Int)) = true ∧ (True) ∧ ((t571 == (0 : Int)) = true ∧ (True) ∧ ((t571 == (0 : Int)) = true ∧ (∃ t596 : Int, (Fun cfg 15 [.one (.sc (.int .u32 (bits .andNot .u32 x155 x156)))] [] (sigset_Count.R t596) [] ∧ True) ∧ ((t571 == (0 : Int)) = true ∧ (True) ∧ (t593 = false ∧ ((t571 == (0 : Int)) = true ∧ (t593 = false ∧ (((t596 != (0 : Int)) = true → (True ∧ (((True) ∧ (True) ∧ True) ∧ halterlaw25_SigLaws.j1_Q x155 x156 x157 x158 a0 r .ret ⟨[.any, .any, .v (.one (.sc (.bool false))), .any, .any, .any, .any, .any, .any, .any, .any, .any, .any, .any, .any, .any, .any, .any, .any, .any, .any, .any, .any, .any, .any, .any, .any, .any, .any, .any, .any, .any, .any, .any, .any, .any, .any, .any, .any, .any, .any, .any, .any, .any, .any, .any, .any, .any, .any, .any, .any, .any, .any, .any, .any, .any, .any, .any, .any, .any, .any, .any, .any, .any, .any, .any, .any, .any, .any, .any, .any, .any, .any, .any, .any, .any, .any, .any, .any, .any, .any, .any, .any, .any, .any, .any, .any, .any, .any, .any, .any, .any, .any, .any, .any, .any, .any, .any, .any, .any, .any, .any, .any, .any, .any, .any, .any, .any, .any, .any, .any, .any, .any, .any, .any, .any, .any, .any, .any, .any, .any, .any, .any, .any, .any, .any, .any, .any, .any, .any, .any, .any, .any, .any, .any, .any, .any, .any, .any, .any, .any, .any, .any, .any, .any, .any, .any, .any, .any, .any, .any, .any, .any, .any, .any, .any, .any, .any, .any, .any, .any, .any, .any, .any, .any, .any, .any, .any, .any, .any, .any, .any, .any, .any, .any, .any, .any, .any, .any, .any, .any], [.ex false [.c (.sc (.int .u32 x155)), .c (.sc (.int .u32 x156)), .row 32 (.int .u32) x157] 27], 0⟩))) ∧ ((t596 != (0 : Int)) = false → (True ∧ (((True) ∧ (True) ∧ True) ∧ halterlaw25_SigLaws.j1_Q x155 x156 x157 x158 a0 r .normal ⟨[.v (.one (.fs (.pair (.int .i64) (.pair (.int .i64) (.int .u32))) a0 false)), .any, .any, .v (.one (.ptr 0 ⟨0, 0, 0, 0⟩)), .v (.one (.sc (.int .i64 x158))), .any, .any, .any, .any, .any, .any, .any, .any, .any, .any, .any, .any, .any, .any, .any, .any, .any, .any, .any, .any, .any, .any, .any, .any, .any, .any, .any, .any, .any, .any, .any, .any, .any, .any, .any, .any, .any, .any, .any, .any, .any, .any, .any, .any, .any, .any, .any, .any, .any, .any, .any, .any, .any, .any, .any, .any, .any, .any, .any, .any, .any, .any, .any, .any, .any, .any, .any, .any, .any, .any, .any, .any, .any, .any, .any, .any, .any, .any, .any, .any, .any, .any, .any, .any, .any, .any, .any, .any, .any, .any, .any, .any, .any, .any, .any, .any, .any, .any, .any, .any, .any, .any, .any, .any, .any, .any, .any, .any, .any, .any, .any, .any, .any, .any, .any, .any, .any, .any, .any, .any, .any, .any, .any, .any, .any, .any, .any, .any, .any, .any, .any, .any, .any, .any, .any, .any, .any, .any, .any, .any, .any, .any, .any, .any, .any, .any, .any, .any, .any, .any, .any, .any, .any, .any, .any, .any, .any, .any, .any, .any, .any, .any, .any, .any, .any, .any, .any, .any, .any, .any, .any, .any, .any, .any, .any, .any], [.ex false [.c (.sc (.int .u32 x155)), .c (.sc (.int .u32 x156)), .row 32 (.int .u32) x157] 27], 0⟩))))))))))))))) ∧ ((t571 == (0 : Int)) = false → ((t571 == (0 : Int)) = false ∧ ((t571 == (0 : Int)) = false ∧ ((t571 == (0 : Int)) = false ∧ ((t571 == (0 : Int)) = false ∧ ((t571 == (0 : Int)) = false ∧ ((t571 == (0 : Int)) = false ∧ (t593 = false ∧ ((t571 == (0 : Int)) = false ∧ (t593 = false ∧ (false = false ∧ (True ∧ (((True) ∧ (True) ∧ True) ∧ halterlaw25_SigLaws.j1_Q x155 x156 x157 x158 a0 r .normal ⟨[.v (.one (.fs (.pair (.int .i64) (.pair (.int .i64) (.int .u32))) a0 false)), .any, .any, .v (.one (.ptr 0 ⟨0, 0, 0, 0⟩)), .v (.one (.sc (.int .i64 x158))), .any, .any, .any, .any, .any, .any, .any, .any, .any, .any, .any, .any, .any, .any, .any, .any, .any, .any, .any, .any, .any, .any, .any, .any, .any, .any, .any, .any, .any, .any, .any, .any, .any, .any, .any, .any, .any, .any, .any, .any, .any, .any, .any, .any, .any, .any, .any, .any, .any, .any, .any, .any, .any, .any, .any, .any, .any, .any, .any, .any, .any, .any, .any, .any, .any, .any, .any, .any, .any, .any, .any, .any, .any, .any, .any, .any, .any, .any, .any, .any, .any, .any, .any, .any, .any, .any, .any, .any, .any, .any, .any, .any, .any, .any, .any, .any, .any, .any, .any, .any, .any, .any, .any, .any, .any, .any, .any, .any, .any, .any, .any, .any, .any, .any, .any, .any, .any, .any, .any, .any, .any, .any, .any, .any, .any, .any, .any, .any, .any, .any, .any, .any, .any, .any, .any, .any, .any, .any, .any, .any, .any, .any, .any, .any, .any, .any, .any, .any, .any, .any, .any, .any, .any, .any, .any, .any, .any, .any, .any, .any, .any, .any, .any, .any, .any, .any, .any, .any, .any, .any, .any, .any, .any, .any, .any, .any], [.ex false [.c (.sc (.int .u32 x155)), .c (.sc (.int .u32 x156)), .row 32 (.int .u32) x157] 27], 0⟩))))))))))))))))) ∧ (t593 = true → (t593 = true ∧ (t593 = true ∧ (t593 = true ∧ (t593 = true ∧ (true = true ∧ (True ∧ (((True) ∧ (True) ∧ True) ∧ halterlaw25_SigLaws.j1_Q x155 x156 x157 x158 a0 r .ret ⟨[.any, .any, .v (.one (.sc (.bool false))), .any, .any, .any, .any, .any, .any, .any, .any, .any, .any, .any, .any, .any, .any, .any, .any, .any, .any, .any, .any, .any, .any, .any, .any, .any, .any, .any, .any, .any, .any, .any, .any, .any, .any, .any, .any, .any, .any, .any, .any, .any, .any, .any, .any, .any, .any, .any, .any, .any, .any, .any, .any, .any, .any, .any, .any, .any, .any, .any, .any, .any, .any, .any, .any, .any, .any, .any, .any, .any, .any, .any, .any, .any, .any, .any, .any, .any, .any, .any, .any, .any, .any, .any, .any, .any, .any, .any, .any, .any, .any, .any, .any, .any, .any, .any, .any, .any, .any, .any, .any, .any, .any, .any, .any, .any, .any, .any, .any, .any, .any, .any, .any, .any, .any, .any, .any, .any, .any, .any, .any, .any, .any, .any, .any, .any, .any, .any, .any, .any, .any, .any, .any, .any, .any, .any, .any, .any, .any, .any, .any, .any, .any, .any, .any, .any, .any, .any, .any, .any, .any, .any, .any, .any, .any, .any, .any, .any, .any, .any, .any, .any, .any, .any, .any, .any, .any, .any, .any, .any, .any, .any, .any, .any, .any, .any, .any, .any, .any], [.ex false [.c (.sc (.int .u32 x155)), .c (.sc (.int .u32 x156)), .row 32 (.int .u32) x157] 27], 0⟩))))))))))))))))))) ∧ ((!t591) = true → ((!t591) = true ∧ ((!t591) = true ∧ ((!t591) = true ∧ ((t571 != (0 : Int)) = true ∧ ((!t591) = true ∧ (false = false ∧ ((t571 != (0 : Int)) = true ∧ (false = false ∧ (true = true ∧ (true = true ∧ (true = true ∧ (true = true ∧ (true = true ∧ (true = true ∧ (True ∧ (((True) ∧ (True) ∧ True) ∧ halterlaw25_SigLaws.j1_Q x155 x156 x157 x158 a0 r .ret ⟨[.any, .any, .v (.one (.sc (.bool false))), .any, .any, .any, .any, .any, .any, .any, .any, .any, .any, .any, .any, .any, .any, .any, .any, .any, .any, .any, .any, .any, .any, .any, .any, .any, .any, .any, .any, .any, .any, .any, .any, .any, .any, .any, .any, .any, .any, .any, .any, .any, .any, .any, .any, .any, .any, .any, .any, .any, .any, .any, .any, .any, .any, .any, .any, .any, .any, .any, .any, .any, .any, .any, .any, .any, .any, .any, .any, .any, .any, .any, .any, .any, .any, .any, .any, .any, .any, .any, .any, .any, .any, .any, .any, .any, .any, .any, .any, .any, .any, .any, .any, .any, .any, .any, .any, .any, .any, .any, .any, .any, .any, .any, .any, .any, .any, .any, .any, .any, .any, .any, .any, .any, .any, .any, .any, .any, .any, .any, .any, .any, .any, .any, .any, .any, .any, .any, .any, .any, .any, .any, .any, .any, .any, .any, .any, .any, .any, .any, .any, .any, .any, .any, .any, .any, .any, .any, .any, .any, .any, .any, .any, .any, .any, .any, .any, .any, .any, .any, .any, .any, .any, .any, .any, .any, .any, .any, .any, .any, .any, .any, .any, .any, .any, .any, .any, .any, .any], [.ex false [.c (.sc (.int .u32 x155)), .c (.sc (.int .u32 x156)), .row 32 (.int .u32) x157] 27], 0⟩))))))))))))))))))))))))) ∧ ((t571 != (0 : Int)) = false → ((t571 != (0 : Int)) = false ∧ ((t571 != (0 : Int)) = false ∧ ((t571 != (0 : Int)) = false ∧ ((t571 != (0 : Int)) = false ∧ ((t571 != (0 : Int)) = false ∧ ((t571 != (0 : Int)) = false ∧ (false = false ∧ ((t571 != (0 : Int)) = false ∧ (false = false ∧ (false = false ∧ (false = false ∧ (True) ∧ (false = false ∧ (((t571 == (0 : Int)) = true → ((t571 == (0 : Int)) = true ∧ (True) ∧ ((t571 == (0 : Int)) = true ∧ ((t571 == (0 : Int)) = true ∧ (True) ∧ ((t571 == (0 : Int)) = true ∧ (True) ∧ ((t571 == (0 : Int)) = true ∧ (∃ t599 : Int, (Fun cfg 15 [.one (.sc (.int .u32 (bits .andNot .u32 x155 x156)))] [] (sigset_Count.R t599) [] ∧ True) ∧ ((t571 == (0 : Int)) = true ∧ (True) ∧ (false = false ∧ ((t571 == (0 : Int)) = true ∧ (false = false ∧ (((t599 != (0 : Int)) = true → (True ∧ (((True) ∧ (True) ∧ True) ∧ halterlaw25_SigLaws.j1_Q x155 x156 x157 x158 a0 r .ret ⟨[.any, .any, .v (.one (.sc (.bool false))), .any, .any, .any, .any, .any, .any, .any, .any, .any, .any, .any, .any, .any, .any, .any, .any, .any, .any, .any, .any, .any, .any, .any, .any, .any, .any, .any, .any, .any, .any, .any, .any, .any, .any, .any, .any, .any, .any, .any, .any, .any, .any, .any, .any, .any, .any, .any, .any, .any, .any, .any, .any, .any, .any, .any, .any, .any, .any, .any, .any, .any, .any, .any, .any, .any, .any, .any, .any, .any, .any, .any, .any, .any, .any, .any, .any, .any, .any, .any, .any, .any, .any, .any, .any, .any, .any, .any, .any, .any, .any, .any, .any, .any, .any, .any, .any, .any, .any, .any, .any, .any, .any, .any, .any, .any, .any, .any, .any, .any, .any, .any, .any, .any, .any, .any, .any, .any, .any, .any, .any, .any, .any, .any, .any, .any, .any, .any, .any, .any, .any, .any, .any, .any, .any, .any, .any, .any, .any, .any, .any, .any, .any, .any, .any, .any, .any, .any, .any, .any, .any, .any, .any, .any, .any, .any, .any, .any, .any, .any, .any, .any, .any, .any, .any, .any, .any, .any, .any, .any, .any, .any, .any, .any, .any, .any, .any, .any, .any], [.ex false [.c (.sc (.int .u32 x155)), .c (.sc (.int .u32 x156)), .row 32 (.int .u32) x157] 27], 0⟩))) ∧ ((t599 != (0 : Int)) = false → (True ∧ (((True) ∧ (True) ∧ True) ∧ halterlaw25_SigLaws.j1_Q x155 x156 x157 x158 a0 r .normal ⟨[.v (.one (.fs (.pair (.int .i64) (.pair (.int .i64) (.int .u32))) a0 false)), .any, .any, .v (.one (.ptr 0 ⟨0, 0, 0, 0⟩)), .v (.one (.sc (.int .i64 x158))), .any, .any, .any, .any, .any, .any, .any, .any, .any, .any, .any, .any, .any, .any, .any, .any, .any, .any, .any, .any, .any, .any, .any, .any, .any, .any, .any, .any, .any, .any, .any, .any, .any, .any, .any, .any, .any, .any, .any, .any, .any, .any, .any, .any, .any, .any, .any, .any, .any, .any, .any, .any, .any, .any, .any, .any, .any, .any, .any, .any, .any, .any, .any, .any, .any, .any, .any, .any, .any, .any, .any, .any, .any, .any, .any, .any, .any, .any, .any, .any, .any, .any, .any, .any, .any, .any, .any, .any, .any, .any, .any, .any, .any, .any, .any, .any, .any, .any, .any, .any, .any, .any, .any, .any, .any, .any, .any, .any, .any, .any, .any, .any, .any, .any, .any, .any, .any, .any, .any, .any, .any, .any, .any, .any, .any, .any, .any, .any, .any, .any, .any, .any, .any, .any, .any, .any, .any, .any, .any, .any, .any, .any, .any, .any, .any, .any, .any, .any, .any, .any, .any, .any, .any, .any, .any, .any, .any, .any, .any, .any, .any, .any, .any, .any, .any, .any, .any, .any, .any, .any, .any, .any, .any, .any, .any, .any], [.ex false [.c (.sc (.int .u32 x155)), .c (.sc (.int .u32 x156)), .row 32 (.int .u32) x157] 27], 0⟩))))))))))))))) ∧ ((t571 == (0 : Int)) = false → ((t571 == (0 : Int)) = false ∧ ((t571 == (0 : Int)) = false ∧ ((t571 == (0 : Int)) = false ∧ ((t571 == (0 : Int)) = false ∧ ((t571 == (0 : Int)) = false ∧ ((t571 == (0 : Int)) = false ∧ (false = false ∧ ((t571 == (0 : Int)) = false ∧ (false = false ∧ (false = false ∧ (True ∧ (((True) ∧ (True) ∧ True) ∧ halterlaw25_SigLaws.j1_Q x155 x156 x157 x158 a0 r .normal ⟨[.v (.one (.fs (.pair (.int .i64) (.pair (.int .i64) (.int .u32))) a0 false)), .any, .any, .v (.one (.ptr 0 ⟨0, 0, 0, 0⟩)), .v (.one (.sc (.int .i64 x158))), .any, .any, .any, .any, .any, .any, .any, .any, .any, .any, .any, .any, .any, .any, .any, .any, .any, .any, .any, .any, .any, .any, .any, .any, .any, .any, .any, .any, .any, .any, .any, .any, .any, .any, .any, .any, .any, .any, .any, .any, .any, .any, .any, .any, .any, .any, .any, .any, .any, .any, .any, .any, .any, .any, .any, .any, .any, .any, .any, .any, .any, .any, .any, .any, .any, .any, .any, .any, .any, .any, .any, .any, .any, .any, .any, .any, .any, .any, .any, .any, .any, .any, .any, .any, .any, .any, .any, .any, .any, .any, .any, .any, .any, .any, .any, .any, .any, .any, .any, .any, .any, .any, .any, .any, .any, .any, .any, .any, .any, .any, .any, .any, .any, .any, .any, .any, .any, .any, .any, .any, .any, .any, .any, .any, .any, .any, .any, .any, .any, .any, .any, .any, .any, .any, .any, .any, .any, .any, .any, .any, .any, .any, .any, .any, .any, .any, .any, .any, .any, .any, .any, .any, .any, .any, .any, .any, .any, .any, .any, .any, .any, .any, .any, .any, .any, .any, .any, .any, .any, .any, .any, .any, .any, .any, .any, .any], [.ex false [.c (.sc (.int .u32 x155)), .c (.sc (.int .u32 x156)), .row 32 (.int .u32) x157] 27], 0⟩)))))))))))))))))))))))))))))))))))))))))) ∧ (t574 = true → (t574 = true ∧ (t574 = true ∧ (t574 = true ∧ (t574 = true ∧ (t574 = true ∧ (true = true ∧ (true = true ∧ (true = true ∧ (true = true ∧ (true = true ∧ (true = true ∧ (true = true ∧ (true = true ∧ (true = true ∧ (true = true ∧ (true = true ∧ (True ∧ (((True) ∧ (True) ∧ True) ∧ halterlaw25_SigLaws.j1_Q x155 x156 x157 x158 a0 r .ret ⟨[.any, .any, .v (.one (.sc (.bool false))), .any, .any, .any, .any, .any, .any, .any, .any, .any, .any, .any, .any, .any, .any, .any, .any, .any, .any, .any, .any, .any, .any, .any, .any, .any, .any, .any, .any, .any, .any, .any, .any, .any, .any, .any, .any, .any, .any, .any, .any, .any, .any, .any, .any, .any, .any, .any, .any, .any, .any, .any, .any, .any, .any, .any, .any, .any, .any, .any, .any, .any, .any, .any, .any, .any, .any, .any, .any, .any, .any, .any, .any, .any, .any, .any, .any, .any, .any, .any, .any, .any, .any, .any, .any, .any, .any, .any, .any, .any, .any, .any, .any, .any, .any, .any, .any, .any, .any, .any, .any, .any, .any, .any, .any, .any, .any, .any, .any, .any, .any, .any, .any, .any, .any, .any, .any, .any, .any, .any, .any, .any, .any, .any, .any, .any, .any, .any, .any, .any, .any, .any, .any, .any, .any, .any, .any, .any, .any, .any, .any, .any, .any, .any, .any, .any, .any, .any, .any, .any, .any, .any, .any, .any, .any, .any, .any, .any, .any, .any, .any, .any, .any, .any, .any, .any, .any, .any, .any, .any, .any, .any, .any, .any, .any, .any, .any, .any, .any], [.ex false [.c (.sc (.int .u32 x155)), .c (.sc (.int .u32 x156)), .row 32 (.int .u32) x157] 27], 0⟩))))))))))))))))))))))))) ∧ ((!(Option.isNone t572)) = true → ((!(Option.isNone t572)) = true ∧ ((!(Option.isNone t572)) = true ∧ ((!(Option.isNone t572)) = true ∧ (true = true ∧ (true = true ∧ (true = true ∧ (true = true ∧ (true = true ∧ (true = true ∧ (true = true ∧ (true = true ∧ (true = true ∧ (true = true ∧ (true = true ∧ (true = true ∧ (true = true ∧ (true = true ∧ (true = true ∧ (true = true ∧ (true = true ∧ (True ∧ (((True) ∧ (True) ∧ True) ∧ halterlaw25_SigLaws.j1_Q x155 x156 x157 x158 a0 r .ret ⟨[.any, .any, .v (.one (.sc (.bool false))), .any, .any, .any, .any, .any, .any, .any, .any, .any, .any, .any, .any, .any, .any, .any, .any, .any, .any, .any, .any, .any, .any, .any, .any, .any, .any, .any, .any, .any, .any, .any, .any, .any, .any, .any, .any, .any, .any, .any, .any, .any, .any, .any, .any, .any, .any, .any, .any, .any, .any, .any, .any, .any, .any, .any, .any, .any, .any, .any, .any, .any, .any, .any, .any, .any, .any, .any, .any, .any, .any, .any, .any, .any, .any, .any, .any, .any, .any, .any, .any, .any, .any, .any, .any, .any, .any, .any, .any, .any, .any, .any, .any, .any, .any, .any, .any, .any, .any, .any, .any, .any, .any, .any, .any, .any, .any, .any, .any, .any, .any, .any, .any, .any, .any, .any, .any, .any, .any, .any, .any, .any, .any, .any, .any, .any, .any, .any, .any, .any, .any, .any, .any, .any, .any, .any, .any, .any, .any, .any, .any, .any, .any, .any, .any, .any, .any, .any, .any, .any, .any, .any, .any, .any, .any, .any, .any, .any, .any, .any, .any, .any, .any, .any, .any, .any, .any, .any, .any, .any, .any, .any, .any, .any, .any, .any, .any, .any, .any], [.ex false [.c (.sc (.int .u32 x155)), .c (.sc (.int .u32 x156)), .row 32 (.int .u32) x157] 27], 0⟩))))))))))))))))))))))))))))))) ∧ (((IntKind.wrap .i64 ((1 : Int) + (IntKind.wrap .i64 ((Int.tmod (IntKind.wrap .u64 ((List.getD a0 (Int.toNat x158) ((0 : Int), ((0 : Int), (0 : Int)))).2.1)) (31 : Int)))))) != (9 : Int)) = false → (((IntKind.wrap .i64 ((1 : Int) + (IntKind.wrap .i64 ((Int.tmod (IntKind.wrap .u64 ((List.getD a0 (Int.toNat x158) ((0 : Int), ((0 : Int), (0 : Int)))).2.1)) (31 : Int)))))) != (9 : Int)) = false ∧ (((IntKind.wrap .i64 ((1 : Int) + (IntKind.wrap .i64 ((Int.tmod (IntKind.wrap .u64 ((List.getD a0 (Int.toNat x158) ((0 : Int), ((0 : Int), (0 : Int)))).2.1)) (31 : Int)))))) != (9 : Int)) = false ∧ (false = false ∧ (True) ∧ (∃ t601 : Int, (Fun cfg 9 [.agg [.c (.sc (.int .u32 x155)), .c (.sc (.int .u32 x156)), .row 32 (.int .u32) x157]] [] (sig_Next.R t601) [] ∧ True) ∧ (True) ∧ (∃ t602 : (Option Int), (Fun cfg 14 [.agg [.c (.sc (.int .u32 x155)), .c (.sc (.int .u32 x156)), .row 32 (.int .u32) x157]] [] (sig_Check.R t602) [] ∧ True) ∧ (True) ∧ (((!(Option.isNone t602)) = false → ((!(Option.isNone t602)) = false ∧ (True) ∧ ((!(Option.isNone t602)) = false ∧ (∃ t604 : Bool, (Fun cfg 11 [.one (.sc (.int .u32 x156)), .one (.sc (.int .i64 (9 : Int)))] [] (sigset_Has.R t604) [] ∧ True) ∧ ((!(Option.isNone t602)) = false ∧ ((t604 = false → (t604 = false ∧ (True) ∧ (t604 = false ∧ (∃ t606 : Bool, (Fun cfg 11 [.one (.sc (.int .u32 x155)), .one (.sc (.int .i64 (9 : Int)))] [] (sigset_Has.R t606) [] ∧ True) ∧ (t604 = false ∧ ((t606 = true → (t606 = true ∧ (True) ∧ (t604 = false ∧ (t606 = true ∧ (t604 = false ∧ (((t601 != (9 : Int)) = false → ((t601 != (9 : Int)) = false ∧ (True) ∧ ((t601 != (9 : Int)) = false ∧ (((t601 != (0 : Int)) = true → ((t601 != (0 : Int)) = true ∧ (True) ∧ ((t601 != (0 : Int)) = true ∧ ((t601 != (0 : Int)) = true ∧ (∃ t610 : Bool, (Fun cfg 11 [.one (.sc (.int .u32 x155)), .one (.sc (.int .i64 t601))] [] (sigset_Has.R t610) [] ∧ True) ∧ ((t601 != (0 : Int)) = true ∧ ((t601 != (0 : Int)) = true ∧ (((!t610) = false → ((!t610) = false ∧ (True) ∧ ((!t610) = false ∧ ((!t610) = false ∧ (∃ t612 : Bool, (Fun cfg 11 [.one (.sc (.int .u32 x156)), .one (.sc (.int .i64 t601))] [] (sigset_Has.R t612) [] ∧ True) ∧ ((t601 != (0 : Int)) = true ∧ ((!t610) = false ∧ ((t601 != (9 : Int)) = false ∧ ((t601 != (0 : Int)) = true ∧ ((t601 != (9 : Int)) = false ∧ ((t612 = false → (t612 = false ∧ (True) ∧ (t612 = false ∧ (((t601 == (0 : Int)) = true → ((t601 == (0 : Int)) = true ∧ (True) ∧ ((t601 == (0 : Int)) = true ∧ ((t601 == (0 : Int)) = true ∧ (True) ∧ ((t601 == (0 : Int)) = true ∧ (True) ∧ ((t601 == (0 : Int)) = true ∧ (∃ t615 : Int, (Fun cfg 15 [.one (.sc (.int .u32 (bits .andNot .u32 x155 x156)))] [] (sigset_Count.R t615) [] ∧ True) ∧ ((t601 == (0 : Int)) = true ∧ (True) ∧ (t612 = false ∧ ((t601 == (0 : Int)) = true ∧ (t612 = false ∧ (((t615 != (0 : Int)) = true → (True ∧ (((True) ∧ (True) ∧ True) ∧ halterlaw25_SigLaws.j1_Q x155 x156 x157 x158 a0 r .ret ⟨[.any, .any, .v (.one (.sc (.bool false))), .any, .any, .any, .any, .any, .any, .any, .any, .any, .any, .any, .any, .any, .any, .any, .any, .any, .any, .any, .any, .any, .any, .any, .any, .any, .any, .any, .any, .any, .any, .any, .any, .any, .any, .any, .any, .any, .any, .any, .any, .any, .any, .any, .any, .any, .any, .any, .any, .any, .any, .any, .any, .any, .any, .any, .any, .any, .any, .any, .any, .any, .any, .any, .any, .any, .any, .any, .any, .any, .any, .any, .any, .any, .any, .any, .any, .any, .any, .any, .any, .any, .any, .any, .any, .any, .any, .any, .any, .any, .any, .any, .any, .any, .any, .any, .any, .any, .any, .any, .any, .any, .any, .any, .any, .any, .any, .any, .any, .any, .any, .any, .any, .any, .any, .any, .any, .any, .any, .any, .any, .any, .any, .any, .any, .any, .any, .any, .any, .any, .any, .any, .any, .any, .any, .any, .any, .any, .any, .any, .any, .any, .any, .any, .any, .any, .any, .any, .any, .any, .any, .any, .any, .any, .any, .any, .any, .any, .any, .any, .any, .any, .any, .any, .any, .any, .any, .any, .any, .any, .any, .any, .any, .any, .any, .any, .any, .any, .any], [.ex false [.c (.sc (.int .u32 x155)), .c (.sc (.int .u32 x156)), .row 32 (.int .u32) x157] 27], 0⟩))) ∧ ((t615 != (0 : Int)) = false → (True ∧ (((True) ∧ (True) ∧ True) ∧ halterlaw25_SigLaws.j1_Q x155 x156 x157 x158 a0 r .normal ⟨[.v (.one (.fs (.pair (.int .i64) (.pair (.int .i64) (.int .u32))) a0 false)), .any, .any, .v (.one (.ptr 0 ⟨0, 0, 0, 0⟩)), .v (.one (.sc (.int .i64 x158))), .any, .any, .any, .any, .any, .any, .any, .any, .any, .any, .any, .any, .any, .any, .any, .any, .any, .any, .any, .any, .any, .any, .any, .any, .any, .any, .any, .any, .any, .any, .any, .any, .any, .any, .any, .any, .any, .any, .any, .any, .any, .any, .any, .any, .any, .any, .any, .any, .any, .any, .any, .any, .any, .any, .any, .any, .any, .any, .any, .any, .any, .any, .any, .any, .any, .any, .any, .any, .any, .any, .any, .any, .any, .any, .any, .any, .any, .any, .any, .any, .any, .any, .any, .any, .any, .any, .any, .any, .any, .any, .any, .any, .any, .any, .any, .any, .any, .any, .any, .any, .any, .any, .any, .any, .any, .any, .any, .any, .any, .any, .any, .any, .any, .any, .any, .any, .any, .any, .any, .any, .any, .any, .any, .any, .any, .any, .any, .any, .any, .any, .any, .any, .any, .any, .any, .any, .any, .any, .any, .any, .any, .any, .any, .any, .any, .any, .any, .any, .any, .any, .any, .any, .any, .any, .any, .any, .any, .any, .any, .any, .any, .any, .any, .any, .any, .any, .any, .any, .any, .any, .any, .any, .any, .any, .any, .any], [.ex false [.c (.sc (.int .u32 x155)), .c (.sc (.int .u32 x156)), .row 32 (.int .u32) x157] 27], 0⟩))))))))))))))) ∧ ((t601 == (0 : Int)) = false → ((t601 == (0 : Int)) = false ∧ ((t601 == (0 : Int)) = false ∧ ((t601 == (0 : Int)) = false ∧ ((t601 == (0 : Int)) = false ∧ ((t601 == (0 : Int)) = false ∧ ((t601 == (0 : Int)) = false ∧ (t612 = false ∧ ((t601 == (0 : Int)) = false ∧ (t612 = false ∧ (false = false ∧ (True ∧ (((True) ∧ (True) ∧ True) ∧ halterlaw25_SigLaws.j1_Q x155 x156 x157 x158 a0 r .normal ⟨[.v (.one (.fs (.pair (.int .i64) (.pair (.int .i64) (.int .u32))) a0 false)), .any, .any, .v (.one (.ptr 0 ⟨0, 0, 0, 0⟩)), .v (.one (.sc (.int .i64 x158))), .any, .any, .any, .any, .any, .any, .any, .any, .any, .any, .any, .any, .any, .any, .any, .any, .any, .any, .any, .any, .any, .any, .any, .any, .any, .any, .any, .any, .any, .any, .any, .any, .any, .any, .any, .any, .any, .any, .any, .any, .any, .any, .any, .any, .any, .any, .any, .any, .any, .any, .any, .any, .any, .any, .any, .any, .any, .any, .any, .any, .any, .any, .any, .any, .any, .any, .any, .any, .any, .any, .any, .any, .any, .any, .any, .any, .any, .any, .any, .any, .any, .any, .any, .any, .any, .any, .any, .any, .any, .any, .any, .any, .any, .any, .any, .any, .any, .any, .any, .any, .any, .any, .any, .any, .any, .any, .any, .any, .any, .any, .any, .any, .any, .any, .any, .any, .any, .any, .any, .any, .any, .any, .any, .any, .any, .any, .any, .any, .any, .any, .any, .any, .any, .any, .any, .any, .any, .any, .any, .any, .any, .any, .any, .any, .any, .any, .any, .any, .any, .any, .any, .any, .any, .any, .any, .any, .any, .any, .any, .any, .any, .any, .any, .any, .any, .any, .any, .any, .any, .any, .any, .any, .any, .any, .any, .any], [.ex false [.c (.sc (.int .u32 x155)), .c (.sc (.int .u32 x156)), .row 32 (.int .u32) x157] 27], 0⟩))))))))))))))))) ∧ (t612 = true → (t612 = true ∧ (t612 = true ∧ (t612 = true ∧ (t612 = true ∧ (true = true ∧ (True ∧ (((True) ∧ (True) ∧ True) ∧ halterlaw25_SigLaws.j1_Q x155 x156 x157 x158 a0 r .ret ⟨[.any, .any, .v (.one (.sc (.bool false))), .any, .any, .any, .any, .any, .any, .any, .any, .any, .any, .any, .any, .any, .any, .any, .any, .any, .any, .any, .any, .any, .any, .any, .any, .any, .any, .any, .any, .any, .any, .any, .any, .any, .any, .any, .any, .any, .any, .any, .any, .any, .any, .any, .any, .any, .any, .any, .any, .any, .any, .any, .any, .any, .any, .any, .any, .any, .any, .any, .any, .any, .any, .any, .any, .any, .any, .any, .any, .any, .any, .any, .any, .any, .any, .any, .any, .any, .any, .any, .any, .any, .any, .any, .any, .any, .any, .any, .any, .any, .any, .any, .any, .any, .any, .any, .any, .any, .any, .any, .any, .any, .any, .any, .any, .any, .any, .any, .any, .any, .any, .any, .any, .any, .any, .any, .any, .any, .any, .any, .any, .any, .any, .any, .any, .any, .any, .any, .any, .any, .any, .any, .any, .any, .any, .any, .any, .any, .any, .any, .any, .any, .any, .any, .any, .any, .any, .any, .any, .any, .any, .any, .any, .any, .any, .any, .any, .any, .any, .any, .any, .any, .any, .any, .any, .any, .any, .any, .any, .any, .any, .any, .any, .any, .any, .any, .any, .any, .any], [.ex false [.c (.sc (.int .u32 x155)), .c (.sc (.int .u32 x156)), .row 32 (.int .u32) x157] 27], 0⟩))))))))))))))))))) ∧ ((!t610) = true → ((!t610) = true ∧ ((!t610) = true ∧ ((!t610) = true ∧ ((t601 != (0 : Int)) = true ∧ ((!t610) = true ∧ ((t601 != (9 : Int)) = false ∧ ((t601 != (0 : Int)) = true ∧ ((t601 != (9 : Int)) = false ∧ (true = true ∧ (true = true ∧ (true = true ∧ (true = true ∧ (true = true ∧ (true = true ∧ (True ∧ (((True) ∧ (True) ∧ True) ∧ halterlaw25_SigLaws.j1_Q x155 x156 x157 x158 a0 r .ret ⟨[.any, .any, .v (.one (.sc (.bool false))), .any, .any, .any, .any, .any, .any, .any, .any, .any, .any, .any, .any, .any, .any, .any, .any, .any, .any, .any, .any, .any, .any, .any, .any, .any, .any, .any, .any, .any, .any, .any, .any, .any, .any, .any, .any, .any, .any, .any, .any, .any, .any, .any, .any, .any, .any, .any, .any, .any, .any, .any, .any, .any, .any, .any, .any, .any, .any, .any, .any, .any, .any, .any, .any, .any, .any, .any, .any, .any, .any, .any, .any, .any, .any, .any, .any, .any, .any, .any, .any, .any, .any, .any, .any, .any, .any, .any, .any, .any, .any, .any, .any, .any, .any, .any, .any, .any, .any, .any, .any, .any, .any, .any, .any, .any, .any, .any, .any, .any, .any, .any, .any, .any, .any, .any, .any, .any, .any, .any, .any, .any, .any, .any, .any, .any, .any, .any, .any, .any, .any, .any, .any, .any, .any, .any, .any, .any, .any, .any, .any, .any, .any, .any, .any, .any, .any, .any, .any, .any, .any, .any, .any, .any, .any, .any, .any, .any, .any, .any, .any, .any, .any, .any, .any, .any, .any, .any, .any, .any, .any, .any, .any, .any, .any, .any, .any, .any, .any], [.ex false [.c (.sc (.int .u32 x155)), .c (.sc (.int .u32 x156)), .row 32 (.int .u32) x157] 27], 0⟩))))))))))))))))))))))))) ∧ ((t601 != (0 : Int)) = false → ((t601 != (0 : Int)) = false ∧ ((t601 != (0 : Int)) = false ∧ ((t601 != (0 : Int)) = false ∧ ((t601 != (0 : Int)) = false ∧ ((t601 != (0 : Int)) = false ∧ ((t601 != (0 : Int)) = false ∧ ((t601 != (9 : Int)) = false ∧ ((t601 != (0 : Int)) = false ∧ ((t601 != (9 : Int)) = false ∧ (false = false ∧ (false = false ∧ (True) ∧ (false = false ∧ (((t601 == (0 : Int)) = true → ((t601 == (0 : Int)) = true ∧ (True) ∧ ((t601 == (0 : Int)) = true ∧ ((t601 == (0 : Int)) = true ∧ (True) ∧ ((t601 == (0 : Int)) = true ∧ (True) ∧ ((t601 == (0 : Int)) = true ∧ (∃ t618 : Int, (Fun cfg 15 [.one (.sc (.int .u32 (bits .andNot .u32 x155 x156)))] [] (sigset_Count.R t618) [] ∧ True) ∧ ((t601 == (0 : Int)) = true ∧ (True) ∧ (false = false ∧ ((t601 == (0 : Int)) = true ∧ (false = false ∧ (((t618 != (0 : Int)) = true → (True ∧ (((True) ∧ (True) ∧ True) ∧ halterlaw25_SigLaws.j1_Q x155 x156 x157 x158 a0 r .ret ⟨[.any, .any, .v (.one (.sc (.bool false))), .any, .any, .any, .any, .any, .any, .any, .any, .any, .any, .any, .any, .any, .any, .any, .any, .any, .any, .any, .any, .any, .any, .any, .any, .any, .any, .any, .any, .any, .any, .any, .any, .any, .any, .any, .any, .any, .any, .any, .any, .any, .any, .any, .any, .any, .any, .any, .any, .any, .any, .any, .any, .any, .any, .any, .any, .any, .any, .any, .any, .any, .any, .any, .any, .any, .any, .any, .any, .any, .any, .any, .any, .any, .any, .any, .any, .any, .any, .any, .any, .any, .any, .any, .any, .any, .any, .any, .any, .any, .any, .any, .any, .any, .any, .any, .any, .any, .any, .any, .any, .any, .any, .any, .any, .any, .any, .any, .any, .any, .any, .any, .any, .any, .any, .any, .any, .any, .any, .any, .any, .any, .any, .any, .any, .any, .any, .any, .any, .any, .any, .any, .any, .any, .any, .any, .any, .any, .any, .any, .any, .any, .any, .any, .any, .any, .any, .any, .any, .any, .any, .any, .any, .any, .any, .any, .any, .any, .any, .any, .any, .any, .any, .any, .any, .any, .any, .any, .any, .any, .any, .any, .any, .any, .any, .any, .any, .any, .any], [.ex false [.c (.sc (.int .u32 x155)), .c (.sc (.int .u32 x156)), .row 32 (.int .u32) x157] 27], 0⟩))) ∧ ((t618 != (0 : Int)) = false → (True ∧ (((True) ∧ (True) ∧ True) ∧ halterlaw25_SigLaws.j1_Q x155 x156 x157 x158 a0 r .normal ⟨[.v (.one (.fs (.pair (.int .i64) (.pair (.int .i64) (.int .u32))) a0 false)), .any, .any, .v (.one (.ptr 0 ⟨0, 0, 0, 0⟩)), .v (.one (.sc (.int .i64 x158))), .any, .any, .any, .any, .any, .any, .any, .any, .any, .any, .any, .any, .any, .any, .any, .any, .any, .any, .any, .any, .any, .any, .any, .any, .any, .any, .any, .any, .any, .any, .any, .any, .any, .any, .any, .any, .any, .any, .any, .any, .any, .any, .any, .any, .any, .any, .any, .any, .any, .any, .any, .any, .any, .any, .any, .any, .any, .any, .any, .any, .any, .any, .any, .any, .any, .any, .any, .any, .any, .any, .any, .any, .any, .any, .any, .any, .any, .any, .any, .any, .any, .any, .any, .any, .any, .any, .any, .any, .any, .any, .any, .any, .any, .any, .any, .any, .any, .any, .any, .any, .any, .any, .any, .any, .any, .any, .any, .any, .any, .any, .any, .any, .any, .any, .any, .any, .any, .any, .any, .any, .any, .any, .any, .any, .any, .any, .any, .any, .any, .any, .any, .any, .any, .any, .any, .any, .any, .any, .any, .any, .any, .any, .any, .any, .any, .any, .any, .any, .any, .any, .any, .any, .any, .any, .any, .any, .any, .any, .any, .any, .any, .any, .any, .any, .any, .any, .any, .any, .any, .any, .any, .any, .any, .any, .any, .any], [.ex false [.c (.sc (.int .u32 x155)), .c (.sc (.int .u32 x156)), .row 32 (.int .u32) x157] 27], 0⟩))))))))))))))) ∧ ((t601 == (0 : Int)) = false → ((t601 == (0 : Int)) = false ∧ ((t601 == (0 : Int)) = false ∧ ((t601 == (0 : Int)) = false ∧ ((t601 == (0 : Int)) = false ∧ ((t601 == (0 : Int)) = false ∧ ((t601 == (0 : Int)) = false ∧ (false = false ∧ ((t601 == (0 : Int)) = false ∧ (false = false ∧ (false = false ∧ (True ∧ (((True) ∧ (True) ∧ True) ∧ halterlaw25_SigLaws.j1_Q x155 x156 x157 x158 a0 r .normal ⟨[.v (.one (.fs (.pair (.int .i64) (.pair (.int .i64) (.int .u32))) a0 false)), .any, .any, .v (.one (.ptr 0 ⟨0, 0, 0, 0⟩)), .v (.one (.sc (.int .i64 x158))), .any, .any, .any, .any, .any, .any, .any, .any, .any, .any, .any, .any, .any, .any, .any, .any, .any, .any, .any, .any, .any, .any, .any, .any, .any, .any, .any, .any, .any, .any, .any, .any, .any, .any, .any, .any, .any, .any, .any, .any, .any, .any, .any, .any, .any, .any, .any, .any, .any, .any, .any, .any, .any, .any, .any, .any, .any, .any, .any, .any, .any, .any, .any, .any, .any, .any, .any, .any, .any, .any, .any, .any, .any, .any, .any, .any, .any, .any, .any, .any, .any, .any, .any, .any, .any, .any, .any, .any, .any, .any, .any, .any, .any, .any, .any, .any, .any, .any, .any, .any, .any, .any, .any, .any, .any, .any, .any, .any, .any, .any, .any, .any, .any, .any, .any, .any, .any, .any, .any, .any, .any, .any, .any, .any, .any, .any, .any, .any, .any, .any, .any, .any, .any, .any, .any, .any, .any, .any, .any, .any, .any, .any, .any, .any, .any, .any, .any, .any, .any, .any, .any, .any, .any, .any, .any, .any, .any, .any, .any, .any, .any, .any, .any, .any, .any, .any, .any, .any, .any, .any, .any, .any, .any, .any, .any, .any], [.ex false [.c (.sc (.int .u32 x155)), .c (.sc (.int .u32 x156)), .row 32 (.int .u32) x157] 27], 0⟩))))))))))))))))))))))))))))))) ∧ ((t601 != (9 : Int)) = true → ((t601 != (9 : Int)) = true ∧ ((t601 != (9 : Int)) = true ∧ ((t601 != (9 : Int)) = true ∧ ((t601 != (9 : Int)) = true ∧ (true = true ∧ (true = true ∧ (true = true ∧ (true = true ∧ (true = true ∧ (true = true ∧ (True ∧ (((True) ∧ (True) ∧ True) ∧ halterlaw25_SigLaws.j1_Q x155 x156 x157 x158 a0 r .ret ⟨[.any, .any, .v (.one (.sc (.bool false))), .any, .any, .any, .any, .any, .any, .any, .any, .any, .any, .any, .any, .any, .any, .any, .any, .any, .any, .any, .any, .any, .any, .any, .any, .any, .any, .any, .any, .any, .any, .any, .any, .any, .any, .any, .any, .any, .any, .any, .any, .any, .any, .any, .any, .any, .any, .any, .any, .any, .any, .any, .any, .any, .any, .any, .any, .any, .any, .any, .any, .any, .any, .any, .any, .any, .any, .any, .any, .any, .any, .any, .any, .any, .any, .any, .any, .any, .any, .any, .any, .any, .any, .any, .any, .any, .any, .any, .any, .any, .any, .any, .any, .any, .any, .any, .any, .any, .any, .any, .any, .any, .any, .any, .any, .any, .any, .any, .any, .any, .any, .any, .any, .any, .any, .any, .any, .any, .any, .any, .any, .any, .any, .any, .any, .any, .any, .any, .any, .any, .any, .any, .any, .any, .any, .any, .any, .any, .any, .any, .any, .any, .any, .any, .any, .any, .any, .any, .any, .any, .any, .any, .any, .any, .any, .any, .any, .any, .any, .any, .any, .any, .any, .any, .any, .any, .any, .any, .any, .any, .any, .any, .any, .any, .any, .any, .any, .any, .any], [.ex false [.c (.sc (.int .u32 x155)), .c (.sc (.int .u32 x156)), .row 32 (.int .u32) x157] 27], 0⟩))))))))))))))))))) ∧ (t606 = false → (t606 = false ∧ (t604 = false ∧ (t606 = false ∧ (t604 = false ∧ (false = false ∧ (false = false ∧ (True) ∧ (false = false ∧ (((t601 != (0 : Int)) = true → ((t601 != (0 : Int)) = true ∧ (True) ∧ ((t601 != (0 : Int)) = true ∧ ((t601 != (0 : Int)) = true ∧ (∃ t621 : Bool, (Fun cfg 11 [.one (.sc (.int .u32 x155)), .one (.sc (.int .i64 t601))] [] (sigset_Has.R t621) [] ∧ True) ∧ ((t601 != (0 : Int)) = true ∧ ((t601 != (0 : Int)) = true ∧ (((!t621) = false → ((!t621) = false ∧ (True) ∧ ((!t621) = false ∧ ((!t621) = false ∧ (∃ t623 : Bool, (Fun cfg 11 [.one (.sc (.int .u32 x156)), .one (.sc (.int .i64 t601))] [] (sigset_Has.R t623) [] ∧ True) ∧ ((t601 != (0 : Int)) = true ∧ ((!t621) = false ∧ (false = false ∧ ((t601 != (0 : Int)) = true ∧ (false = false ∧ ((t623 = false → (t623 = false ∧ (True) ∧ (t623 = false ∧ (((t601 == (0 : Int)) = true → ((t601 == (0 : Int)) = true ∧ (True) ∧ ((t601 == (0 : Int)) = true ∧ ((t601 == (0 : Int)) = true ∧ (True) ∧ ((t601 == (0 : Int)) = true ∧ (True) ∧ ((t601 == (0 : Int)) = true ∧ (∃ t626 : Int, (Fun cfg 15 [.one (.sc (.int .u32 (bits .andNot .u32 x155 x156)))] [] (sigset_Count.R t626) [] ∧ True) ∧ ((t601 == (0 : Int)) = true ∧ (True) ∧ (t623 = false ∧ ((t601 == (0 : Int)) = true ∧ (t623 = false ∧ (((t626 != (0 : Int)) = true → (True ∧ (((True) ∧ (True) ∧ True) ∧ halterlaw25_SigLaws.j1_Q x155 x156 x157 x158 a0 r .ret ⟨[.any, .any, .v (.one (.sc (.bool false))), .any, .any, .any, .any, .any, .any, .any, .any, .any, .any, .any, .any, .any, .any, .any, .any, .any, .any, .any, .any, .any, .any, .any, .any, .any, .any, .any, .any, .any, .any, .any, .any, .any, .any, .any, .any, .any, .any, .any, .any, .any, .any, .any, .any, .any, .any, .any, .any, .any, .any, .any, .any, .any, .any, .any, .any, .any, .any, .any, .any, .any, .any, .any, .any, .any, .any, .any, .any, .any, .any, .any, .any, .any, .any, .any, .any, .any, .any, .any, .any, .any, .any, .any, .any, .any, .any, .any, .any, .any, .any, .any, .any, .any, .any, .any, .any, .any, .any, .any, .any, .any, .any, .any, .any, .any, .any, .any, .any, .any, .any, .any, .any, .any, .any, .any, .any, .any, .any, .any, .any, .any, .any, .any, .any, .any, .any, .any, .any, .any, .any, .any, .any, .any, .any, .any, .any, .any, .any, .any, .any, .any, .any, .any, .any, .any, .any, .any, .any, .any, .any, .any, .any, .any, .any, .any, .any, .any, .any, .any, .any, .any, .any, .any, .any, .any, .any, .any, .any, .any, .any, .any, .any, .any, .any, .any, .any, .any, .any], [.ex false [.c (.sc (.int .u32 x155)), .c (.sc (.int .u32 x156)), .row 32 (.int .u32) x157] 27], 0⟩))) ∧ ((t626 != (0 : Int)) = false → (True ∧ (((True) ∧ (True) ∧ True) ∧ halterlaw25_SigLaws.j1_Q x155 x156 x157 x158 a0 r .normal ⟨[.v (.one (.fs (.pair (.int .i64) (.pair (.int .i64) (.int .u32))) a0 false)), .any, .any, .v (.one (.ptr 0 ⟨0, 0, 0, 0⟩)), .v (.one (.sc (.int .i64 x158))), .any, .any, .any, .any, .any, .any, .any, .any, .any, .any, .any, .any, .any, .any, .any, .any, .any, .any, .any, .any, .any, .any, .any, .any, .any, .any, .any, .any, .any, .any, .any, .any, .any, .any, .any, .any, .any, .any, .any, .any, .any, .any, .any, .any, .any, .any, .any, .any, .any, .any, .any, .any, .any, .any, .any, .any, .any, .any, .any, .any, .any, .any, .any, .any, .any, .any, .any, .any, .any, .any, .any, .any, .any, .any, .any, .any, .any, .any, .any, .any, .any, .any, .any, .any, .any, .any, .any, .any, .any, .any, .any, .any, .any, .any, .any, .any, .any, .any, .any, .any, .any, .any, .any, .any, .any, .any, .any, .any, .any, .any, .any, .any, .any, .any, .any, .any, .any, .any, .any, .any, .any, .any, .any, .any, .any, .any, .any, .any, .any, .any, .any, .any, .any, .any, .any, .any, .any, .any, .any, .any, .any, .any, .any, .any, .any, .any, .any, .any, .any, .any, .any, .any, .any, .any, .any, .any, .any, .any, .any, .any, .any, .any, .any, .any, .any, .any, .any, .any, .any, .any, .any, .any, .any, .any, .any, .any], [.ex false [.c (.sc (.int .u32 x155)), .c (.sc (.int .u32 x156)), .row 32 (.int .u32) x157] 27], 0⟩))))))))))))))) ∧ ((t601 == (0 : Int)) = false → ((t601 == (0 : Int)) = false ∧ ((t601 == (0 : Int)) = false ∧ ((t601 == (0 : Int)) = false ∧ ((t601 == (0 : Int)) = false ∧ ((t601 == (0 : Int)) = false ∧ ((t601 == (0 : Int)) = false ∧ (t623 = false ∧ ((t601 == (0 : Int)) = false ∧ (t623 = false ∧ (false = false ∧ (True ∧ (((True) ∧ (True) ∧ True) ∧ halterlaw25_SigLaws.j1_Q x155 x156 x157 x158 a0 r .normal ⟨[.v (.one (.fs (.pair (.int .i64) (.pair (.int .i64) (.int .u32))) a0 false)), .any, .any, .v (.one (.ptr 0 ⟨0, 0, 0, 0⟩)), .v (.one (.sc (.int .i64 x158))), .any, .any, .any, .any, .any, .any, .any, .any, .any, .any, .any, .any, .any, .any, .any, .any, .any, .any, .any, .any, .any, .any, .any, .any, .any, .any, .any, .any, .any, .any, .any, .any, .any, .any, .any, .any, .any, .any, .any, .any, .any, .any, .any, .any, .any, .any, .any, .any, .any, .any, .any, .any, .any, .any, .any, .any, .any, .any, .any, .any, .any, .any, .any, .any, .any, .any, .any, .any, .any, .any, .any, .any, .any, .any, .any, .any, .any, .any, .any, .any, .any, .any, .any, .any, .any, .any, .any, .any, .any, .any, .any, .any, .any, .any, .any, .any, .any, .any, .any, .any, .any, .any, .any, .any, .any, .any, .any, .any, .any, .any, .any, .any, .any, .any, .any, .any, .any, .any, .any, .any, .any, .any, .any, .any, .any, .any, .any, .any, .any, .any, .any, .any, .any, .any, .any, .any, .any, .any, .any, .any, .any, .any, .any, .any, .any, .any, .any, .any, .any, .any, .any, .any, .any, .any, .any, .any, .any, .any, .any, .any, .any, .any, .any, .any, .any, .any, .any, .any, .any, .any, .any, .any, .any, .any, .any, .any], [.ex false [.c (.sc (.int .u32 x155)), .c (.sc (.int .u32 x156)), .row 32 (.int .u32) x157] 27], 0⟩))))))))))))))))) ∧ (t623 = true → (t623 = true ∧ (t623 = true ∧ (t623 = true ∧ (t623 = true ∧ (true = true ∧ (True ∧ (((True) ∧ (True) ∧ True) ∧ halterlaw25_SigLaws.j1_Q x155 x156 x157 x158 a0 r .ret ⟨[.any, .any, .v (.one (.sc (.bool false))), .any, .any, .any, .any, .any, .any, .any, .any, .any, .any, .any, .any, .any, .any, .any, .any, .any, .any, .any, .any, .any, .any, .any, .any, .any, .any, .any, .any, .any, .any, .any, .any, .any, .any, .any, .any, .any, .any, .any, .any, .any, .any, .any, .any, .any, .any, .any, .any, .any, .any, .any, .any, .any, .any, .any, .any, .any, .any, .any, .any, .any, .any, .any, .any, .any, .any, .any, .any, .any, .any, .any, .any, .any, .any, .any, .any, .any, .any, .any, .any, .any, .any, .any, .any, .any, .any, .any, .any, .any, .any, .any, .any, .any, .any, .any, .any, .any, .any, .any, .any, .any, .any, .any, .any, .any, .any, .any, .any, .any, .any, .any, .any, .any, .any, .any, .any, .any, .any, .any, .any, .any, .any, .any, .any, .any, .any, .any, .any, .any, .any, .any, .any, .any, .any, .any, .any, .any, .any, .any, .any, .any, .any, .any, .any, .any, .any, .any, .any, .any, .any, .any, .any, .any, .any, .any, .any, .any, .any, .any, .any, .any, .any, .any, .any, .any, .any, .any, .any, .any, .any, .any, .any, .any, .any, .any, .any, .any, .any], [.ex false [.c (.sc (.int .u32 x155)), .c (.sc (.int .u32 x156)), .row 32 (.int .u32) x157] 27], 0⟩))))))))))))))))))) ∧ ((!t621) = true → ((!t621) = true ∧ ((!t621) = true ∧ ((!t621) = true ∧ ((t601 != (0 : Int)) = true ∧ ((!t621) = true ∧ (false = false ∧ ((t601 != (0 : Int)) = true ∧ (false = false ∧ (true = true ∧ (true = true ∧ (true = true ∧ (true = true ∧ (true = true ∧ (true = true ∧ (True ∧ (((True) ∧ (True) ∧ True) ∧ halterlaw25_SigLaws.j1_Q x155 x156 x157 x158 a0 r .ret ⟨[.any, .any, .v (.one (.sc (.bool false))), .any, .any, .any, .any, .any, .any, .any, .any, .any, .any, .any, .any, .any, .any, .any, .any, .any, .any, .any, .any, .any, .any, .any, .any, .any, .any, .any, .any, .any, .any, .any, .any, .any, .any, .any, .any, .any, .any, .any, .any, .any, .any, .any, .any, .any, .any, .any, .any, .any, .any, .any, .any, .any, .any, .any, .any, .any, .any, .any, .any, .any, .any, .any, .any, .any, .any, .any, .any, .any, .any, .any, .any, .any, .any, .any, .any, .any, .any, .any, .any, .any, .any, .any, .any, .any, .any, .any, .any, .any, .any, .any, .any, .any, .any, .any, .any, .any, .any, .any, .any, .any, .any, .any, .any, .any, .any, .any, .any, .any, .any, .any, .any, .any, .any, .any, .any, .any, .any, .any, .any, .any, .any, .any, .any, .any, .any, .any, .any, .any, .any, .any, .any, .any, .any, .any, .any, .any, .any, .any, .any, .any, .any, .any, .any, .any, .any, .any, .any, .any, .any, .any, .any, .any, .any, .any, .any, .any, .any, .any, .any, .any, .any, .any, .any, .any, .any, .any, .any, .any, .any, .any, .any, .any, .any, .any, .any, .any, .any], [.ex false [.c (.sc (.int .u32 x155)), .c (.sc (.int .u32 x156)), .row 32 (.int .u32) x157] 27], 0⟩))))))))))))))))))))))))) ∧ ((t601 != (0 : Int)) = false → ((t601 != (0 : Int)) = false ∧ ((t601 != (0 : Int)) = false ∧ ((t601 != (0 : Int)) = false ∧ ((t601 != (0 : Int)) = false ∧ ((t601 != (0 : Int)) = false ∧ ((t601 != (0 : Int)) = false ∧ (false = false ∧ ((t601 != (0 : Int)) = false ∧ (false = false ∧ (false = false ∧ (false = false ∧ (True) ∧ (false = false ∧ (((t601 == (0 : Int)) = true → ((t601 == (0 : Int)) = true ∧ (True) ∧ ((t601 == (0 : Int)) = true ∧ ((t601 == (0 : Int)) = true ∧ (True) ∧ ((t601 == (0 : Int)) = true ∧ (True) ∧ ((t601 == (0 : Int)) = true ∧ (∃ t629 : Int, (Fun cfg 15 [.one (.sc (.int .u32 (bits .andNot .u32 x155 x156)))] [] (sigset_Count.R t629) [] ∧ True) ∧ ((t601 == (0 : Int)) = true ∧ (True) ∧ (false = false ∧ ((t601 == (0 : Int)) = true ∧ (false = false ∧ (((t629 != (0 : Int)) = true → (True ∧ (((True) ∧ (True) ∧ True) ∧ halterlaw25_SigLaws.j1_Q x155 x156 x157 x158 a0 r .ret ⟨[.any, .any, .v (.one (.sc (.bool false))), .any, .any, .any, .any, .any, .any, .any, .any, .any, .any, .any, .any, .any, .any, .any, .any, .any, .any, .any, .any, .any, .any, .any, .any, .any, .any, .any, .any, .any, .any, .any, .any, .any, .any, .any, .any, .any, .any, .any, .any, .any, .any, .any, .any, .any, .any, .any, .any, .any, .any, .any, .any, .any, .any, .any, .any, .any, .any, .any, .any, .any, .any, .any, .any, .any, .any, .any, .any, .any, .any, .any, .any, .any, .any, .any, .any, .any, .any, .any, .any, .any, .any, .any, .any, .any, .any, .any, .any, .any, .any, .any, .any, .any, .any, .any, .any, .any, .any, .any, .any, .any, .any, .any, .any, .any, .any, .any, .any, .any, .any, .any, .any, .any, .any, .any, .any, .any, .any, .any, .any, .any, .any, .any, .any, .any, .any, .any, .any, .any, .any, .any, .any, .any, .any, .any, .any, .any, .any, .any, .any, .any, .any, .any, .any, .any, .any, .any, .any, .any, .any, .any, .any, .any, .any, .any, .any, .any, .any, .any, .any, .any, .any, .any, .any, .any, .any, .any, .any, .any, .any, .any, .any, .any, .any, .any, .any, .any, .any], [.ex false [.c (.sc (.int .u32 x155)), .c (.sc (.int .u32 x156)), .row 32 (.int .u32) x157] 27], 0⟩))) ∧ ((t629 != (0 : Int)) = false → (True ∧ (((True) ∧ (True) ∧ True) ∧ halterlaw25_SigLaws.j1_Q x155 x156 x157 x158 a0 r .normal ⟨[.v (.one (.fs (.pair (.int .i64) (.pair (.int .i64) (.int .u32))) a0 false)), .any, .any, .v (.one (.ptr 0 ⟨0, 0, 0, 0⟩)), .v (.one (.sc (.int .i64 x158))), .any, .any, .any, .any, .any, .any, .any, .any, .any, .any, .any, .any, .any, .any, .any, .any, .any, .any, .any, .any, .any, .any, .any, .any, .any, .any, .any, .any, .any, .any, .any, .any, .any, .any, .any, .any, .any, .any, .any, .any, .any, .any, .any, .any, .any, .any, .any, .any, .any, .any, .any, .any, .any, .any, .any, .any, .any, .any, .any, .any, .any, .any, .any, .any, .any, .any, .any, .any, .any, .any, .any, .any, .any, .any, .any, .any, .any, .any, .any, .any, .any, .any, .any, .any, .any, .any, .any, .any, .any, .any, .any, .any, .any, .any, .any, .any, .any, .any, .any, .any, .any, .any, .any, .any, .any, .any, .any, .any, .any, .any, .any, .any, .any, .any, .any, .any, .any, .any, .any, .any, .any, .any, .any, .any, .any, .any, .any, .any, .any, .any, .any, .any, .any, .any, .any, .any, .any, .any, .any, .any, .any, .any, .any, .any, .any, .any, .any, .any, .any, .any, .any, .any, .any, .any, .any, .any, .any, .any, .any, .any, .any, .any, .any, .any, .any, .any, .any, .any, .any, .any, .any, .any, .any, .any, .any, .any], [.ex false [.c (.sc (.int .u32 x155)), .c (.sc (.int .u32 x156)), .row 32 (.int .u32) x157] 27], 0⟩))))))))))))))) ∧ ((t601 == (0 : Int)) = false → ((t601 == (0 : Int)) = false ∧ ((t601 == (0 : Int)) = false ∧ ((t601 == (0 : Int)) = false ∧ ((t601 == (0 : Int)) = false ∧ ((t601 == (0 : Int)) = false ∧ ((t601 == (0 : Int)) = false ∧ (false = false ∧ ((t601 == (0 : Int)) = false ∧ (false = false ∧ (false = false ∧ (True ∧ (((True) ∧ (True) ∧ True) ∧ halterlaw25_SigLaws.j1_Q x155 x156 x157 x158 a0 r .normal ⟨[.v (.one (.fs (.pair (.int .i64) (.pair (.int .i64) (.int .u32))) a0 false)), .any, .any, .v (.one (.ptr 0 ⟨0, 0, 0, 0⟩)), .v (.one (.sc (.int .i64 x158))), .any, .any, .any, .any, .any, .any, .any, .any, .any, .any, .any, .any, .any, .any, .any, .any, .any, .any, .any, .any, .any, .any, .any, .any, .any, .any, .any, .any, .any, .any, .any, .any, .any, .any, .any, .any, .any, .any, .any, .any, .any, .any, .any, .any, .any, .any, .any, .any, .any, .any, .any, .any, .any, .any, .any, .any, .any, .any, .any, .any, .any, .any, .any, .any, .any, .any, .any, .any, .any, .any, .any, .any, .any, .any, .any, .any, .any, .any, .any, .any, .any, .any, .any, .any, .any, .any, .any, .any, .any, .any, .any, .any, .any, .any, .any, .any, .any, .any, .any, .any, .any, .any, .any, .any, .any, .any, .any, .any, .any, .any, .any, .any, .any, .any, .any, .any, .any, .any, .any, .any, .any, .any, .any, .any, .any, .any, .any, .any, .any, .any, .any, .any, .any, .any, .any, .any, .any, .any, .any, .any, .any, .any, .any, .any, .any, .any, .any, .any, .any, .any, .any, .any, .any, .any, .any, .any, .any, .any, .any, .any, .any, .any, .any, .any, .any, .any, .any, .any, .any, .any, .any, .any, .any, .any, .any, .any], [.ex false [.c (.sc (.int .u32 x155)), .c (.sc (.int .u32 x156)), .row 32 (.int .u32) x157] 27], 0⟩)))))))))))))))))))))))))))))))))))))))))) ∧ (t604 = true → (t604 = true ∧ (t604 = true ∧ (t604 = true ∧ (t604 = true ∧ (t604 = true ∧ (true = true ∧ (true = true ∧ (true = true ∧ (true = true ∧ (true = true ∧ (true = true ∧ (true = true ∧ (true = true ∧ (true = true ∧ (true = true ∧ (true = true ∧ (True ∧ (((True) ∧ (True) ∧ True) ∧ halterlaw25_SigLaws.j1_Q x155 x156 x157 x158 a0 r .ret ⟨[.any, .any, .v (.one (.sc (.bool false))), .any, .any, .any, .any, .any, .any, .any, .any, .any, .any, .any, .any, .any, .any, .any, .any, .any, .any, .any, .any, .any, .any, .any, .any, .any, .any, .any, .any, .any, .any, .any, .any, .any, .any, .any, .any, .any, .any, .any, .any, .any, .any, .any, .any, .any, .any, .any, .any, .any, .any, .any, .any, .any, .any, .any, .any, .any, .any, .any, .any, .any, .any, .any, .any, .any, .any, .any, .any, .any, .any, .any, .any, .any, .any, .any, .any, .any, .any, .any, .any, .any, .any, .any, .any, .any, .any, .any, .any, .any, .any, .any, .any, .any, .any, .any, .any, .any, .any, .any, .any, .any, .any, .any, .any, .any, .any, .any, .any, .any, .any, .any, .any, .any, .any, .any, .any, .any, .any, .any, .any, .any, .any, .any, .any, .any, .any, .any, .any, .any, .any, .any, .any, .any, .any, .any, .any, .any, .any, .any, .any, .any, .any, .any, .any, .any, .any, .any, .any, .any, .any, .any, .any, .any, .any, .any, .any, .any, .any, .any, .any, .any, .any, .any, .any, .any, .any, .any, .any, .any, .any, .any, .any, .any, .any, .any, .any, .any, .any], [.ex false [.c (.sc (.int .u32 x155)), .c (.sc (.int .u32 x156)), .row 32 (.int .u32) x157] 27], 0⟩))))))))))))))))))))))))) ∧ ((!(Option.isNone t602)) = true → ((!(Option.isNone t602)) = true ∧ ((!(Option.isNone t602)) = true ∧ ((!(Option.isNone t602)) = true ∧ (true = true ∧ (true = true ∧ (true = true ∧ (true = true ∧ (true = true ∧ (true = true ∧ (true = true ∧ (true = true ∧ (true = true ∧ (true = true ∧ (true = true ∧ (true = true ∧ (true = true ∧ (true = true ∧ (true = true ∧ (true = true ∧ (true = true ∧ (True ∧ (((True) ∧ (True) ∧ True) ∧ halterlaw25_SigLaws.j1_Q x155 x156 x157 x158 a0 r .ret ⟨[.any, .any, .v (.one (.sc (.bool false))), .any, .any, .any, .any, .any, .any, .any, .any, .any, .any, .any, .any, .any, .any, .any, .any, .any, .any, .any, .any, .any, .any, .any, .any, .any, .any, .any, .any, .any, .any, .any, .any, .any, .any, .any, .any, .any, .any, .any, .any, .any, .any, .any, .any, .any, .any, .any, .any, .any, .any, .any, .any, .any, .any, .any, .any, .any, .any, .any, .any, .any, .any, .any, .any, .any, .any, .any, .any, .any, .any, .any, .any, .any, .any, .any, .any, .any, .any, .any, .any, .any, .any, .any, .any, .any, .any, .any, .any, .any, .any, .any, .any, .any, .any, .any, .any, .any, .any, .any, .any, .any, .any, .any, .any, .any, .any, .any, .any, .any, .any, .any, .any, .any, .any, .any, .any, .any, .any, .any, .any, .any, .any, .any, .any, .any, .any, .any, .any, .any, .any, .any, .any, .any, .any, .any, .any, .any, .any, .any, .any, .any, .any, .any, .any, .any, .any, .any, .any, .any, .any, .any, .any, .any, .any, .any, .any, .any, .any, .any, .any, .any, .any, .any, .any, .any, .any, .any, .any, .any, .any, .any, .any, .any, .any, .any, .any, .any, .any], [.ex false [.c (.sc (.int .u32 x155)), .c (.sc (.int .u32 x156)), .row 32 (.int .u32) x157] 27], 0⟩)))))))))))))))))))))))))))))))))) ∨ (∃ t631 : Unit, Trip cfg (cpath (Tryd.f4.body.getD .skip) [1, 1, 0, 1, 0, 0, 1, 0, 0, 1, 1, 1, 0, 1]) ⟨[.v (.one (.fs (.pair (.int .i64) (.pair (.int .i64) (.int .u32))) a0 false)), .any, .any, .v (.one (.ptr 0 ⟨0, 0, 0, 0⟩)), .v (.one (.sc (.int .i64 x158))), .v (.one (.sc (.int .i64 (IntKind.wrap .i64 ((1 : Int) + (IntKind.wrap .i64 ((Int.tmod (IntKind.wrap .u64 ((List.getD a0 (Int.toNat x158) ((0 : Int), ((0 : Int), (0 : Int)))).2.1)) (31 : Int))))))))), .v (.one (.ptr 1 ⟨0, 0, 0, 0⟩)), .v (.one (.err none)), .any, .any, .any, .any, .any, .any, .any, .any, .any, .any, .any, .any, .any, .any, .any, .any, .any, .any, .any, .any, .any, .any, .any, .any, .any, .any, .any, .any, .v (.one (.sc (.int .i64 (IntKind.wrap .i64 ((Int.tmod (IntKind.wrap .u64 ((List.getD a0 (Int.toNat x158) ((0 : Int), ((0 : Int), (0 : Int)))).1)) (5 : Int))))))), .any, .any, .any, .any, .any, .any, .any, .any, .any, .any, .any, .any, .any, .any, .any, .any, .any, .any, .any, .any, .any, .any, .any, .any, .any, .any, .any, .any, .any, .any, .any, .any, .any, .any, .any, .any, .any, .any, .any, .any, .any, .any, .any, .any, .any, .any, .any, .any, .any, .any, .any, .any, .any, .any, .any, .any, .any, .any, .any, .any, .any, .any, .any, .any, .any, .any, .any, .any, .any, .any, .any, .any, .any, .any, .any, .any, .any, .any, .any, .any, .any, .any, .any, .any, .any, .any, .any, .any, .any, .any, .any, .any, .any, .any, .any, .any, .any, .any, .any, .any, .any, .any, .any, .any, .any, .any, .any, .any, .any, .any, .any, .any, .any, .any, .any, .any, .any, .any, .any, .any, .any, .any, .any, .any, .any, .any, .any, .any, .any, .any, .any, .any, .any, .any, .any, .any, .any, .any, .any, .any, .any, .any, .any, .any], [.ex false [.c (.sc (.int .u32 x155)), .c (.sc (.int .u32 x156)), .row 32 (.int .u32) x157] 27, .ex false [.c (.sc (.int .u32 (0 : Int))), .c (.sc (.int .u32 (0 : Int))), .row 32 (.int .u32) (List.replicate 32 (0 : Int))] 27], 0⟩ (fun e s => e = .ret ∧ s = ⟨[.any, .any, .v (.one (.sc (.bool false))), .any, .any, .any, .any, .any, .any, .any, .any, .any, .any, .any, .any, .any, .any, .any, .any, .any, .any, .any, .any, .any, .any, .any, .any, .any, .any, .any, .any, .any, .any, .any, .any, .any, .any, .any, .any, .any, .any, .any, .any, .any, .any, .any, .any, .any, .any, .any, .any, .any, .any, .any, .any, .any, .any, .any, .any, .any, .any, .any, .any, .any, .any, .any, .any, .any, .any, .any, .any, .any, .any, .any, .any, .any, .any, .any, .any, .any, .any, .any, .any, .any, .any, .any, .any, .any, .any, .any, .any, .any, .any, .any, .any, .any, .any, .any, .any, .any, .any, .any, .any, .any, .any, .any, .any, .any, .any, .any, .any, .any, .any, .any, .any, .any, .any, .any, .any, .any, .any, .any, .any, .any, .any, .any, .any, .any, .any, .any, .any, .any, .any, .any, .any, .any, .any, .any, .any, .any, .any, .any, .any, .any, .any, .any, .any, .any, .any, .any, .any, .any, .any, .any, .any, .any, .any, .any, .any, .any, .any, .any, .any, .any, .any, .any, .any, .any, .any, .any, .any, .any, .any, .any, .any, .any, .any, .any, .any, .any, .any], [.ex false [.c (.sc (.int .u32 x155)), .c (.sc (.int .u32 x156)), .row 32 (.int .u32) x157] 27], 0⟩) ∧ (halterlaw25_SigLaws.j1_Q x155 x156 x157 x158 a0 r .ret ⟨[.any, .any, .v (.one (.sc (.bool false))), .any, .any, .any, .any, .any, .any, .any, .any, .any, .any, .any, .any, .any, .any, .any, .any, .any, .any, .any, .any, .any, .any, .any, .any, .any, .any, .any, .any, .any, .any, .any, .any, .any, .any, .any, .any, .any, .any, .any, .any, .any, .any, .any, .any, .any, .any, .any, .any, .any, .any, .any, .any, .any, .any, .any, .any, .any, .any, .any, .any, .any, .any, .any, .any, .any, .any, .any, .any, .any, .any, .any, .any, .any, .any, .any, .any, .any, .any, .any, .any, .any, .any, .any, .any, .any, .any, .any, .any, .any, .any, .any, .any, .any, .any, .any, .any, .any, .any, .any, .any, .any, .any, .any, .any, .any, .any, .any, .any, .any, .any, .any, .any, .any, .any, .any, .any, .any, .any, .any, .any, .any, .any, .any, .any, .any, .any, .any, .any, .any, .any, .any, .any, .any, .any, .any, .any, .any, .any, .any, .any, .any, .any, .any, .any, .any, .any, .any, .any, .any, .any, .any, .any, .any, .any, .any, .any, .any, .any, .any, .any, .any, .any, .any, .any, .any, .any, .any, .any, .any, .any, .any, .any, .any, .any, .any, .any, .any, .any], [.ex false [.c (.sc (.int .u32 x155)), .c (.sc (.int .u32 x156)), .row 32 (.int .u32) x157] 27], 0⟩)))))))))) (by kernel_rfl) ?_)
  refine ⟨trivial, ?_⟩
  refine ⟨trivial, ?_⟩
  obtain ⟨g633, h⟩ := of_guard h
  refine ⟨g633, ?_⟩
  refine ⟨trivial, ?_⟩
  refine ⟨trivial, ?_⟩
  refine ⟨(by decide), ?_⟩
  refine ⟨trivial, ?_⟩
  refine ⟨trivial, ?_⟩
  refine ⟨trivial, ?_⟩
  refine ⟨trivial, ?_⟩
  refine ⟨trivial, ?_⟩
  obtain ⟨g632, h⟩ := of_guard h
  refine ⟨g632, ?_⟩
  refine ⟨trivial, ?_⟩
  refine ⟨trivial, ?_⟩
  refine ⟨(by decide), ?_⟩
  refine ⟨trivial, ?_⟩
  obtain ⟨t498, ht498, h⟩ := of_bind h
  refine ⟨⟨trivial, trivial⟩, ?_⟩
  rcases t498 with t533 | t631
  · dsimp only at h
    left
    refine ⟨t533, halterlaw25_SigLaws.j2_ok x155 x156 x157 x158 a0 (.inl t533) ht498, ?_⟩
    refine ⟨trivial, ?_⟩
    refine ⟨fun b538 => ?_, fun b538 => ?_⟩
    · rw [if_pos (none_t b538)] at h
      refine ⟨trivial, ?_⟩
      refine ⟨trivial, ?_⟩
      refine ⟨trivial, ?_⟩
      obtain ⟨t539, ht539, h⟩ := of_bind h
      refine ⟨t539, ⟨sig_Next.fun_ ht539, trivial⟩, ?_⟩
      refine ⟨trivial, ?_⟩
      obtain ⟨t540, ht540, h⟩ := of_bind h
      refine ⟨t540, ⟨sig_Check.fun_ ht540, trivial⟩, ?_⟩
      refine ⟨trivial, ?_⟩
      refine ⟨fun b541 => ?_, fun b541 => ?_⟩
      · rw [if_neg (not_not_intro (none_t (not_f b541)))] at h
        refine ⟨b541, ?_⟩
        refine ⟨trivial, ?_⟩
        refine ⟨b541, ?_⟩
        obtain ⟨t542, ht542, h⟩ := of_bind h
        refine ⟨t542, ⟨sigset_Has.fun_ ht542, trivial⟩, ?_⟩
        refine ⟨b541, ?_⟩
        refine ⟨fun b543 => ?_, fun b543 => ?_⟩
        · rw [if_neg (ff b543)] at h
          refine ⟨b543, ?_⟩
          refine ⟨trivial, ?_⟩
          refine ⟨b543, ?_⟩
          obtain ⟨t544, ht544, h⟩ := of_bind h
          refine ⟨t544, ⟨sigset_Has.fun_ ht544, trivial⟩, ?_⟩
          refine ⟨b543, ?_⟩
          refine ⟨fun b545 => ?_, fun b545 => ?_⟩
          · rw [if_pos b545] at h
            refine ⟨b545, ?_⟩
            refine ⟨trivial, ?_⟩
            refine ⟨b543, ?_⟩
            refine ⟨b545, ?_⟩
            refine ⟨b543, ?_⟩
            refine ⟨fun b546 => ?_, fun b546 => ?_⟩
            · rw [if_neg (not_not_intro (bne_f b546))] at h
              refine ⟨b546, ?_⟩
              refine ⟨trivial, ?_⟩
              refine ⟨b546, ?_⟩
              refine ⟨fun b547 => ?_, fun b547 => ?_⟩
              · rw [if_pos (bne_t b547)] at h
                refine ⟨b547, ?_⟩
                refine ⟨trivial, ?_⟩
                refine ⟨b547, ?_⟩
                refine ⟨b547, ?_⟩
                obtain ⟨t548, ht548, h⟩ := of_bind h
                refine ⟨t548, ⟨sigset_Has.fun_ ht548, trivial⟩, ?_⟩
                refine ⟨b547, ?_⟩
                refine ⟨b547, ?_⟩
                refine ⟨fun b549 => ?_, fun b549 => ?_⟩
                · rw [if_neg (not_not_intro (not_f b549))] at h
                  refine ⟨b549, ?_⟩
                  refine ⟨trivial, ?_⟩
                  refine ⟨b549, ?_⟩
                  refine ⟨b549, ?_⟩
                  obtain ⟨t550, ht550, h⟩ := of_bind h
                  refine ⟨t550, ⟨sigset_Has.fun_ ht550, trivial⟩, ?_⟩
                  refine ⟨b547, ?_⟩
                  refine ⟨b549, ?_⟩
                  refine ⟨b546, ?_⟩
                  refine ⟨b547, ?_⟩
                  refine ⟨b546, ?_⟩
                  refine ⟨fun b551 => ?_, fun b551 => ?_⟩
                  · rw [if_neg (ff b551)] at h
                    refine ⟨b551, ?_⟩
                    refine ⟨trivial, ?_⟩
                    refine ⟨b551, ?_⟩
                    refine ⟨fun b552 => ?_, fun b552 => ?_⟩
                    · rw [if_pos (beq_t b552)] at h
                      refine ⟨b552, ?_⟩
                      refine ⟨trivial, ?_⟩
                      refine ⟨b552, ?_⟩
                      refine ⟨b552, ?_⟩
                      refine ⟨trivial, ?_⟩
                      refine ⟨b552, ?_⟩
                      refine ⟨trivial, ?_⟩
                      refine ⟨b552, ?_⟩
                      obtain ⟨t553, ht553, h⟩ := of_bind h
                      refine ⟨t553, ⟨sigset_Count.fun_ ht553, trivial⟩, ?_⟩
                      refine ⟨b552, ?_⟩
                      refine ⟨trivial, ?_⟩
                      refine ⟨b551, ?_⟩
                      refine ⟨b552, ?_⟩
                      refine ⟨b551, ?_⟩
                      refine ⟨fun b554 => ?_, fun b554 => ?_⟩
                      · rw [if_pos (bne_t b554)] at h
                        refine ⟨trivial, ?_⟩
                        obtain rfl := Option.some.inj h
                        exact ⟨⟨trivial, trivial, trivial⟩, rfl, rfl⟩
                      · rw [if_neg (not_not_intro (bne_f b554))] at h
                        refine ⟨trivial, ?_⟩
                        obtain rfl := Option.some.inj h
                        exact ⟨⟨trivial, trivial, trivial⟩, rfl, rfl⟩
                    · rw [if_neg (beq_f b552)] at h
                      refine ⟨b552, ?_⟩
                      refine ⟨b552, ?_⟩
                      refine ⟨b552, ?_⟩
                      refine ⟨b552, ?_⟩
                      refine ⟨b552, ?_⟩
                      refine ⟨b552, ?_⟩
                      refine ⟨b551, ?_⟩
                      refine ⟨b552, ?_⟩
                      refine ⟨b551, ?_⟩
                      refine ⟨rfl, ?_⟩
                      refine ⟨trivial, ?_⟩
                      obtain rfl := Option.some.inj h
                      exact ⟨⟨trivial, trivial, trivial⟩, rfl, rfl⟩
                  · rw [if_pos b551] at h
                    refine ⟨b551, ?_⟩
                    refine ⟨b551, ?_⟩
                    refine ⟨b551, ?_⟩
                    refine ⟨b551, ?_⟩
                    refine ⟨rfl, ?_⟩
                    refine ⟨trivial, ?_⟩
                    obtain rfl := Option.some.inj h
                    exact ⟨⟨trivial, trivial, trivial⟩, rfl, rfl⟩
                · rw [if_pos (ff (not_t b549))] at h
                  refine ⟨b549, ?_⟩
                  refine ⟨b549, ?_⟩
                  refine ⟨b549, ?_⟩
                  refine ⟨b547, ?_⟩
                  refine ⟨b549, ?_⟩
                  refine ⟨b546, ?_⟩
                  refine ⟨b547, ?_⟩
                  refine ⟨b546, ?_⟩
                  refine ⟨rfl, ?_⟩
                  refine ⟨rfl, ?_⟩
                  refine ⟨rfl, ?_⟩
                  refine ⟨rfl, ?_⟩
                  refine ⟨rfl, ?_⟩
                  refine ⟨rfl, ?_⟩
                  refine ⟨trivial, ?_⟩
                  obtain rfl := Option.some.inj h
                  exact ⟨⟨trivial, trivial, trivial⟩, rfl, rfl⟩
              · rw [if_neg (not_not_intro (bne_f b547))] at h
                refine ⟨b547, ?_⟩
                refine ⟨b547, ?_⟩
                refine ⟨b547, ?_⟩
                refine ⟨b547, ?_⟩
                refine ⟨b547, ?_⟩
                refine ⟨b547, ?_⟩
                refine ⟨b546, ?_⟩
                refine ⟨b547, ?_⟩
                refine ⟨b546, ?_⟩
                refine ⟨rfl, ?_⟩
                refine ⟨rfl, ?_⟩
                refine ⟨trivial, ?_⟩
                refine ⟨rfl, ?_⟩
                refine ⟨fun b555 => ?_, fun b555 => ?_⟩
                · rw [if_pos (beq_t b555)] at h
                  refine ⟨b555, ?_⟩
                  refine ⟨trivial, ?_⟩
                  refine ⟨b555, ?_⟩
                  refine ⟨b555, ?_⟩
                  refine ⟨trivial, ?_⟩
                  refine ⟨b555, ?_⟩
                  refine ⟨trivial, ?_⟩
                  refine ⟨b555, ?_⟩
                  obtain ⟨t556, ht556, h⟩ := of_bind h
                  refine ⟨t556, ⟨sigset_Count.fun_ ht556, trivial⟩, ?_⟩
                  refine ⟨b555, ?_⟩
                  refine ⟨trivial, ?_⟩
                  refine ⟨rfl, ?_⟩
                  refine ⟨b555, ?_⟩
                  refine ⟨rfl, ?_⟩
                  refine ⟨fun b557 => ?_, fun b557 => ?_⟩
                  · rw [if_pos (bne_t b557)] at h
                    refine ⟨trivial, ?_⟩
                    obtain rfl := Option.some.inj h
                    exact ⟨⟨trivial, trivial, trivial⟩, rfl, rfl⟩
                  · rw [if_neg (not_not_intro (bne_f b557))] at h
                    refine ⟨trivial, ?_⟩
                    obtain rfl := Option.some.inj h
                    exact ⟨⟨trivial, trivial, trivial⟩, rfl, rfl⟩
                · rw [if_neg (beq_f b555)] at h
                  refine ⟨b555, ?_⟩
                  refine ⟨b555, ?_⟩
                  refine ⟨b555, ?_⟩
                  refine ⟨b555, ?_⟩
                  refine ⟨b555, ?_⟩
                  refine ⟨b555, ?_⟩
                  refine ⟨rfl, ?_⟩
                  refine ⟨b555, ?_⟩
                  refine ⟨rfl, ?_⟩
                  refine ⟨rfl, ?_⟩
                  refine ⟨trivial, ?_⟩
                  obtain rfl := Option.some.inj h
                  exact ⟨⟨trivial, trivial, trivial⟩, rfl, rfl⟩
            · rw [if_pos (bne_t b546)] at h
              refine ⟨b546, ?_⟩
              refine ⟨b546, ?_⟩
              refine ⟨b546, ?_⟩
              refine ⟨b546, ?_⟩
              refine ⟨rfl, ?_⟩
              refine ⟨rfl, ?_⟩
              refine ⟨rfl, ?_⟩
              refine ⟨rfl, ?_⟩
              refine ⟨rfl, ?_⟩
              refine ⟨rfl, ?_⟩
              refine ⟨trivial, ?_⟩
              obtain rfl := Option.some.inj h
              exact ⟨⟨trivial, trivial, trivial⟩, rfl, rfl⟩
          · rw [if_neg (ff b545)] at h
            refine ⟨b545, ?_⟩
            refine ⟨b543, ?_⟩
            refine ⟨b545, ?_⟩
            refine ⟨b543, ?_⟩
            refine ⟨rfl, ?_⟩
            refine ⟨rfl, ?_⟩
            refine ⟨trivial, ?_⟩
            refine ⟨rfl, ?_⟩
            refine ⟨fun b558 => ?_, fun b558 => ?_⟩
            · rw [if_pos (bne_t b558)] at h
              refine ⟨b558, ?_⟩
              refine ⟨trivial, ?_⟩
              refine ⟨b558, ?_⟩
              refine ⟨b558, ?_⟩
              obtain ⟨t559, ht559, h⟩ := of_bind h
              refine ⟨t559, ⟨sigset_Has.fun_ ht559, trivial⟩, ?_⟩
              refine ⟨b558, ?_⟩
              refine ⟨b558, ?_⟩
              refine ⟨fun b560 => ?_, fun b560 => ?_⟩
              · rw [if_neg (not_not_intro (not_f b560))] at h
                refine ⟨b560, ?_⟩
                refine ⟨trivial, ?_⟩
                refine ⟨b560, ?_⟩
                refine ⟨b560, ?_⟩
                obtain ⟨t561, ht561, h⟩ := of_bind h
                refine ⟨t561, ⟨sigset_Has.fun_ ht561, trivial⟩, ?_⟩
                refine ⟨b558, ?_⟩
                refine ⟨b560, ?_⟩
                refine ⟨rfl, ?_⟩
                refine ⟨b558, ?_⟩
                refine ⟨rfl, ?_⟩
                refine ⟨fun b562 => ?_, fun b562 => ?_⟩
                · rw [if_neg (ff b562)] at h
                  refine ⟨b562, ?_⟩
                  refine ⟨trivial, ?_⟩
                  refine ⟨b562, ?_⟩
                  refine ⟨fun b563 => ?_, fun b563 => ?_⟩
                  · rw [if_pos (beq_t b563)] at h
                    refine ⟨b563, ?_⟩
                    refine ⟨trivial, ?_⟩
                    refine ⟨b563, ?_⟩
                    refine ⟨b563, ?_⟩
                    refine ⟨trivial, ?_⟩
                    refine ⟨b563, ?_⟩
                    refine ⟨trivial, ?_⟩
                    refine ⟨b563, ?_⟩
                    obtain ⟨t564, ht564, h⟩ := of_bind h
                    refine ⟨t564, ⟨sigset_Count.fun_ ht564, trivial⟩, ?_⟩
                    refine ⟨b563, ?_⟩
                    refine ⟨trivial, ?_⟩
                    refine ⟨b562, ?_⟩
                    refine ⟨b563, ?_⟩
                    refine ⟨b562, ?_⟩
                    refine ⟨fun b565 => ?_, fun b565 => ?_⟩
                    · rw [if_pos (bne_t b565)] at h
                      refine ⟨trivial, ?_⟩
                      obtain rfl := Option.some.inj h
                      exact ⟨⟨trivial, trivial, trivial⟩, rfl, rfl⟩
                    · rw [if_neg (not_not_intro (bne_f b565))] at h
                      refine ⟨trivial, ?_⟩
                      obtain rfl := Option.some.inj h
                      exact ⟨⟨trivial, trivial, trivial⟩, rfl, rfl⟩
                  · rw [if_neg (beq_f b563)] at h
                    refine ⟨b563, ?_⟩
                    refine ⟨b563, ?_⟩
                    refine ⟨b563, ?_⟩
                    refine ⟨b563, ?_⟩
                    refine ⟨b563, ?_⟩
                    refine ⟨b563, ?_⟩
                    refine ⟨b562, ?_⟩
                    refine ⟨b563, ?_⟩
                    refine ⟨b562, ?_⟩
                    refine ⟨rfl, ?_⟩
                    refine ⟨trivial, ?_⟩
                    obtain rfl := Option.some.inj h
                    exact ⟨⟨trivial, trivial, trivial⟩, rfl, rfl⟩
                · rw [if_pos b562] at h
                  refine ⟨b562, ?_⟩
                  refine ⟨b562, ?_⟩
                  refine ⟨b562, ?_⟩
                  refine ⟨b562, ?_⟩
                  refine ⟨rfl, ?_⟩
                  refine ⟨trivial, ?_⟩
                  obtain rfl := Option.some.inj h
                  exact ⟨⟨trivial, trivial, trivial⟩, rfl, rfl⟩
              · rw [if_pos (ff (not_t b560))] at h
                refine ⟨b560, ?_⟩
                refine ⟨b560, ?_⟩
                refine ⟨b560, ?_⟩
                refine ⟨b558, ?_⟩
                refine ⟨b560, ?_⟩
                refine ⟨rfl, ?_⟩
                refine ⟨b558, ?_⟩
                refine ⟨rfl, ?_⟩
                refine ⟨rfl, ?_⟩
                refine ⟨rfl, ?_⟩
                refine ⟨rfl, ?_⟩
                refine ⟨rfl, ?_⟩
                refine ⟨rfl, ?_⟩
                refine ⟨rfl, ?_⟩
                refine ⟨trivial, ?_⟩
                obtain rfl := Option.some.inj h
                exact ⟨⟨trivial, trivial, trivial⟩, rfl, rfl⟩
            · rw [if_neg (not_not_intro (bne_f b558))] at h
              refine ⟨b558, ?_⟩
              refine ⟨b558, ?_⟩
              refine ⟨b558, ?_⟩
              refine ⟨b558, ?_⟩
              refine ⟨b558, ?_⟩
              refine ⟨b558, ?_⟩
              refine ⟨rfl, ?_⟩
              refine ⟨b558, ?_⟩
              refine ⟨rfl, ?_⟩
              refine ⟨rfl, ?_⟩
              refine ⟨rfl, ?_⟩
              refine ⟨trivial, ?_⟩
              refine ⟨rfl, ?_⟩
              refine ⟨fun b566 => ?_, fun b566 => ?_⟩
              · rw [if_pos (beq_t b566)] at h
                refine ⟨b566, ?_⟩
                refine ⟨trivial, ?_⟩
                refine ⟨b566, ?_⟩
                refine ⟨b566, ?_⟩
                refine ⟨trivial, ?_⟩
                refine ⟨b566, ?_⟩
                refine ⟨trivial, ?_⟩
                refine ⟨b566, ?_⟩
                obtain ⟨t567, ht567, h⟩ := of_bind h
                refine ⟨t567, ⟨sigset_Count.fun_ ht567, trivial⟩, ?_⟩
                refine ⟨b566, ?_⟩
                refine ⟨trivial, ?_⟩
                refine ⟨rfl, ?_⟩
                refine ⟨b566, ?_⟩
                refine ⟨rfl, ?_⟩
                refine ⟨fun b568 => ?_, fun b568 => ?_⟩
                · rw [if_pos (bne_t b568)] at h
                  refine ⟨trivial, ?_⟩
                  obtain rfl := Option.some.inj h
                  exact ⟨⟨trivial, trivial, trivial⟩, rfl, rfl⟩
                · rw [if_neg (not_not_intro (bne_f b568))] at h
                  refine ⟨trivial, ?_⟩
                  obtain rfl := Option.some.inj h
                  exact ⟨⟨trivial, trivial, trivial⟩, rfl, rfl⟩
              · rw [if_neg (beq_f b566)] at h
                refine ⟨b566, ?_⟩
                refine ⟨b566, ?_⟩
                refine ⟨b566, ?_⟩
                refine ⟨b566, ?_⟩
                refine ⟨b566, ?_⟩
                refine ⟨b566, ?_⟩
                refine ⟨rfl, ?_⟩
                refine ⟨b566, ?_⟩
                refine ⟨rfl, ?_⟩
                refine ⟨rfl, ?_⟩
                refine ⟨trivial, ?_⟩
                obtain rfl := Option.some.inj h
                exact ⟨⟨trivial, trivial, trivial⟩, rfl, rfl⟩
        · rw [if_pos b543] at h
          refine ⟨b543, ?_⟩
          refine ⟨b543, ?_⟩
          refine ⟨b543, ?_⟩
          refine ⟨b543, ?_⟩
          refine ⟨b543, ?_⟩
          refine ⟨rfl, ?_⟩
          refine ⟨rfl, ?_⟩
          refine ⟨rfl, ?_⟩
          refine ⟨rfl, ?_⟩
          refine ⟨rfl, ?_⟩
          refine ⟨rfl, ?_⟩
          refine ⟨rfl, ?_⟩
          refine ⟨rfl, ?_⟩
          refine ⟨rfl, ?_⟩
          refine ⟨rfl, ?_⟩
          refine ⟨rfl, ?_⟩
          refine ⟨trivial, ?_⟩
          obtain rfl := Option.some.inj h
          exact ⟨⟨trivial, trivial, trivial⟩, rfl, rfl⟩
      · rw [if_pos (none_f (not_t b541))] at h
        refine ⟨b541, ?_⟩
        refine ⟨b541, ?_⟩
        refine ⟨b541, ?_⟩
        refine ⟨rfl, ?_⟩
        refine ⟨rfl, ?_⟩
        refine ⟨rfl, ?_⟩
        refine ⟨rfl, ?_⟩
        refine ⟨rfl, ?_⟩
        refine ⟨rfl, ?_⟩
        refine ⟨rfl, ?_⟩
        refine ⟨rfl, ?_⟩
        refine ⟨rfl, ?_⟩
        refine ⟨rfl, ?_⟩
        refine ⟨rfl, ?_⟩
        refine ⟨rfl, ?_⟩
        refine ⟨rfl, ?_⟩
        refine ⟨rfl, ?_⟩
        refine ⟨rfl, ?_⟩
        refine ⟨rfl, ?_⟩
        refine ⟨rfl, ?_⟩
        refine ⟨trivial, ?_⟩
        obtain rfl := Option.some.inj h
        exact ⟨⟨trivial, trivial, trivial⟩, rfl, rfl⟩
    · rw [if_neg (none_f b538)] at h
      refine ⟨trivial, ?_⟩
      refine ⟨fun b569 => ?_, fun b569 => ?_⟩
      · rw [if_pos (bne_t b569)] at h
        refine ⟨b569, ?_⟩
        refine ⟨trivial, ?_⟩
        refine ⟨b569, ?_⟩
        refine ⟨fun b570 => ?_, fun b570 => ?_⟩
        · rw [if_pos (bne_t b570)] at h
          refine ⟨trivial, ?_⟩
          obtain rfl := Option.some.inj h
          exact ⟨⟨trivial, trivial, trivial⟩, rfl, rfl⟩
        · rw [if_neg (not_not_intro (bne_f b570))] at h
          refine ⟨trivial, ?_⟩
          obtain ⟨t571, ht571, h⟩ := of_bind h
          refine ⟨t571, ⟨sig_Next.fun_ ht571, trivial⟩, ?_⟩
          refine ⟨trivial, ?_⟩
          obtain ⟨t572, ht572, h⟩ := of_bind h
          refine ⟨t572, ⟨sig_Check.fun_ ht572, trivial⟩, ?_⟩
          refine ⟨trivial, ?_⟩
          refine ⟨fun b573 => ?_, fun b573 => ?_⟩
          · rw [if_neg (not_not_intro (none_t (not_f b573)))] at h
            refine ⟨b573, ?_⟩
            refine ⟨trivial, ?_⟩
            refine ⟨b573, ?_⟩
            obtain ⟨t574, ht574, h⟩ := of_bind h
            refine ⟨t574, ⟨sigset_Has.fun_ ht574, trivial⟩, ?_⟩
            refine ⟨b573, ?_⟩
            refine ⟨fun b575 => ?_, fun b575 => ?_⟩
            · rw [if_neg (ff b575)] at h
              refine ⟨b575, ?_⟩
              refine ⟨trivial, ?_⟩
              refine ⟨b575, ?_⟩
              obtain ⟨t576, ht576, h⟩ := of_bind h
              refine ⟨t576, ⟨sigset_Has.fun_ ht576, trivial⟩, ?_⟩
              refine ⟨b575, ?_⟩
              refine ⟨fun b577 => ?_, fun b577 => ?_⟩
              · rw [if_pos b577] at h
                refine ⟨b577, ?_⟩
                refine ⟨trivial, ?_⟩
                refine ⟨b575, ?_⟩
                refine ⟨b577, ?_⟩
                refine ⟨b575, ?_⟩
                refine ⟨fun b578 => ?_, fun b578 => ?_⟩
                · rw [if_neg (not_not_intro (bne_f b578))] at h
                  refine ⟨b578, ?_⟩
                  refine ⟨trivial, ?_⟩
                  refine ⟨b578, ?_⟩
                  refine ⟨fun b579 => ?_, fun b579 => ?_⟩
                  · rw [if_pos (bne_t b579)] at h
                    refine ⟨b579, ?_⟩
                    refine ⟨trivial, ?_⟩
                    refine ⟨b579, ?_⟩
                    refine ⟨b579, ?_⟩
                    obtain ⟨t580, ht580, h⟩ := of_bind h
                    refine ⟨t580, ⟨sigset_Has.fun_ ht580, trivial⟩, ?_⟩
                    refine ⟨b579, ?_⟩
                    refine ⟨b579, ?_⟩
                    refine ⟨fun b581 => ?_, fun b581 => ?_⟩
                    · rw [if_neg (not_not_intro (not_f b581))] at h
                      refine ⟨b581, ?_⟩
                      refine ⟨trivial, ?_⟩
                      refine ⟨b581, ?_⟩
                      refine ⟨b581, ?_⟩
                      obtain ⟨t582, ht582, h⟩ := of_bind h
                      refine ⟨t582, ⟨sigset_Has.fun_ ht582, trivial⟩, ?_⟩
                      refine ⟨b579, ?_⟩
                      refine ⟨b581, ?_⟩
                      refine ⟨b578, ?_⟩
                      refine ⟨b579, ?_⟩
                      refine ⟨b578, ?_⟩
                      refine ⟨fun b583 => ?_, fun b583 => ?_⟩
                      · rw [if_neg (ff b583)] at h
                        refine ⟨b583, ?_⟩
                        refine ⟨trivial, ?_⟩
                        refine ⟨b583, ?_⟩
                        refine ⟨fun b584 => ?_, fun b584 => ?_⟩
                        · rw [if_pos (beq_t b584)] at h
                          refine ⟨b584, ?_⟩
                          refine ⟨trivial, ?_⟩
                          refine ⟨b584, ?_⟩
                          refine ⟨b584, ?_⟩
                          refine ⟨trivial, ?_⟩
                          refine ⟨b584, ?_⟩
                          refine ⟨trivial, ?_⟩
                          refine ⟨b584, ?_⟩
                          obtain ⟨t585, ht585, h⟩ := of_bind h
                          refine ⟨t585, ⟨sigset_Count.fun_ ht585, trivial⟩, ?_⟩
                          refine ⟨b584, ?_⟩
                          refine ⟨trivial, ?_⟩
                          refine ⟨b583, ?_⟩
                          refine ⟨b584, ?_⟩
                          refine ⟨b583, ?_⟩
                          refine ⟨fun b586 => ?_, fun b586 => ?_⟩
                          · rw [if_pos (bne_t b586)] at h
                            refine ⟨trivial, ?_⟩
                            obtain rfl := Option.some.inj h
                            exact ⟨⟨trivial, trivial, trivial⟩, rfl, rfl⟩
                          · rw [if_neg (not_not_intro (bne_f b586))] at h
                            refine ⟨trivial, ?_⟩
                            obtain rfl := Option.some.inj h
                            exact ⟨⟨trivial, trivial, trivial⟩, rfl, rfl⟩
                        · rw [if_neg (beq_f b584)] at h
                          refine ⟨b584, ?_⟩
                          refine ⟨b584, ?_⟩
                          refine ⟨b584, ?_⟩
                          refine ⟨b584, ?_⟩
                          refine ⟨b584, ?_⟩
                          refine ⟨b584, ?_⟩
                          refine ⟨b583, ?_⟩
                          refine ⟨b584, ?_⟩
                          refine ⟨b583, ?_⟩
                          refine ⟨rfl, ?_⟩
                          refine ⟨trivial, ?_⟩
                          obtain rfl := Option.some.inj h
                          exact ⟨⟨trivial, trivial, trivial⟩, rfl, rfl⟩
                      · rw [if_pos b583] at h
                        refine ⟨b583, ?_⟩
                        refine ⟨b583, ?_⟩
                        refine ⟨b583, ?_⟩
                        refine ⟨b583, ?_⟩
                        refine ⟨rfl, ?_⟩
                        refine ⟨trivial, ?_⟩
                        obtain rfl := Option.some.inj h
                        exact ⟨⟨trivial, trivial, trivial⟩, rfl, rfl⟩
                    · rw [if_pos (ff (not_t b581))] at h
                      refine ⟨b581, ?_⟩
                      refine ⟨b581, ?_⟩
                      refine ⟨b581, ?_⟩
                      refine ⟨b579, ?_⟩
                      refine ⟨b581, ?_⟩
                      refine ⟨b578, ?_⟩
                      refine ⟨b579, ?_⟩
                      refine ⟨b578, ?_⟩
                      refine ⟨rfl, ?_⟩
                      refine ⟨rfl, ?_⟩
                      refine ⟨rfl, ?_⟩
                      refine ⟨rfl, ?_⟩
                      refine ⟨rfl, ?_⟩
                      refine ⟨rfl, ?_⟩
                      refine ⟨trivial, ?_⟩
                      obtain rfl := Option.some.inj h
                      exact ⟨⟨trivial, trivial, trivial⟩, rfl, rfl⟩
                  · rw [if_neg (not_not_intro (bne_f b579))] at h
                    refine ⟨b579, ?_⟩
                    refine ⟨b579, ?_⟩
                    refine ⟨b579, ?_⟩
                    refine ⟨b579, ?_⟩
                    refine ⟨b579, ?_⟩
                    refine ⟨b579, ?_⟩
                    refine ⟨b578, ?_⟩
                    refine ⟨b579, ?_⟩
                    refine ⟨b578, ?_⟩
                    refine ⟨rfl, ?_⟩
                    refine ⟨rfl, ?_⟩
                    refine ⟨trivial, ?_⟩
                    refine ⟨rfl, ?_⟩
                    refine ⟨fun b587 => ?_, fun b587 => ?_⟩
                    · rw [if_pos (beq_t b587)] at h
                      refine ⟨b587, ?_⟩
                      refine ⟨trivial, ?_⟩
                      refine ⟨b587, ?_⟩
                      refine ⟨b587, ?_⟩
                      refine ⟨trivial, ?_⟩
                      refine ⟨b587, ?_⟩
                      refine ⟨trivial, ?_⟩
                      refine ⟨b587, ?_⟩
                      obtain ⟨t588, ht588, h⟩ := of_bind h
                      refine ⟨t588, ⟨sigset_Count.fun_ ht588, trivial⟩, ?_⟩
                      refine ⟨b587, ?_⟩
                      refine ⟨trivial, ?_⟩
                      refine ⟨rfl, ?_⟩
                      refine ⟨b587, ?_⟩
                      refine ⟨rfl, ?_⟩
                      refine ⟨fun b589 => ?_, fun b589 => ?_⟩
                      · rw [if_pos (bne_t b589)] at h
                        refine ⟨trivial, ?_⟩
                        obtain rfl := Option.some.inj h
                        exact ⟨⟨trivial, trivial, trivial⟩, rfl, rfl⟩
                      · rw [if_neg (not_not_intro (bne_f b589))] at h
                        refine ⟨trivial, ?_⟩
                        obtain rfl := Option.some.inj h
                        exact ⟨⟨trivial, trivial, trivial⟩, rfl, rfl⟩
                    · rw [if_neg (beq_f b587)] at h
                      refine ⟨b587, ?_⟩
                      refine ⟨b587, ?_⟩
                      refine ⟨b587, ?_⟩
                      refine ⟨b587, ?_⟩
                      refine ⟨b587, ?_⟩
                      refine ⟨b587, ?_⟩
                      refine ⟨rfl, ?_⟩
                      refine ⟨b587, ?_⟩
                      refine ⟨rfl, ?_⟩
                      refine ⟨rfl, ?_⟩
                      refine ⟨trivial, ?_⟩
                      obtain rfl := Option.some.inj h
                      exact ⟨⟨trivial, trivial, trivial⟩, rfl, rfl⟩
                · rw [if_pos (bne_t b578)] at h
                  refine ⟨b578, ?_⟩
                  refine ⟨b578, ?_⟩
                  refine ⟨b578, ?_⟩
                  refine ⟨b578, ?_⟩
                  refine ⟨rfl, ?_⟩
                  refine ⟨rfl, ?_⟩
                  refine ⟨rfl, ?_⟩
                  refine ⟨rfl, ?_⟩
                  refine ⟨rfl, ?_⟩
                  refine ⟨rfl, ?_⟩
                  refine ⟨trivial, ?_⟩
                  obtain rfl := Option.some.inj h
                  exact ⟨⟨trivial, trivial, trivial⟩, rfl, rfl⟩
              · rw [if_neg (ff b577)] at h
                refine ⟨b577, ?_⟩
                refine ⟨b575, ?_⟩
                refine ⟨b577, ?_⟩
                refine ⟨b575, ?_⟩
                refine ⟨rfl, ?_⟩
                refine ⟨rfl, ?_⟩
                refine ⟨trivial, ?_⟩
                refine ⟨rfl, ?_⟩
                refine ⟨fun b590 => ?_, fun b590 => ?_⟩
                · rw [if_pos (bne_t b590)] at h
                  refine ⟨b590, ?_⟩
                  refine ⟨trivial, ?_⟩
                  refine ⟨b590, ?_⟩
                  refine ⟨b590, ?_⟩
                  obtain ⟨t591, ht591, h⟩ := of_bind h
                  refine ⟨t591, ⟨sigset_Has.fun_ ht591, trivial⟩, ?_⟩
                  refine ⟨b590, ?_⟩
                  refine ⟨b590, ?_⟩
                  refine ⟨fun b592 => ?_, fun b592 => ?_⟩
                  · rw [if_neg (not_not_intro (not_f b592))] at h
                    refine ⟨b592, ?_⟩
                    refine ⟨trivial, ?_⟩
                    refine ⟨b592, ?_⟩
                    refine ⟨b592, ?_⟩
                    obtain ⟨t593, ht593, h⟩ := of_bind h
                    refine ⟨t593, ⟨sigset_Has.fun_ ht593, trivial⟩, ?_⟩
                    refine ⟨b590, ?_⟩
                    refine ⟨b592, ?_⟩
                    refine ⟨rfl, ?_⟩
                    refine ⟨b590, ?_⟩
                    refine ⟨rfl, ?_⟩
                    refine ⟨fun b594 => ?_, fun b594 => ?_⟩
                    · rw [if_neg (ff b594)] at h
                      refine ⟨b594, ?_⟩
                      refine ⟨trivial, ?_⟩
                      refine ⟨b594, ?_⟩
                      refine ⟨fun b595 => ?_, fun b595 => ?_⟩
                      · rw [if_pos (beq_t b595)] at h
                        refine ⟨b595, ?_⟩
                        refine ⟨trivial, ?_⟩
                        refine ⟨b595, ?_⟩
                        refine ⟨b595, ?_⟩
                        refine ⟨trivial, ?_⟩
                        refine ⟨b595, ?_⟩
                        refine ⟨trivial, ?_⟩
                        refine ⟨b595, ?_⟩
                        obtain ⟨t596, ht596, h⟩ := of_bind h
                        refine ⟨t596, ⟨sigset_Count.fun_ ht596, trivial⟩, ?_⟩
                        refine ⟨b595, ?_⟩
                        refine ⟨trivial, ?_⟩
                        refine ⟨b594, ?_⟩
                        refine ⟨b595, ?_⟩
                        refine ⟨b594, ?_⟩
                        refine ⟨fun b597 => ?_, fun b597 => ?_⟩
                        · rw [if_pos (bne_t b597)] at h
                          refine ⟨trivial, ?_⟩
                          obtain rfl := Option.some.inj h
                          exact ⟨⟨trivial, trivial, trivial⟩, rfl, rfl⟩
                        · rw [if_neg (not_not_intro (bne_f b597))] at h
                          refine ⟨trivial, ?_⟩
                          obtain rfl := Option.some.inj h
                          exact ⟨⟨trivial, trivial, trivial⟩, rfl, rfl⟩
                      · rw [if_neg (beq_f b595)] at h
                        refine ⟨b595, ?_⟩
                        refine ⟨b595, ?_⟩
                        refine ⟨b595, ?_⟩
                        refine ⟨b595, ?_⟩
                        refine ⟨b595, ?_⟩
                        refine ⟨b595, ?_⟩
                        refine ⟨b594, ?_⟩
                        refine ⟨b595, ?_⟩
                        refine ⟨b594, ?_⟩
                        refine ⟨rfl, ?_⟩
                        refine ⟨trivial, ?_⟩
                        obtain rfl := Option.some.inj h
                        exact ⟨⟨trivial, trivial, trivial⟩, rfl, rfl⟩
                    · rw [if_pos b594] at h
                      refine ⟨b594, ?_⟩
                      refine ⟨b594, ?_⟩
                      refine ⟨b594, ?_⟩
                      refine ⟨b594, ?_⟩
                      refine ⟨rfl, ?_⟩
                      refine ⟨trivial, ?_⟩
                      obtain rfl := Option.some.inj h
                      exact ⟨⟨trivial, trivial, trivial⟩, rfl, rfl⟩
                  · rw [if_pos (ff (not_t b592))] at h
                    refine ⟨b592, ?_⟩
                    refine ⟨b592, ?_⟩
                    refine ⟨b592, ?_⟩
                    refine ⟨b590, ?_⟩
                    refine ⟨b592, ?_⟩
                    refine ⟨rfl, ?_⟩
                    refine ⟨b590, ?_⟩
                    refine ⟨rfl, ?_⟩
                    refine ⟨rfl, ?_⟩
                    refine ⟨rfl, ?_⟩
                    refine ⟨rfl, ?_⟩
                    refine ⟨rfl, ?_⟩
                    refine ⟨rfl, ?_⟩
                    refine ⟨rfl, ?_⟩
                    refine ⟨trivial, ?_⟩
                    obtain rfl := Option.some.inj h
                    exact ⟨⟨trivial, trivial, trivial⟩, rfl, rfl⟩
                · rw [if_neg (not_not_intro (bne_f b590))] at h
                  refine ⟨b590, ?_⟩
                  refine ⟨b590, ?_⟩
                  refine ⟨b590, ?_⟩
                  refine ⟨b590, ?_⟩
                  refine ⟨b590, ?_⟩
                  refine ⟨b590, ?_⟩
                  refine ⟨rfl, ?_⟩
                  refine ⟨b590, ?_⟩
                  refine ⟨rfl, ?_⟩
                  refine ⟨rfl, ?_⟩
                  refine ⟨rfl, ?_⟩
                  refine ⟨trivial, ?_⟩
                  refine ⟨rfl, ?_⟩
                  refine ⟨fun b598 => ?_, fun b598 => ?_⟩
                  · rw [if_pos (beq_t b598)] at h
                    refine ⟨b598, ?_⟩
                    refine ⟨trivial, ?_⟩
                    refine ⟨b598, ?_⟩
                    refine ⟨b598, ?_⟩
                    refine ⟨trivial, ?_⟩
                    refine ⟨b598, ?_⟩
                    refine ⟨trivial, ?_⟩
                    refine ⟨b598, ?_⟩
                    obtain ⟨t599, ht599, h⟩ := of_bind h
                    refine ⟨t599, ⟨sigset_Count.fun_ ht599, trivial⟩, ?_⟩
                    refine ⟨b598, ?_⟩
                    refine ⟨trivial, ?_⟩
                    refine ⟨rfl, ?_⟩
                    refine ⟨b598, ?_⟩
                    refine ⟨rfl, ?_⟩
                    refine ⟨fun b600 => ?_, fun b600 => ?_⟩
                    · rw [if_pos (bne_t b600)] at h
                      refine ⟨trivial, ?_⟩
                      obtain rfl := Option.some.inj h
                      exact ⟨⟨trivial, trivial, trivial⟩, rfl, rfl⟩
                    · rw [if_neg (not_not_intro (bne_f b600))] at h
                      refine ⟨trivial, ?_⟩
                      obtain rfl := Option.some.inj h
                      exact ⟨⟨trivial, trivial, trivial⟩, rfl, rfl⟩
                  · rw [if_neg (beq_f b598)] at h
                    refine ⟨b598, ?_⟩
                    refine ⟨b598, ?_⟩
                    refine ⟨b598, ?_⟩
                    refine ⟨b598, ?_⟩
                    refine ⟨b598, ?_⟩
                    refine ⟨b598, ?_⟩
                    refine ⟨rfl, ?_⟩
                    refine ⟨b598, ?_⟩
                    refine ⟨rfl, ?_⟩
                    refine ⟨rfl, ?_⟩
                    refine ⟨trivial, ?_⟩
                    obtain rfl := Option.some.inj h
                    exact ⟨⟨trivial, trivial, trivial⟩, rfl, rfl⟩
            · rw [if_pos b575] at h
              refine ⟨b575, ?_⟩
              refine ⟨b575, ?_⟩
              refine ⟨b575, ?_⟩
              refine ⟨b575, ?_⟩
              refine ⟨b575, ?_⟩
              refine ⟨rfl, ?_⟩
              refine ⟨rfl, ?_⟩
              refine ⟨rfl, ?_⟩
              refine ⟨rfl, ?_⟩
              refine ⟨rfl, ?_⟩
              refine ⟨rfl, ?_⟩
              refine ⟨rfl, ?_⟩
              refine ⟨rfl, ?_⟩
              refine ⟨rfl, ?_⟩
              refine ⟨rfl, ?_⟩
              refine ⟨rfl, ?_⟩
              refine ⟨trivial, ?_⟩
              obtain rfl := Option.some.inj h
              exact ⟨⟨trivial, trivial, trivial⟩, rfl, rfl⟩
          · rw [if_pos (none_f (not_t b573))] at h
            refine ⟨b573, ?_⟩
            refine ⟨b573, ?_⟩
            refine ⟨b573, ?_⟩
            refine ⟨rfl, ?_⟩
            refine ⟨rfl, ?_⟩
            refine ⟨rfl, ?_⟩
            refine ⟨rfl, ?_⟩
            refine ⟨rfl, ?_⟩
            refine ⟨rfl, ?_⟩
            refine ⟨rfl, ?_⟩
            refine ⟨rfl, ?_⟩
            refine ⟨rfl, ?_⟩
            refine ⟨rfl, ?_⟩
            refine ⟨rfl, ?_⟩
            refine ⟨rfl, ?_⟩
            refine ⟨rfl, ?_⟩
            refine ⟨rfl, ?_⟩
            refine ⟨rfl, ?_⟩
            refine ⟨rfl, ?_⟩
            refine ⟨rfl, ?_⟩
            refine ⟨trivial, ?_⟩
            obtain rfl := Option.some.inj h
            exact ⟨⟨trivial, trivial, trivial⟩, rfl, rfl⟩
      · rw [if_neg (not_not_intro (bne_f b569))] at h
        refine ⟨b569, ?_⟩
        refine ⟨b569, ?_⟩
        refine ⟨rfl, ?_⟩
        refine ⟨trivial, ?_⟩
        obtain ⟨t601, ht601, h⟩ := of_bind h
        refine ⟨t601, ⟨sig_Next.fun_ ht601, trivial⟩, ?_⟩
        refine ⟨trivial, ?_⟩
        obtain ⟨t602, ht602, h⟩ := of_bind h
        refine ⟨t602, ⟨sig_Check.fun_ ht602, trivial⟩, ?_⟩
        refine ⟨trivial, ?_⟩
        refine ⟨fun b603 => ?_, fun b603 => ?_⟩
        · rw [if_neg (not_not_intro (none_t (not_f b603)))] at h
          refine ⟨b603, ?_⟩
          refine ⟨trivial, ?_⟩
          refine ⟨b603, ?_⟩
          obtain ⟨t604, ht604, h⟩ := of_bind h
          refine ⟨t604, ⟨sigset_Has.fun_ ht604, trivial⟩, ?_⟩
          refine ⟨b603, ?_⟩
          refine ⟨fun b605 => ?_, fun b605 => ?_⟩
          · rw [if_neg (ff b605)] at h
            refine ⟨b605, ?_⟩
            refine ⟨trivial, ?_⟩
            refine ⟨b605, ?_⟩
            obtain ⟨t606, ht606, h⟩ := of_bind h
            refine ⟨t606, ⟨sigset_Has.fun_ ht606, trivial⟩, ?_⟩
            refine ⟨b605, ?_⟩
            refine ⟨fun b607 => ?_, fun b607 => ?_⟩
            · rw [if_pos b607] at h
              refine ⟨b607, ?_⟩
              refine ⟨trivial, ?_⟩
              refine ⟨b605, ?_⟩
              refine ⟨b607, ?_⟩
              refine ⟨b605, ?_⟩
              refine ⟨fun b608 => ?_, fun b608 => ?_⟩
              · rw [if_neg (not_not_intro (bne_f b608))] at h
                refine ⟨b608, ?_⟩
                refine ⟨trivial, ?_⟩
                refine ⟨b608, ?_⟩
                refine ⟨fun b609 => ?_, fun b609 => ?_⟩
                · rw [if_pos (bne_t b609)] at h
                  refine ⟨b609, ?_⟩
                  refine ⟨trivial, ?_⟩
                  refine ⟨b609, ?_⟩
                  refine ⟨b609, ?_⟩
                  obtain ⟨t610, ht610, h⟩ := of_bind h
                  refine ⟨t610, ⟨sigset_Has.fun_ ht610, trivial⟩, ?_⟩
                  refine ⟨b609, ?_⟩
                  refine ⟨b609, ?_⟩
                  refine ⟨fun b611 => ?_, fun b611 => ?_⟩
                  · rw [if_neg (not_not_intro (not_f b611))] at h
                    refine ⟨b611, ?_⟩
                    refine ⟨trivial, ?_⟩
                    refine ⟨b611, ?_⟩
                    refine ⟨b611, ?_⟩
                    obtain ⟨t612, ht612, h⟩ := of_bind h
                    refine ⟨t612, ⟨sigset_Has.fun_ ht612, trivial⟩, ?_⟩
                    refine ⟨b609, ?_⟩
                    refine ⟨b611, ?_⟩
                    refine ⟨b608, ?_⟩
                    refine ⟨b609, ?_⟩
                    refine ⟨b608, ?_⟩
                    refine ⟨fun b613 => ?_, fun b613 => ?_⟩
                    · rw [if_neg (ff b613)] at h
                      refine ⟨b613, ?_⟩
                      refine ⟨trivial, ?_⟩
                      refine ⟨b613, ?_⟩
                      refine ⟨fun b614 => ?_, fun b614 => ?_⟩
                      · rw [if_pos (beq_t b614)] at h
                        refine ⟨b614, ?_⟩
                        refine ⟨trivial, ?_⟩
                        refine ⟨b614, ?_⟩
                        refine ⟨b614, ?_⟩
                        refine ⟨trivial, ?_⟩
                        refine ⟨b614, ?_⟩
                        refine ⟨trivial, ?_⟩
                        refine ⟨b614, ?_⟩
                        obtain ⟨t615, ht615, h⟩ := of_bind h
                        refine ⟨t615, ⟨sigset_Count.fun_ ht615, trivial⟩, ?_⟩
                        refine ⟨b614, ?_⟩
                        refine ⟨trivial, ?_⟩
                        refine ⟨b613, ?_⟩
                        refine ⟨b614, ?_⟩
                        refine ⟨b613, ?_⟩
                        refine ⟨fun b616 => ?_, fun b616 => ?_⟩
                        · rw [if_pos (bne_t b616)] at h
                          refine ⟨trivial, ?_⟩
                          obtain rfl := Option.some.inj h
                          exact ⟨⟨trivial, trivial, trivial⟩, rfl, rfl⟩
                        · rw [if_neg (not_not_intro (bne_f b616))] at h
                          refine ⟨trivial, ?_⟩
                          obtain rfl := Option.some.inj h
                          exact ⟨⟨trivial, trivial, trivial⟩, rfl, rfl⟩
                      · rw [if_neg (beq_f b614)] at h
                        refine ⟨b614, ?_⟩
                        refine ⟨b614, ?_⟩
                        refine ⟨b614, ?_⟩
                        refine ⟨b614, ?_⟩
                        refine ⟨b614, ?_⟩
                        refine ⟨b614, ?_⟩
                        refine ⟨b613, ?_⟩
                        refine ⟨b614, ?_⟩
                        refine ⟨b613, ?_⟩
                        refine ⟨rfl, ?_⟩
                        refine ⟨trivial, ?_⟩
                        obtain rfl := Option.some.inj h
                        exact ⟨⟨trivial, trivial, trivial⟩, rfl, rfl⟩
                    · rw [if_pos b613] at h
                      refine ⟨b613, ?_⟩
                      refine ⟨b613, ?_⟩
                      refine ⟨b613, ?_⟩
                      refine ⟨b613, ?_⟩
                      refine ⟨rfl, ?_⟩
                      refine ⟨trivial, ?_⟩
                      obtain rfl := Option.some.inj h
                      exact ⟨⟨trivial, trivial, trivial⟩, rfl, rfl⟩
                  · rw [if_pos (ff (not_t b611))] at h
                    refine ⟨b611, ?_⟩
                    refine ⟨b611, ?_⟩
                    refine ⟨b611, ?_⟩
                    refine ⟨b609, ?_⟩
                    refine ⟨b611, ?_⟩
                    refine ⟨b608, ?_⟩
                    refine ⟨b609, ?_⟩
                    refine ⟨b608, ?_⟩
                    refine ⟨rfl, ?_⟩
                    refine ⟨rfl, ?_⟩
                    refine ⟨rfl, ?_⟩
                    refine ⟨rfl, ?_⟩
                    refine ⟨rfl, ?_⟩
                    refine ⟨rfl, ?_⟩
                    refine ⟨trivial, ?_⟩
                    obtain rfl := Option.some.inj h
                    exact ⟨⟨trivial, trivial, trivial⟩, rfl, rfl⟩
                · rw [if_neg (not_not_intro (bne_f b609))] at h
                  refine ⟨b609, ?_⟩
                  refine ⟨b609, ?_⟩
                  refine ⟨b609, ?_⟩
                  refine ⟨b609, ?_⟩
                  refine ⟨b609, ?_⟩
                  refine ⟨b609, ?_⟩
                  refine ⟨b608, ?_⟩
                  refine ⟨b609, ?_⟩
                  refine ⟨b608, ?_⟩
                  refine ⟨rfl, ?_⟩
                  refine ⟨rfl, ?_⟩
                  refine ⟨trivial, ?_⟩
                  refine ⟨rfl, ?_⟩
                  refine ⟨fun b617 => ?_, fun b617 => ?_⟩
                  · rw [if_pos (beq_t b617)] at h
                    refine ⟨b617, ?_⟩
                    refine ⟨trivial, ?_⟩
                    refine ⟨b617, ?_⟩
                    refine ⟨b617, ?_⟩
                    refine ⟨trivial, ?_⟩
                    refine ⟨b617, ?_⟩
                    refine ⟨trivial, ?_⟩
                    refine ⟨b617, ?_⟩
                    obtain ⟨t618, ht618, h⟩ := of_bind h
                    refine ⟨t618, ⟨sigset_Count.fun_ ht618, trivial⟩, ?_⟩
                    refine ⟨b617, ?_⟩
                    refine ⟨trivial, ?_⟩
                    refine ⟨rfl, ?_⟩
                    refine ⟨b617, ?_⟩
                    refine ⟨rfl, ?_⟩
                    refine ⟨fun b619 => ?_, fun b619 => ?_⟩
                    · rw [if_pos (bne_t b619)] at h
                      refine ⟨trivial, ?_⟩
                      obtain rfl := Option.some.inj h
                      exact ⟨⟨trivial, trivial, trivial⟩, rfl, rfl⟩
                    · rw [if_neg (not_not_intro (bne_f b619))] at h
                      refine ⟨trivial, ?_⟩
                      obtain rfl := Option.some.inj h
                      exact ⟨⟨trivial, trivial, trivial⟩, rfl, rfl⟩
                  · rw [if_neg (beq_f b617)] at h
                    refine ⟨b617, ?_⟩
                    refine ⟨b617, ?_⟩
                    refine ⟨b617, ?_⟩
                    refine ⟨b617, ?_⟩
                    refine ⟨b617, ?_⟩
                    refine ⟨b617, ?_⟩
                    refine ⟨rfl, ?_⟩
                    refine ⟨b617, ?_⟩
                    refine ⟨rfl, ?_⟩
                    refine ⟨rfl, ?_⟩
                    refine ⟨trivial, ?_⟩
                    obtain rfl := Option.some.inj h
                    exact ⟨⟨trivial, trivial, trivial⟩, rfl, rfl⟩
              · rw [if_pos (bne_t b608)] at h
                refine ⟨b608, ?_⟩
                refine ⟨b608, ?_⟩
                refine ⟨b608, ?_⟩
                refine ⟨b608, ?_⟩
                refine ⟨rfl, ?_⟩
                refine ⟨rfl, ?_⟩
                refine ⟨rfl, ?_⟩
                refine ⟨rfl, ?_⟩
                refine ⟨rfl, ?_⟩
                refine ⟨rfl, ?_⟩
                refine ⟨trivial, ?_⟩
                obtain rfl := Option.some.inj h
                exact ⟨⟨trivial, trivial, trivial⟩, rfl, rfl⟩
            · rw [if_neg (ff b607)] at h
              refine ⟨b607, ?_⟩
              refine ⟨b605, ?_⟩
              refine ⟨b607, ?_⟩
              refine ⟨b605, ?_⟩
              refine ⟨rfl, ?_⟩
              refine ⟨rfl, ?_⟩
              refine ⟨trivial, ?_⟩
              refine ⟨rfl, ?_⟩
              refine ⟨fun b620 => ?_, fun b620 => ?_⟩
              · rw [if_pos (bne_t b620)] at h
                refine ⟨b620, ?_⟩
                refine ⟨trivial, ?_⟩
                refine ⟨b620, ?_⟩
                refine ⟨b620, ?_⟩
                obtain ⟨t621, ht621, h⟩ := of_bind h
                refine ⟨t621, ⟨sigset_Has.fun_ ht621, trivial⟩, ?_⟩
                refine ⟨b620, ?_⟩
                refine ⟨b620, ?_⟩
                refine ⟨fun b622 => ?_, fun b622 => ?_⟩
                · rw [if_neg (not_not_intro (not_f b622))] at h
                  refine ⟨b622, ?_⟩
                  refine ⟨trivial, ?_⟩
                  refine ⟨b622, ?_⟩
                  refine ⟨b622, ?_⟩
                  obtain ⟨t623, ht623, h⟩ := of_bind h
                  refine ⟨t623, ⟨sigset_Has.fun_ ht623, trivial⟩, ?_⟩
                  refine ⟨b620, ?_⟩
                  refine ⟨b622, ?_⟩
                  refine ⟨rfl, ?_⟩
                  refine ⟨b620, ?_⟩
                  refine ⟨rfl, ?_⟩
                  refine ⟨fun b624 => ?_, fun b624 => ?_⟩
                  · rw [if_neg (ff b624)] at h
                    refine ⟨b624, ?_⟩
                    refine ⟨trivial, ?_⟩
                    refine ⟨b624, ?_⟩
                    refine ⟨fun b625 => ?_, fun b625 => ?_⟩
                    · rw [if_pos (beq_t b625)] at h
                      refine ⟨b625, ?_⟩
                      refine ⟨trivial, ?_⟩
                      refine ⟨b625, ?_⟩
                      refine ⟨b625, ?_⟩
                      refine ⟨trivial, ?_⟩
                      refine ⟨b625, ?_⟩
                      refine ⟨trivial, ?_⟩
                      refine ⟨b625, ?_⟩
                      obtain ⟨t626, ht626, h⟩ := of_bind h
                      refine ⟨t626, ⟨sigset_Count.fun_ ht626, trivial⟩, ?_⟩
                      refine ⟨b625, ?_⟩
                      refine ⟨trivial, ?_⟩
                      refine ⟨b624, ?_⟩
                      refine ⟨b625, ?_⟩
                      refine ⟨b624, ?_⟩
                      refine ⟨fun b627 => ?_, fun b627 => ?_⟩
                      · rw [if_pos (bne_t b627)] at h
                        refine ⟨trivial, ?_⟩
                        obtain rfl := Option.some.inj h
                        exact ⟨⟨trivial, trivial, trivial⟩, rfl, rfl⟩
                      · rw [if_neg (not_not_intro (bne_f b627))] at h
                        refine ⟨trivial, ?_⟩
                        obtain rfl := Option.some.inj h
                        exact ⟨⟨trivial, trivial, trivial⟩, rfl, rfl⟩
                    · rw [if_neg (beq_f b625)] at h
                      refine ⟨b625, ?_⟩
                      refine ⟨b625, ?_⟩
                      refine ⟨b625, ?_⟩
                      refine ⟨b625, ?_⟩
                      refine ⟨b625, ?_⟩
                      refine ⟨b625, ?_⟩
                      refine ⟨b624, ?_⟩
                      refine ⟨b625, ?_⟩
                      refine ⟨b624, ?_⟩
                      refine ⟨rfl, ?_⟩
                      refine ⟨trivial, ?_⟩
                      obtain rfl := Option.some.inj h
                      exact ⟨⟨trivial, trivial, trivial⟩, rfl, rfl⟩
                  · rw [if_pos b624] at h
                    refine ⟨b624, ?_⟩
                    refine ⟨b624, ?_⟩
                    refine ⟨b624, ?_⟩
                    refine ⟨b624, ?_⟩
                    refine ⟨rfl, ?_⟩
                    refine ⟨trivial, ?_⟩
                    obtain rfl := Option.some.inj h
                    exact ⟨⟨trivial, trivial, trivial⟩, rfl, rfl⟩
                · rw [if_pos (ff (not_t b622))] at h
                  refine ⟨b622, ?_⟩
                  refine ⟨b622, ?_⟩
                  refine ⟨b622, ?_⟩
                  refine ⟨b620, ?_⟩
                  refine ⟨b622, ?_⟩
                  refine ⟨rfl, ?_⟩
                  refine ⟨b620, ?_⟩
                  refine ⟨rfl, ?_⟩
                  refine ⟨rfl, ?_⟩
                  refine ⟨rfl, ?_⟩
                  refine ⟨rfl, ?_⟩
                  refine ⟨rfl, ?_⟩
                  refine ⟨rfl, ?_⟩
                  refine ⟨rfl, ?_⟩
                  refine ⟨trivial, ?_⟩
                  obtain rfl := Option.some.inj h
                  exact ⟨⟨trivial, trivial, trivial⟩, rfl, rfl⟩
              · rw [if_neg (not_not_intro (bne_f b620))] at h
                refine ⟨b620, ?_⟩
                refine ⟨b620, ?_⟩
                refine ⟨b620, ?_⟩
                refine ⟨b620, ?_⟩
                refine ⟨b620, ?_⟩
                refine ⟨b620, ?_⟩
                refine ⟨rfl, ?_⟩
                refine ⟨b620, ?_⟩
                refine ⟨rfl, ?_⟩
                refine ⟨rfl, ?_⟩
                refine ⟨rfl, ?_⟩
                refine ⟨trivial, ?_⟩
                refine ⟨rfl, ?_⟩
                refine ⟨fun b628 => ?_, fun b628 => ?_⟩
                · rw [if_pos (beq_t b628)] at h
                  refine ⟨b628, ?_⟩
                  refine ⟨trivial, ?_⟩
                  refine ⟨b628, ?_⟩
                  refine ⟨b628, ?_⟩
                  refine ⟨trivial, ?_⟩
                  refine ⟨b628, ?_⟩
                  refine ⟨trivial, ?_⟩
                  refine ⟨b628, ?_⟩
                  obtain ⟨t629, ht629, h⟩ := of_bind h
                  refine ⟨t629, ⟨sigset_Count.fun_ ht629, trivial⟩, ?_⟩
                  refine ⟨b628, ?_⟩
                  refine ⟨trivial, ?_⟩
                  refine ⟨rfl, ?_⟩
                  refine ⟨b628, ?_⟩
                  refine ⟨rfl, ?_⟩
                  refine ⟨fun b630 => ?_, fun b630 => ?_⟩
                  · rw [if_pos (bne_t b630)] at h
                    refine ⟨trivial, ?_⟩
                    obtain rfl := Option.some.inj h
                    exact ⟨⟨trivial, trivial, trivial⟩, rfl, rfl⟩
                  · rw [if_neg (not_not_intro (bne_f b630))] at h
                    refine ⟨trivial, ?_⟩
                    obtain rfl := Option.some.inj h
                    exact ⟨⟨trivial, trivial, trivial⟩, rfl, rfl⟩
                · rw [if_neg (beq_f b628)] at h
                  refine ⟨b628, ?_⟩
                  refine ⟨b628, ?_⟩
                  refine ⟨b628, ?_⟩
                  refine ⟨b628, ?_⟩
                  refine ⟨b628, ?_⟩
                  refine ⟨b628, ?_⟩
                  refine ⟨rfl, ?_⟩
                  refine ⟨b628, ?_⟩
                  refine ⟨rfl, ?_⟩
                  refine ⟨rfl, ?_⟩
                  refine ⟨trivial, ?_⟩
                  obtain rfl := Option.some.inj h
                  exact ⟨⟨trivial, trivial, trivial⟩, rfl, rfl⟩
          · rw [if_pos b605] at h
            refine ⟨b605, ?_⟩
            refine ⟨b605, ?_⟩
            refine ⟨b605, ?_⟩
            refine ⟨b605, ?_⟩
            refine ⟨b605, ?_⟩
            refine ⟨rfl, ?_⟩
            refine ⟨rfl, ?_⟩
            refine ⟨rfl, ?_⟩
            refine ⟨rfl, ?_⟩
            refine ⟨rfl, ?_⟩
            refine ⟨rfl, ?_⟩
            refine ⟨rfl, ?_⟩
            refine ⟨rfl, ?_⟩
            refine ⟨rfl, ?_⟩
            refine ⟨rfl, ?_⟩
            refine ⟨rfl, ?_⟩
            refine ⟨trivial, ?_⟩
            obtain rfl := Option.some.inj h
            exact ⟨⟨trivial, trivial, trivial⟩, rfl, rfl⟩
        · rw [if_pos (none_f (not_t b603))] at h
          refine ⟨b603, ?_⟩
          refine ⟨b603, ?_⟩
          refine ⟨b603, ?_⟩
          refine ⟨rfl, ?_⟩
          refine ⟨rfl, ?_⟩
          refine ⟨rfl, ?_⟩
          refine ⟨rfl, ?_⟩
          refine ⟨rfl, ?_⟩
          refine ⟨rfl, ?_⟩
          refine ⟨rfl, ?_⟩
          refine ⟨rfl, ?_⟩
          refine ⟨rfl, ?_⟩
          refine ⟨rfl, ?_⟩
          refine ⟨rfl, ?_⟩
          refine ⟨rfl, ?_⟩
          refine ⟨rfl, ?_⟩
          refine ⟨rfl, ?_⟩
          refine ⟨rfl, ?_⟩
          refine ⟨rfl, ?_⟩
          refine ⟨rfl, ?_⟩
          refine ⟨trivial, ?_⟩
          obtain rfl := Option.some.inj h
          exact ⟨⟨trivial, trivial, trivial⟩, rfl, rfl⟩
  · dsimp only at h
    right
    refine ⟨t631, halterlaw25_SigLaws.j2_ok x155 x156 x157 x158 a0 (.inr t631) ht498, ?_⟩
    obtain rfl := Option.some.inj h
    exact ⟨rfl, rfl⟩
def halterlaw25_SigLaws.l0 (a0 : (List (Int × (Int × Int)))) : Nat → Int → Int → (List Int) → Int → Option ((Int × Int × (List Int)) ⊕ (Int × Int × (List Int)))
  | 0, _, _, _, _ => none
  | n + 1, x155, x156, x157, x158 =>
    if x158 < (((List.length a0) : Nat) : Int) then
      if x158 < (40 : Int) then
        (halterlaw25_SigLaws.j1 x155 x156 x157 x158 a0).bind fun t463 =>
        match t463 with
        | .inl t640 =>
          halterlaw25_SigLaws.l0 a0 n t640.1 t640.2.1 t640.2.2 (IntKind.wrap .i64 (x158 + (1 : Int)))
        | .inr t644 =>
          some (.inr (t644.1, t644.2.1, t644.2.2))
      else
        some (.inl (x155, x156, x157))
    else
      some (.inl (x155, x156, x157))
def halterlaw25_SigLaws.l0_S (a0 : (List (Int × (Int × Int)))) (x155 : Int) (x156 : Int) (x157 : List Int) (x158 : Int) : St := ⟨[.v (.one (.fs (.pair (.int .i64) (.pair (.int .i64) (.int .u32))) a0 false)), .any, .any, .v (.one (.ptr 0 ⟨0, 0, 0, 0⟩)), .v (.one (.sc (.int .i64 x158))), .any, .any, .any, .any, .any, .any, .any, .any, .any, .any, .any, .any, .any, .any, .any, .any, .any, .any, .any, .any, .any, .any, .any, .any, .any, .any, .any, .any, .any, .any, .any, .any, .any, .any, .any, .any, .any, .any, .any, .any, .any, .any, .any, .any, .any, .any, .any, .any, .any, .any, .any, .any, .any, .any, .any, .any, .any, .any, .any, .any, .any, .any, .any, .any, .any, .any, .any, .any, .any, .any, .any, .any, .any, .any, .any, .any, .any, .any, .any, .any, .any, .any, .any, .any, .any, .any, .any, .any, .any, .any, .any, .any, .any, .any, .any, .any, .any, .any, .any, .any, .any, .any, .any, .any, .any, .any, .any, .any, .any, .any, .any, .any, .any, .any, .any, .any, .any, .any, .any, .any, .any, .any, .any, .any, .any, .any, .any, .any, .any, .any, .any, .any, .any, .any, .any, .any, .any, .any, .any, .any, .any, .any, .any, .any, .any, .any, .any, .any, .any, .any, .any, .any, .any, .any, .any, .any, .any, .any, .any, .any, .any, .any, .any, .any, .any, .any, .any, .any, .any, .any, .any, .any, .any, .any, .any, .any], [.ex false [.c (.sc (.int .u32 x155)), .c (.sc (.int .u32 x156)), .row 32 (.int .u32) x157] 27], 0⟩
def halterlaw25_SigLaws.l0_Q (a0 : (List (Int × (Int × Int)))) : (Int × Int × (List Int)) ⊕ (Int × Int × (List Int)) → Exit → St → Prop
  | .inl t => fun e s => e = (.exit 0) ∧ s = ⟨[.any, .any, .any, .any, .any, .any, .any, .any, .any, .any, .any, .any, .any, .any, .any, .any, .any, .any, .any, .any, .any, .any, .any, .any, .any, .any, .any, .any, .any, .any, .any, .any, .any, .any, .any, .any, .any, .any, .any, .any, .any, .any, .any, .any, .any, .any, .any, .any, .any, .any, .any, .any, .any, .any, .any, .any, .any, .any, .any, .any, .any, .any, .any, .any, .any, .any, .any, .any, .any, .any, .any, .any, .any, .any, .any, .any, .any, .any, .any, .any, .any, .any, .any, .any, .any, .any, .any, .any, .any, .any, .any, .any, .any, .any, .any, .any, .any, .any, .any, .any, .any, .any, .any, .any, .any, .any, .any, .any, .any, .any, .any, .any, .any, .any, .any, .any, .any, .any, .any, .any, .any, .any, .any, .any, .any, .any, .any, .any, .any, .any, .any, .any, .any, .any, .any, .any, .any, .any, .any, .any, .any, .any, .any, .any, .any, .any, .any, .any, .any, .any, .any, .any, .any, .any, .any, .any, .any, .any, .any, .any, .any, .any, .any, .any, .any, .any, .any, .any, .any, .any, .any, .any, .any, .any, .any, .any, .any, .any, .any, .any, .any], [.ex false [.c (.sc (.int .u32 t.1)), .c (.sc (.int .u32 t.2.1)), .row 32 (.int .u32) t.2.2] 27], 0⟩
  | .inr t => fun e s => e = .ret ∧ s = ⟨[.any, .any, .v (.one (.sc (.bool false))), .any, .any, .any, .any, .any, .any, .any, .any, .any, .any, .any, .any, .any, .any, .any, .any, .any, .any, .any, .any, .any, .any, .any, .any, .any, .any, .any, .any, .any, .any, .any, .any, .any, .any, .any, .any, .any, .any, .any, .any, .any, .any, .any, .any, .any, .any, .any, .any, .any, .any, .any, .any, .any, .any, .any, .any, .any, .any, .any, .any, .any, .any, .any, .any, .any, .any, .any, .any, .any, .any, .any, .any, .any, .any, .any, .any, .any, .any, .any, .any, .any, .any, .any, .any, .any, .any, .any, .any, .any, .any, .any, .any, .any, .any, .any, .any, .any, .any, .any, .any, .any, .any, .any, .any, .any, .any, .any, .any, .any, .any, .any, .any, .any, .any, .any, .any, .any, .any, .any, .any, .any, .any, .any, .any, .any, .any, .any, .any, .any, .any, .any, .any, .any, .any, .any, .any, .any, .any, .any, .any, .any, .any, .any, .any, .any, .any, .any, .any, .any, .any, .any, .any, .any, .any, .any, .any, .any, .any, .any, .any, .any, .any, .any, .any, .any, .any, .any, .any, .any, .any, .any, .any, .any, .any, .any, .any, .any, .any], [.ex false [.c (.sc (.int .u32 t.1)), .c (.sc (.int .u32 t.2.1)), .row 32 (.int .u32) t.2.2] 27], 0⟩
theorem halterlaw25_SigLaws.l0_ok (a0 : (List (Int × (Int × Int)))) : ∀ (n : Nat) (x155 : Int) (x156 : Int) (x157 : List Int) (x158 : Int) (r : (Int × Int × (List Int)) ⊕ (Int × Int × (List Int))), halterlaw25_SigLaws.l0 a0 n x155 x156 x157 x158 = some r → TripN cfg (cpath (Tryd.f4.body.getD .skip) [1, 1, 0, 1, 0, 0]) n (halterlaw25_SigLaws.l0_S a0 x155 x156 x157 x158) (halterlaw25_SigLaws.l0_Q a0 r) := by
  intro n
  induction n with
  | zero => intro x155 x156 x157 x158 r h; cases h
  | succ n ih =>
    intro x155 x156 x157 x158 r h
    rw [halterlaw25_SigLaws.l0] at h
    refine TripN.of_run cfg_ok (k := (.br (.one true (.one true (.br (.adj [] (.adj [.keep [0, 3, 4]] (.altb (.blk (Int × Int × (List Int)) (fun _ => .normal) (fun t640 => ⟨[.v (.one (.fs (.pair (.int .i64) (.pair (.int .i64) (.int .u32))) a0 false)), .any, .any, .v (.one (.ptr 0 ⟨0, 0, 0, 0⟩)), .v (.one (.sc (.int .i64 x158))), .any, .any, .any, .any, .any, .any, .any, .any, .any, .any, .any, .any, .any, .any, .any, .any, .any, .any, .any, .any, .any, .any, .any, .any, .any, .any, .any, .any, .any, .any, .any, .any, .any, .any, .any, .any, .any, .any, .any, .any, .any, .any, .any, .any, .any, .any, .any, .any, .any, .any, .any, .any, .any, .any, .any, .any, .any, .any, .any, .any, .any, .any, .any, .any, .any, .any, .any, .any, .any, .any, .any, .any, .any, .any, .any, .any, .any, .any, .any, .any, .any, .any, .any, .any, .any, .any, .any, .any, .any, .any, .any, .any, .any, .any, .any, .any, .any, .any, .any, .any, .any, .any, .any, .any, .any, .any, .any, .any, .any, .any, .any, .any, .any, .any, .any, .any, .any, .any, .any, .any, .any, .any, .any, .any, .any, .any, .any, .any, .any, .any, .any, .any, .any, .any, .any, .any, .any, .any, .any, .any, .any, .any, .any, .any, .any, .any, .any, .any, .any, .any, .any, .any, .any, .any, .any, .any, .any, .any, .any, .any, .any, .any, .any, .any, .any, .any, .any, .any, .any, .any, .any, .any, .any, .any, .any, .any], [.ex false [.c (.sc (.int .u32 t640.1)), .c (.sc (.int .u32 t640.2.1)), .row 32 (.int .u32) t640.2.2] 27], 0⟩) (fun t640 => (.adj [] (.adj [.keep [0, 3, 4], .drop 1] .nil)))) (.blk (Int × Int × (List Int)) (fun _ => .ret) (fun t644 => ⟨[.any, .any, .v (.one (.sc (.bool false))), .any, .any, .any, .any, .any, .any, .any, .any, .any, .any, .any, .any, .any, .any, .any, .any, .any, .any, .any, .any, .any, .any, .any, .any, .any, .any, .any, .any, .any, .any, .any, .any, .any, .any, .any, .any, .any, .any, .any, .any, .any, .any, .any, .any, .any, .any, .any, .any, .any, .any, .any, .any, .any, .any, .any, .any, .any, .any, .any, .any, .any, .any, .any, .any, .any, .any, .any, .any, .any, .any, .any, .any, .any, .any, .any, .any, .any, .any, .any, .any, .any, .any, .any, .any, .any, .any, .any, .any, .any, .any, .any, .any, .any, .any, .any, .any, .any, .any, .any, .any, .any, .any, .any, .any, .any, .any, .any, .any, .any, .any, .any, .any, .any, .any, .any, .any, .any, .any, .any, .any, .any, .any, .any, .any, .any, .any, .any, .any, .any, .any, .any, .any, .any, .any, .any, .any, .any, .any, .any, .any, .any, .any, .any, .any, .any, .any, .any, .any, .any, .any, .any, .any, .any, .any, .any, .any, .any, .any, .any, .any, .any, .any, .any, .any, .any, .any, .any, .any, .any, .any, .any, .any, .any, .any, .any, .any, .any, .any], [.ex false [.c (.sc (.int .u32 t644.1)), .c (.sc (.int .u32 t644.2.1)), .row 32 (.int .u32) t644.2.2] 27], 0⟩) (fun t644 => .nil))))) (.adj [.keep [], .drop 1] .nil)))) (.one false (.one false (.one false (.adj [.keep [], .drop 1] .nil)))))) (to_goal (q := (True) ∧ (True) ∧ (((decide (x158 < (((List.length a0) : Nat) : Int))) = true → ((decide (x158 < (((List.length a0) : Nat) : Int))) = true ∧ (True) ∧ ((decide (x158 < (((List.length a0) : Nat) : Int))) = true ∧ (((decide (x158 < (40 : Int))) = true → (True ∧ (((True) ∧ True) ∧ ((∃ t640 : Int × Int × (List Int), Trip cfg (cpath (Tryd.f4.body.getD .skip) [1, 1, 0, 1, 0, 0, 1, 0]) ⟨[.v (.one (.fs (.pair (.int .i64) (.pair (.int .i64) (.int .u32))) a0 false)), .any, .any, .v (.one (.ptr 0 ⟨0, 0, 0, 0⟩)), .v (.one (.sc (.int .i64 x158))), .any, .any, .any, .any, .any, .any, .any, .any, .any, .any, .any, .any, .any, .any, .any, .any, .any, .any, .any, .any, .any, .any, .any, .any, .any, .any, .any, .any, .any, .any, .any, .any, .any, .any, .any, .any, .any, .any, .any, .any, .any, .any, .any, .any, .any, .any, .any, .any, .any, .any, .any, .any, .any, .any, .any, .any, .any, .any, .any, .any, .any, .any, .any, .any, .any, .any, .any, .any, .any, .any, .any, .any, .any, .any, .any, .any, .any, .any, .any, .any, .any, .any, .any, .any, .any, .any, .any, .any, .any, .any, .any, .any, .any, .any, .any, .any, .any, .any, .any, .any, .any, .any, .any, .any, .any, .any, .any, .any, .any, .any, .any, .any, .any, .any, .any, .any, .any, .any, .any, .any, .any, .any, .any, .any, .any, .any, .any, .any, .any, .any, .any, .any, .any, .any, .any, .any, .any, .any, .any, .any, .any, .any, .any, .any, .any, .any, .any, .any, .any, .any, .any, .any, .any, .any, .any, .any, .any, .any, .any, .any, .any, .any, .any, .any, .any, .any, .any, .any, .any, .any, .any, .any, .any, .any, .any, .any], [.ex false [.c (.sc (.int .u32 x155)), .c (.sc (.int .u32 x156)), .row 32 (.int .u32) x157] 27], 0⟩ (fun e s => e = .normal ∧ s = ⟨[.v (.one (.fs (.pair (.int .i64) (.pair (.int .i64) (.int .u32))) a0 false)), .any, .any, .v (.one (.ptr 0 ⟨0, 0, 0, 0⟩)), .v (.one (.sc (.int .i64 x158))), .any, .any, .any, .any, .any, .any, .any, .any, .any, .any, .any, .any, .any, .any, .any, .any, .any, .any, .any, .any, .any, .any, .any, .any, .any, .any, .any, .any, .any, .any, .any, .any, .any, .any, .any, .any, .any, .any, .any, .any, .any, .any, .any, .any, .any, .any, .any, .any, .any, .any, .any, .any, .any, .any, .any, .any, .any, .any, .any, .any, .any, .any, .any, .any, .any, .any, .any, .any, .any, .any, .any, .any, .any, .any, .any, .any, .any, .any, .any, .any, .any, .any, .any, .any, .any, .any, .any, .any, .any, .any, .any, .any, .any, .any, .any, .any, .any, .any, .any, .any, .any, .any, .any, .any, .any, .any, .any, .any, .any, .any, .any, .any, .any, .any, .any, .any, .any, .any, .any, .any, .any, .any, .any, .any, .any, .any, .any, .any, .any, .any, .any, .any, .any, .any, .any, .any, .any, .any, .any, .any, .any, .any, .any, .any, .any, .any, .any, .any, .any, .any, .any, .any, .any, .any, .any, .any, .any, .any, .any, .any, .any, .any, .any, .any, .any, .any, .any, .any, .any, .any, .any, .any, .any, .any, .any, .any], [.ex false [.c (.sc (.int .u32 t640.1)), .c (.sc (.int .u32 t640.2.1)), .row 32 (.int .u32) t640.2.2] 27], 0⟩) ∧ (True ∧ (True) ∧ (((True) ∧ (True) ∧ True) ∧ TripN cfg (cpath (Tryd.f4.body.getD .skip) [1, 1, 0, 1, 0, 0]) n (halterlaw25_SigLaws.l0_S a0 t640.1 t640.2.1 t640.2.2 (IntKind.wrap .i64 (x158 + (1 : Int)))) (halterlaw25_SigLaws.l0_Q a0 r)))) ∨ (∃ t644 : Int × Int × (List Int), Trip cfg (cpath (Tryd.f4.body.getD .skip) [1, 1, 0, 1, 0, 0, 1, 0]) ⟨[.v (.one (.fs (.pair (.int .i64) (.pair (.int .i64) (.int .u32))) a0 false)), .any, .any, .v (.one (.ptr 0 ⟨0, 0, 0, 0⟩)), .v (.one (.sc (.int .i64 x158))), .any, .any, .any, .any, .any, .any, .any, .any, .any, .any, .any, .any, .any, .any, .any, .any, .any, .any, .any, .any, .any, .any, .any, .any, .any, .any, .any, .any, .any, .any, .any, .any, .any, .any, .any, .any, .any, .any, .any, .any, .any, .any, .any, .any, .any, .any, .any, .any, .any, .any, .any, .any, .any, .any, .any, .any, .any, .any, .any, .any, .any, .any, .any, .any, .any, .any, .any, .any, .any, .any, .any, .any, .any, .any, .any, .any, .any, .any, .any, .any, .any, .any, .any, .any, .any, .any, .any, .any, .any, .any, .any, .any, .any, .any, .any, .any, .any, .any, .any, .any, .any, .any, .any, .any, .any, .any, .any, .any, .any, .any, .any, .any, .any, .any, .any, .any, .any, .any, .any, .any, .any, .any, .any, .any, .any, .any, .any, .any, .any, .any, .any, .any, .any, .any, .any, .any, .any, .any, .any, .any, .any, .any, .any, .any, .any, .any, .any, .any, .any, .any, .any, .any, .any, .any, .any, .any, .any, .any, .any, .any, .any, .any, .any, .any, .any, .any, .any, .any, .any, .any, .any, .any, .any, .any, .any, .any], [.ex false [.c (.sc (.int .u32 x155)), .c (.sc (.int .u32 x156)), .row 32 (.int .u32) x157] 27], 0⟩ (fun e s => e = .ret ∧ s = ⟨[.any, .any, .v (.one (.sc (.bool false))), .any, .any, .any, .any, .any, .any, .any, .any, .any, .any, .any, .any, .any, .any, .any, .any, .any, .any, .any, .any, .any, .any, .any, .any, .any, .any, .any, .any, .any, .any, .any, .any, .any, .any, .any, .any, .any, .any, .any, .any, .any, .any, .any, .any, .any, .any, .any, .any, .any, .any, .any, .any, .any, .any, .any, .any, .any, .any, .any, .any, .any, .any, .any, .any, .any, .any, .any, .any, .any, .any, .any, .any, .any, .any, .any, .any, .any, .any, .any, .any, .any, .any, .any, .any, .any, .any, .any, .any, .any, .any, .any, .any, .any, .any, .any, .any, .any, .any, .any, .any, .any, .any, .any, .any, .any, .any, .any, .any, .any, .any, .any, .any, .any, .any, .any, .any, .any, .any, .any, .any, .any, .any, .any, .any, .any, .any, .any, .any, .any, .any, .any, .any, .any, .any, .any, .any, .any, .any, .any, .any, .any, .any, .any, .any, .any, .any, .any, .any, .any, .any, .any, .any, .any, .any, .any, .any, .any, .any, .any, .any, .any, .any, .any, .any, .any, .any, .any, .any, .any, .any, .any, .any, .any, .any, .any, .any, .any, .any], [.ex false [.c (.sc (.int .u32 t644.1)), .c (.sc (.int .u32 t644.2.1)), .row 32 (.int .u32) t644.2.2] 27], 0⟩) ∧ (halterlaw25_SigLaws.l0_Q a0 r .ret ⟨[.any, .any, .v (.one (.sc (.bool false))), .any, .any, .any, .any, .any, .any, .any, .any, .any, .any, .any, .any, .any, .any, .any, .any, .any, .any, .any, .any, .any, .any, .any, .any, .any, .any, .any, .any, .any, .any, .any, .any, .any, .any, .any, .any, .any, .any, .any, .any, .any, .any, .any, .any, .any, .any, .any, .any, .any, .any, .any, .any, .any, .any, .any, .any, .any, .any, .any, .any, .any, .any, .any, .any, .any, .any, .any, .any, .any, .any, .any, .any, .any, .any, .any, .any, .any, .any, .any, .any, .any, .any, .any, .any, .any, .any, .any, .any, .any, .any, .any, .any, .any, .any, .any, .any, .any, .any, .any, .any, .any, .any, .any, .any, .any, .any, .any, .any, .any, .any, .any, .any, .any, .any, .any, .any, .any, .any, .any, .any, .any, .any, .any, .any, .any, .any, .any, .any, .any, .any, .any, .any, .any, .any, .any, .any, .any, .any, .any, .any, .any, .any, .any, .any, .any, .any, .any, .any, .any, .any, .any, .any, .any, .any, .any, .any, .any, .any, .any, .any, .any, .any, .any, .any, .any, .any, .any, .any, .any, .any, .any, .any, .any, .any, .any, .any, .any, .any], [.ex false [.c (.sc (.int .u32 t644.1)), .c (.sc (.int .u32 t644.2.1)), .row 32 (.int .u32) t644.2.2] 27], 0⟩)))))) ∧ ((decide (x158 < (40 : Int))) = false → (((True) ∧ (True) ∧ True) ∧ halterlaw25_SigLaws.l0_Q a0 r (.exit 0) ⟨[.any, .any, .any, .any, .any, .any, .any, .any, .any, .any, .any, .any, .any, .any, .any, .any, .any, .any, .any, .any, .any, .any, .any, .any, .any, .any, .any, .any, .any, .any, .any, .any, .any, .any, .any, .any, .any, .any, .any, .any, .any, .any, .any, .any, .any, .any, .any, .any, .any, .any, .any, .any, .any, .any, .any, .any, .any, .any, .any, .any, .any, .any, .any, .any, .any, .any, .any, .any, .any, .any, .any, .any, .any, .any, .any, .any, .any, .any, .any, .any, .any, .any, .any, .any, .any, .any, .any, .any, .any, .any, .any, .any, .any, .any, .any, .any, .any, .any, .any, .any, .any, .any, .any, .any, .any, .any, .any, .any, .any, .any, .any, .any, .any, .any, .any, .any, .any, .any, .any, .any, .any, .any, .any, .any, .any, .any, .any, .any, .any, .any, .any, .any, .any, .any, .any, .any, .any, .any, .any, .any, .any, .any, .any, .any, .any, .any, .any, .any, .any, .any, .any, .any, .any, .any, .any, .any, .any, .any, .any, .any, .any, .any, .any, .any, .any, .any, .any, .any, .any, .any, .any, .any, .any, .any, .any, .any, .any, .any, .any, .any, .any], [.ex false [.c (.sc (.int .u32 x155)), .c (.sc (.int .u32 x156)), .row 32 (.int .u32) x157] 27], 0⟩)))))) ∧ ((decide (x158 < (((List.length a0) : Nat) : Int))) = false → ((decide (x158 < (((List.length a0) : Nat) : Int))) = false ∧ ((decide (x158 < (((List.length a0) : Nat) : Int))) = false ∧ (false = false ∧ (((True) ∧ (True) ∧ True) ∧ halterlaw25_SigLaws.l0_Q a0 r (.exit 0) ⟨[.any, .any, .any, .any, .any, .any, .any, .any, .any, .any, .any, .any, .any, .any, .any, .any, .any, .any, .any, .any, .any, .any, .any, .any, .any, .any, .any, .any, .any, .any, .any, .any, .any, .any, .any, .any, .any, .any, .any, .any, .any, .any, .any, .any, .any, .any, .any, .any, .any, .any, .any, .any, .any, .any, .any, .any, .any, .any, .any, .any, .any, .any, .any, .any, .any, .any, .any, .any, .any, .any, .any, .any, .any, .any, .any, .any, .any, .any, .any, .any, .any, .any, .any, .any, .any, .any, .any, .any, .any, .any, .any, .any, .any, .any, .any, .any, .any, .any, .any, .any, .any, .any, .any, .any, .any, .any, .any, .any, .any, .any, .any, .any, .any, .any, .any, .any, .any, .any, .any, .any, .any, .any, .any, .any, .any, .any, .any, .any, .any, .any, .any, .any, .any, .any, .any, .any, .any, .any, .any, .any, .any, .any, .any, .any, .any, .any, .any, .any, .any, .any, .any, .any, .any, .any, .any, .any, .any, .any, .any, .any, .any, .any, .any, .any, .any, .any, .any, .any, .any, .any, .any, .any, .any, .any, .any, .any, .any, .any, .any, .any, .any], [.ex false [.c (.sc (.int .u32 x155)), .c (.sc (.int .u32 x156)), .row 32 (.int .u32) x157] 27], 0⟩))))))) (by kernel_rfl) ?_)
    refine ⟨trivial, ?_⟩
    refine ⟨trivial, ?_⟩
    refine ⟨fun b319 => ?_, fun b319 => ?_⟩
    · rw [if_pos (of_decide_eq_true b319)] at h
      refine ⟨b319, ?_⟩
      refine ⟨trivial, ?_⟩
      refine ⟨b319, ?_⟩
      refine ⟨fun b320 => ?_, fun b320 => ?_⟩
      · rw [if_pos (of_decide_eq_true b320)] at h
        refine ⟨trivial, ?_⟩
        obtain ⟨t463, ht463, h⟩ := of_bind h
        refine ⟨⟨trivial, trivial⟩, ?_⟩
        rcases t463 with t640 | t644
        · dsimp only at h
          left
          refine ⟨t640, halterlaw25_SigLaws.j1_ok x155 x156 x157 x158 a0 (.inl t640) ht463, ?_⟩
          refine ⟨trivial, ?_⟩
          refine ⟨trivial, ?_⟩
          exact ⟨⟨trivial, trivial, trivial⟩, ih t640.1 t640.2.1 t640.2.2 (IntKind.wrap .i64 (x158 + (1 : Int))) r h⟩
        · dsimp only at h
          right
          refine ⟨t644, halterlaw25_SigLaws.j1_ok x155 x156 x157 x158 a0 (.inr t644) ht463, ?_⟩
          obtain rfl := Option.some.inj h
          exact ⟨rfl, rfl⟩
      · rw [if_neg (of_decide_eq_false b320)] at h
        obtain rfl := Option.some.inj h
        exact ⟨⟨trivial, trivial, trivial⟩, rfl, rfl⟩
    · rw [if_neg (of_decide_eq_false b319)] at h
      refine ⟨b319, ?_⟩
      refine ⟨b319, ?_⟩
      refine ⟨rfl, ?_⟩
      obtain rfl := Option.some.inj h
      exact ⟨⟨trivial, trivial, trivial⟩, rfl, rfl⟩
def halterlaw25_SigLaws.f (a0 : (List (Int × (Int × Int)))) : Option Bool :=
  (halterlaw25_SigLaws.l0 a0 FUEL (0 : Int) (0 : Int) (List.replicate 32 (0 : Int)) (0 : Int)).bind fun t318 =>
  match t318 with
  | .inl t654 =>
    halterlaw25_sure.f.bind fun t658 =>
    some t658
  | .inr t659 =>
    some false
def halterlaw25_SigLaws.R (r : Bool) : Tm := .v (.one (.sc (.bool r)))
theorem halterlaw25_SigLaws.fun_ {a0 : (List (Int × (Int × Int)))} {r : Bool} (h : halterlaw25_SigLaws.f a0 = some r) : Fun cfg 4 [.one (.fs (.pair (.int .i64) (.pair (.int .i64) (.int .u32))) a0 false)] [] (halterlaw25_SigLaws.R r) [] := by
  unfold halterlaw25_SigLaws.f at h
  refine fun_of_run cfg_ok (f := 4) (fn := Tryd.f4) Tryd.func4 rfl (by kernel_rfl) (rs := [.tmp 2]) rfl (nt := 181) rfl (l := fin) (k := (.adj [] (.adj [] (.adj [] (.adj [] (.adj [.keep [0, 3, 4]] (.alt (.sub (Int × Int × (List Int)) (fun _ => (.exit 0)) (fun t654 => ⟨[.any, .any, .any, .any, .any, .any, .any, .any, .any, .any, .any, .any, .any, .any, .any, .any, .any, .any, .any, .any, .any, .any, .any, .any, .any, .any, .any, .any, .any, .any, .any, .any, .any, .any, .any, .any, .any, .any, .any, .any, .any, .any, .any, .any, .any, .any, .any, .any, .any, .any, .any, .any, .any, .any, .any, .any, .any, .any, .any, .any, .any, .any, .any, .any, .any, .any, .any, .any, .any, .any, .any, .any, .any, .any, .any, .any, .any, .any, .any, .any, .any, .any, .any, .any, .any, .any, .any, .any, .any, .any, .any, .any, .any, .any, .any, .any, .any, .any, .any, .any, .any, .any, .any, .any, .any, .any, .any, .any, .any, .any, .any, .any, .any, .any, .any, .any, .any, .any, .any, .any, .any, .any, .any, .any, .any, .any, .any, .any, .any, .any, .any, .any, .any, .any, .any, .any, .any, .any, .any, .any, .any, .any, .any, .any, .any, .any, .any, .any, .any, .any, .any, .any, .any, .any, .any, .any, .any, .any, .any, .any, .any, .any, .any, .any, .any, .any, .any, .any, .any, .any, .any, .any, .any, .any, .any, .any, .any, .any, .any, .any, .any], [.ex false [.c (.sc (.int .u32 t654.1)), .c (.sc (.int .u32 t654.2.1)), .row 32 (.int .u32) t654.2.2] 27], 0⟩) (fun t654 => (.call true [] (Bool) (fun t658 => halterlaw25_sure.R t658) (fun t658 => (.adj [] (.adj [.drop 0] .nil)))))) (.sub (Int × Int × (List Int)) (fun _ => .ret) (fun t659 => ⟨[.any, .any, .v (.one (.sc (.bool false))), .any, .any, .any, .any, .any, .any, .any, .any, .any, .any, .any, .any, .any, .any, .any, .any, .any, .any, .any, .any, .any, .any, .any, .any, .any, .any, .any, .any, .any, .any, .any, .any, .any, .any, .any, .any, .any, .any, .any, .any, .any, .any, .any, .any, .any, .any, .any, .any, .any, .any, .any, .any, .any, .any, .any, .any, .any, .any, .any, .any, .any, .any, .any, .any, .any, .any, .any, .any, .any, .any, .any, .any, .any, .any, .any, .any, .any, .any, .any, .any, .any, .any, .any, .any, .any, .any, .any, .any, .any, .any, .any, .any, .any, .any, .any, .any, .any, .any, .any, .any, .any, .any, .any, .any, .any, .any, .any, .any, .any, .any, .any, .any, .any, .any, .any, .any, .any, .any, .any, .any, .any, .any, .any, .any, .any, .any, .any, .any, .any, .any, .any, .any, .any, .any, .any, .any, .any, .any, .any, .any, .any, .any, .any, .any, .any, .any, .any, .any, .any, .any, .any, .any, .any, .any, .any, .any, .any, .any, .any, .any, .any, .any, .any, .any, .any, .any, .any, .any, .any, .any, .any, .any, .any, .any, .any, .any, .any, .any], [.ex false [.c (.sc (.int .u32 t659.1)), .c (.sc (.int .u32 t659.2.1)), .row 32 (.int .u32) t659.2.2] 27], 0⟩) (fun t659 => (.adj [.drop 0] .nil)))))))))) (to_goal (q := (True ∧ (True ∧ (True) ∧ (True ∧ (True ∧ (((True) ∧ True) ∧ ((∃ t654 : Int × Int × (List Int), Trip cfg (.loop (cpath (Tryd.f4.body.getD .skip) [1, 1, 0, 1, 0, 0])) ⟨[.v (.one (.fs (.pair (.int .i64) (.pair (.int .i64) (.int .u32))) a0 false)), .any, .any, .v (.one (.ptr 0 ⟨0, 0, 0, 0⟩)), .v (.one (.sc (.int .i64 (0 : Int)))), .any, .any, .any, .any, .any, .any, .any, .any, .any, .any, .any, .any, .any, .any, .any, .any, .any, .any, .any, .any, .any, .any, .any, .any, .any, .any, .any, .any, .any, .any, .any, .any, .any, .any, .any, .any, .any, .any, .any, .any, .any, .any, .any, .any, .any, .any, .any, .any, .any, .any, .any, .any, .any, .any, .any, .any, .any, .any, .any, .any, .any, .any, .any, .any, .any, .any, .any, .any, .any, .any, .any, .any, .any, .any, .any, .any, .any, .any, .any, .any, .any, .any, .any, .any, .any, .any, .any, .any, .any, .any, .any, .any, .any, .any, .any, .any, .any, .any, .any, .any, .any, .any, .any, .any, .any, .any, .any, .any, .any, .any, .any, .any, .any, .any, .any, .any, .any, .any, .any, .any, .any, .any, .any, .any, .any, .any, .any, .any, .any, .any, .any, .any, .any, .any, .any, .any, .any, .any, .any, .any, .any, .any, .any, .any, .any, .any, .any, .any, .any, .any, .any, .any, .any, .any, .any, .any, .any, .any, .any, .any, .any, .any, .any, .any, .any, .any, .any, .any, .any, .any, .any, .any, .any, .any, .any, .any], [.ex false [.c (.sc (.int .u32 (0 : Int))), .c (.sc (.int .u32 (0 : Int))), .row 32 (.int .u32) (List.replicate 32 (0 : Int))] 27], 0⟩ (fun e s => e = (.exit 0) ∧ s = ⟨[.any, .any, .any, .any, .any, .any, .any, .any, .any, .any, .any, .any, .any, .any, .any, .any, .any, .any, .any, .any, .any, .any, .any, .any, .any, .any, .any, .any, .any, .any, .any, .any, .any, .any, .any, .any, .any, .any, .any, .any, .any, .any, .any, .any, .any, .any, .any, .any, .any, .any, .any, .any, .any, .any, .any, .any, .any, .any, .any, .any, .any, .any, .any, .any, .any, .any, .any, .any, .any, .any, .any, .any, .any, .any, .any, .any, .any, .any, .any, .any, .any, .any, .any, .any, .any, .any, .any, .any, .any, .any, .any, .any, .any, .any, .any, .any, .any, .any, .any, .any, .any, .any, .any, .any, .any, .any, .any, .any, .any, .any, .any, .any, .any, .any, .any, .any, .any, .any, .any, .any, .any, .any, .any, .any, .any, .any, .any, .any, .any, .any, .any, .any, .any, .any, .any, .any, .any, .any, .any, .any, .any, .any, .any, .any, .any, .any, .any, .any, .any, .any, .any, .any, .any, .any, .any, .any, .any, .any, .any, .any, .any, .any, .any, .any, .any, .any, .any, .any, .any, .any, .any, .any, .any, .any, .any, .any, .any, .any, .any, .any, .any], [.ex false [.c (.sc (.int .u32 t654.1)), .c (.sc (.int .u32 t654.2.1)), .row 32 (.int .u32) t654.2.2] 27], 0⟩) ∧ (∃ t658 : Bool, (Fun cfg 7 [] [] (halterlaw25_sure.R t658) [] ∧ True) ∧ (True ∧ ((True) ∧ ((True) ∧ True) ∧ (.v (.one (.sc (.bool t658))) : Tm) = halterlaw25_SigLaws.R r ∧ ([] : List Box) = [])))) ∨ (∃ t659 : Int × Int × (List Int), Trip cfg (.loop (cpath (Tryd.f4.body.getD .skip) [1, 1, 0, 1, 0, 0])) ⟨[.v (.one (.fs (.pair (.int .i64) (.pair (.int .i64) (.int .u32))) a0 false)), .any, .any, .v (.one (.ptr 0 ⟨0, 0, 0, 0⟩)), .v (.one (.sc (.int .i64 (0 : Int)))), .any, .any, .any, .any, .any, .any, .any, .any, .any, .any, .any, .any, .any, .any, .any, .any, .any, .any, .any, .any, .any, .any, .any, .any, .any, .any, .any, .any, .any, .any, .any, .any, .any, .any, .any, .any, .any, .any, .any, .any, .any, .any, .any, .any, .any, .any, .any, .any, .any, .any, .any, .any, .any, .any, .any, .any, .any, .any, .any, .any, .any, .any, .any, .any, .any, .any, .any, .any, .any, .any, .any, .any, .any, .any, .any, .any, .any, .any, .any, .any, .any, .any, .any, .any, .any, .any, .any, .any, .any, .any, .any, .any, .any, .any, .any, .any, .any, .any, .any, .any, .any, .any, .any, .any, .any, .any, .any, .any, .any, .any, .any, .any, .any, .any, .any, .any, .any, .any, .any, .any, .any, .any, .any, .any, .any, .any, .any, .any, .any, .any, .any, .any, .any, .any, .any, .any, .any, .any, .any, .any, .any, .any, .any, .any, .any, .any, .any, .any, .any, .any, .any, .any, .any, .any, .any, .any, .any, .any, .any, .any, .any, .any, .any, .any, .any, .any, .any, .any, .any, .any, .any, .any, .any, .any, .any, .any], [.ex false [.c (.sc (.int .u32 (0 : Int))), .c (.sc (.int .u32 (0 : Int))), .row 32 (.int .u32) (List.replicate 32 (0 : Int))] 27], 0⟩ (fun e s => e = .ret ∧ s = ⟨[.any, .any, .v (.one (.sc (.bool false))), .any, .any, .any, .any, .any, .any, .any, .any, .any, .any, .any, .any, .any, .any, .any, .any, .any, .any, .any, .any, .any, .any, .any, .any, .any, .any, .any, .any, .any, .any, .any, .any, .any, .any, .any, .any, .any, .any, .any, .any, .any, .any, .any, .any, .any, .any, .any, .any, .any, .any, .any, .any, .any, .any, .any, .any, .any, .any, .any, .any, .any, .any, .any, .any, .any, .any, .any, .any, .any, .any, .any, .any, .any, .any, .any, .any, .any, .any, .any, .any, .any, .any, .any, .any, .any, .any, .any, .any, .any, .any, .any, .any, .any, .any, .any, .any, .any, .any, .any, .any, .any, .any, .any, .any, .any, .any, .any, .any, .any, .any, .any, .any, .any, .any, .any, .any, .any, .any, .any, .any, .any, .any, .any, .any, .any, .any, .any, .any, .any, .any, .any, .any, .any, .any, .any, .any, .any, .any, .any, .any, .any, .any, .any, .any, .any, .any, .any, .any, .any, .any, .any, .any, .any, .any, .any, .any, .any, .any, .any, .any, .any, .any, .any, .any, .any, .any, .any, .any, .any, .any, .any, .any, .any, .any, .any, .any, .any, .any], [.ex false [.c (.sc (.int .u32 t659.1)), .c (.sc (.int .u32 t659.2.1)), .row 32 (.int .u32) t659.2.2] 27], 0⟩) ∧ ((True) ∧ ((True) ∧ True) ∧ (.v (.one (.sc (.bool false))) : Tm) = halterlaw25_SigLaws.R r ∧ ([] : List Box) = []))))))))) (by kernel_rfl) ?_)
  refine ⟨trivial, ?_⟩
  refine ⟨trivial, ?_⟩
  refine ⟨trivial, ?_⟩
  refine ⟨trivial, ?_⟩
  refine ⟨trivial, ?_⟩
  obtain ⟨t318, ht318, h⟩ := of_bind h
  refine ⟨⟨trivial, trivial⟩, ?_⟩
  rcases t318 with t654 | t659
  · dsimp only at h
    left
    refine ⟨t654, Trip.loop FUEL (halterlaw25_SigLaws.l0_ok a0 FUEL (0 : Int) (0 : Int) (List.replicate 32 (0 : Int)) (0 : Int) (.inl t654) ht318), ?_⟩
    obtain ⟨t658, ht658, h⟩ := of_bind h
    refine ⟨t658, ⟨halterlaw25_sure.fun_ ht658, trivial⟩, ?_⟩
    refine ⟨trivial, ?_⟩
    obtain rfl := Option.some.inj h
    exact ⟨trivial, ⟨trivial, trivial⟩, rfl, rfl⟩
  · dsimp only at h
    right
    refine ⟨t659, Trip.loop FUEL (halterlaw25_SigLaws.l0_ok a0 FUEL (0 : Int) (0 : Int) (List.replicate 32 (0 : Int)) (0 : Int) (.inr t659) ht318), ?_⟩
    obtain rfl := Option.some.inj h
    exact ⟨trivial, ⟨trivial, trivial⟩, rfl, rfl⟩
end Go.Proofs.YtmpdijmcoboiiaaDoorGSigLaws
