/- Printed by gen.py: the next part. -/
import Derived.Test.YtbnlochgbhcfnaaDoorGProcLettersp0
set_option linter.unusedVariables false
set_option maxRecDepth 100000
set_option maxHeartbeats 4000000
namespace Go.Proofs.YtbnlochgbhcfnaaDoorGProcLetters
open Go Go.Proofs.YtbnlochgbhcfnaaDoorE
theorem proc_Check.fun_ {a0 : Int} {a1 : Int} {a2 : ByteArray} {a3 : (List Int)} {a4 : Int} {a5 : Int} {a6 : (List Int)} {a7 : (List Int)} {a8 : Int} {a9 : Int} {a10 : (List Int)} {a11 : Int} {a12 : Bool} {a13 : Int} {a14 : Int} {a15 : Int} {a16 : Bool} {a17 : Bool} {a18 : Bool} {a19 : Int} {a20 : Int} {r : (Option Int)} (h : proc_Check.f a0 a1 a2 a3 a4 a5 a6 a7 a8 a9 a10 a11 a12 a13 a14 a15 a16 a17 a18 a19 a20 = some r) : Fun cfg 9 [.agg [.c (.sc (.int .i64 a0)), .c (.sc (.int .i64 a1)), .c (.sc (.string a2)), .row 16 (.int .u32) a3, .c (.sc (.int .u32 a4)), .c (.sc (.int .u32 a5)), .row 4 (.int .u64) a6, .row 8 (.int .i64) a7, .c (.sc (.int .u32 a8)), .c (.sc (.int .u32 a9)), .row 32 (.int .u32) a10, .c (.sc (.int .i64 a11)), .c (.sc (.bool a12)), .c (.sc (.int .u32 a13)), .c (.sc (.int .i64 a14)), .c (.sc (.int .i64 a15)), .c (.sc (.bool a16)), .c (.sc (.bool a17)), .c (.sc (.bool a18)), .c (.sc (.int .i64 a19)), .c (.sc (.int .i64 a20))]] [] (proc_Check.R r) [] := by
  unfold proc_Check.f at h
  refine fun_of_run cfg_ok (f := 9) (fn := Tryd.f9) Tryd.func9 rfl (by kernel_rfl) (rs := [.tmp 2]) rfl (nt := 82) rfl (l := fin) (k := (.call true [] ((Option Int)) (fun t1 => pids_Check.R t1) (fun t1 => (.br (.one true (.one true (.call true [] ((Option Int)) (fun t3 => cred_Check.R t3) (fun t3 => (.one true (.one true (.br (.one true (.one true (.call true [] ((Option Int)) (fun t5 => path_Check.R t5) (fun t5 => (.one true (.one true (.call true [] ((Option Int)) (fun t6 => regs_Check.R t6) (fun t6 => (.br (.one true (.one true (.call true [] ((Option Int)) (fun t8 => fds_Check.R t8) (fun t8 => (.one true (.one true (.br (.one true (.one true (.call true [] ((Option Int)) (fun t10 => sig_Check.R t10) (fun t10 => (.one true (.one true (.br (.one true (.one true (.call true [] ((Option Int)) (fun t12 => trace_Check.R t12) (fun t12 => (.one true (.one true (.br (.one true (.one true (.one true (.br (.one true (.one true (.one true (.br (.one true (.one true (.one true (.br (.one true (.one true (.br (.one true (.one true (.one true (.one true (.one true (.br (.one true (.one true (.one true (.one true (.one true (.one true (.adj [] (.adj [] (.adj [.drop 0] .nil))))))))) (.one false (.one false (.br (.one true (.one true (.one true (.adj [] (.adj [] (.adj [.drop 0] .nil)))))) (.one false (.one false (.one false (.adj [] (.adj [] (.adj [] (.adj [.drop 0] .nil)))))))))))))))) (.one false (.one false (.one true (.one false (.one true (.br (.one true (.one true (.one true (.one true (.one true (.one true (.adj [] (.adj [] (.adj [.drop 0] .nil))))))))) (.one false (.one false (.br (.one true (.one true (.one true (.adj [] (.adj [] (.adj [.drop 0] .nil)))))) (.one false (.one false (.br (.adj [] (.adj [] (.adj [.drop 0] .nil))) (.adj [] (.adj [] (.adj [] (.adj [.drop 0] .nil))))))))))))))))))) (.one false (.one false (.one false (.one false (.br (.one true (.one true (.one true (.one true (.one true (.one true (.adj [] (.adj [] (.adj [.drop 0] .nil))))))))) (.one false (.one false (.br (.one true (.one true (.one true (.adj [] (.adj [] (.adj [.drop 0] .nil)))))) (.one false (.one false (.one true (.adj [] (.adj [] (.adj [.drop 0] .nil)))))))))))))))))) (.one false (.one false (.one false (.one false (.one false (.one false (.one false (.one false (.br (.one true (.one true (.one true (.one true (.one true (.one true (.adj [] (.adj [] (.adj [.drop 0] .nil))))))))) (.one false (.one false (.br (.one true (.one true (.one true (.adj [] (.adj [] (.adj [.drop 0] .nil)))))) (.one false (.one false (.one true (.adj [] (.adj [] (.adj [.drop 0] .nil)))))))))))))))))))))) (.one false (.one false (.one false (.one false (.one false (.one false (.one false (.one false (.one false (.one false (.one false (.one false (.br (.one true (.one true (.one true (.one true (.one true (.one true (.adj [] (.adj [] (.adj [.drop 0] .nil))))))))) (.one false (.one false (.br (.one true (.one true (.one true (.adj [] (.adj [] (.adj [.drop 0] .nil)))))) (.one false (.one false (.one true (.adj [] (.adj [] (.adj [.drop 0] .nil)))))))))))))))))))))))))) (.one false (.one false (.one false (.one false (.one false (.one false (.one false (.one false (.one false (.one false (.one false (.one false (.one false (.one false (.one false (.one false (.br (.one true (.one true (.one true (.one true (.one true (.one true (.adj [] (.adj [] (.adj [.drop 0] .nil))))))))) (.one false (.one false (.br (.one true (.one true (.one true (.adj [] (.adj [] (.adj [.drop 0] .nil)))))) (.one false (.one false (.one true (.adj [] (.adj [] (.adj [.drop 0] .nil))))))))))))))))))))))))))))))))) (.one false (.one false (.one false (.one false (.br (.one true (.one true (.one true (.br (.one true (.one true (.one true (.br (.one true (.one true (.one true (.br (.one true (.one true (.br (.one true (.one true (.one true (.one true (.one true (.br (.one true (.one true (.one true (.one true (.one true (.one true (.adj [] (.adj [] (.adj [.drop 0] .nil))))))))) (.one false (.one false (.one true (.one true (.one true (.one true (.adj [] (.adj [] (.adj [.drop 0] .nil))))))))))))))) (.one false (.one false (.one true (.one false (.one true (.br (.one true (.one true (.one true (.one true (.one true (.one true (.adj [] (.adj [] (.adj [.drop 0] .nil))))))))) (.one false (.one false (.one true (.one true (.one true (.one true (.adj [] (.adj [] (.adj [.drop 0] .nil)))))))))))))))))) (.one false (.one false (.one false (.one false (.br (.one true (.one true (.one true (.one true (.one true (.one true (.adj [] (.adj [] (.adj [.drop 0] .nil))))))))) (.one false (.one false (.one true (.one true (.one true (.one true (.adj [] (.adj [] (.adj [.drop 0] .nil)))))))))))))))))) (.one false (.one false (.one false (.one false (.one false (.one false (.one false (.one false (.br (.one true (.one true (.one true (.one true (.one true (.one true (.adj [] (.adj [] (.adj [.drop 0] .nil))))))))) (.one false (.one false (.one true (.one true (.one true (.one true (.adj [] (.adj [] (.adj [.drop 0] .nil)))))))))))))))))))))) (.one false (.one false (.one false (.one false (.one false (.one false (.one false (.one false (.one false (.one false (.one false (.one false (.br (.one true (.one true (.one true (.one true (.one true (.one true (.adj [] (.adj [] (.adj [.drop 0] .nil))))))))) (.one false (.one false (.one true (.one true (.one true (.one true (.adj [] (.adj [] (.adj [.drop 0] .nil)))))))))))))))))))))))))) (.one false (.one false (.one false (.one false (.one false (.one false (.one false (.one false (.one false (.one false (.one false (.one false (.one false (.one false (.one false (.one false (.br (.one true (.one true (.one true (.one true (.one true (.one true (.adj [] (.adj [] (.adj [.drop 0] .nil))))))))) (.one false (.one false (.one true (.one true (.one true (.one true (.adj [] (.adj [] (.adj [.drop 0] .nil)))))))))))))))))))))))))))))))))))))) (.one false (.one false (.one false (.one false (.one false (.one false (.one false (.one false (.one false (.br (.one true (.one true (.one true (.br (.one true (.one true (.one true (.br (.one true (.one true (.one true (.br (.one true (.one true (.br (.one true (.one true (.one true (.one true (.one true (.br (.one true (.one true (.one true (.one true (.one true (.one true (.adj [] (.adj [] (.adj [.drop 0] .nil))))))))) (.one false (.one false (.one true (.one true (.one true (.one true (.adj [] (.adj [] (.adj [.drop 0] .nil))))))))))))))) (.one false (.one false (.one true (.one false (.one true (.br (.one true (.one true (.one true (.one true (.one true (.one true (.adj [] (.adj [] (.adj [.drop 0] .nil))))))))) (.one false (.one false (.one true (.one true (.one true (.one true (.adj [] (.adj [] (.adj [.drop 0] .nil)))))))))))))))))) (.one false (.one false (.one false (.one false (.br (.one true (.one true (.one true (.one true (.one true (.one true (.adj [] (.adj [] (.adj [.drop 0] .nil))))))))) (.one false (.one false (.one true (.one true (.one true (.one true (.adj [] (.adj [] (.adj [.drop 0] .nil)))))))))))))))))) (.one false (.one false (.one false (.one false (.one false (.one false (.one false (.one false (.br (.one true (.one true (.one true (.one true (.one true (.one true (.adj [] (.adj [] (.adj [.drop 0] .nil))))))))) (.one false (.one false (.one true (.one true (.one true (.one true (.adj [] (.adj [] (.adj [.drop 0] .nil)))))))))))))))))))))) (.one false (.one false (.one false (.one false (.one false (.one false (.one false (.one false (.one false (.one false (.one false (.one false (.br (.one true (.one true (.one true (.one true (.one true (.one true (.adj [] (.adj [] (.adj [.drop 0] .nil))))))))) (.one false (.one false (.one true (.one true (.one true (.one true (.adj [] (.adj [] (.adj [.drop 0] .nil)))))))))))))))))))))))))) (.one false (.one false (.one false (.one false (.one false (.one false (.one false (.one false (.one false (.one false (.one false (.one false (.one false (.one false (.one false (.one false (.br (.one true (.one true (.one true (.one true (.one true (.one true (.adj [] (.adj [] (.adj [.drop 0] .nil))))))))) (.one false (.one false (.one true (.one true (.one true (.one true (.adj [] (.adj [] (.adj [.drop 0] .nil))))))))))))))))))))))))))))))))))))))))))) (.one false (.one false (.one false (.one false (.one false (.one false (.one false (.one false (.one false (.one false (.one false (.one false (.one false (.one false (.br (.one true (.one true (.one true (.br (.one true (.one true (.one true (.br (.one true (.one true (.one true (.br (.one true (.one true (.br (.one true (.one true (.one true (.one true (.one true (.br (.one true (.one true (.one true (.one true (.one true (.one true (.adj [] (.adj [] (.adj [.drop 0] .nil))))))))) (.one false (.one false (.one true (.one true (.one true (.one true (.adj [] (.adj [] (.adj [.drop 0] .nil))))))))))))))) (.one false (.one false (.one true (.one false (.one true (.br (.one true (.one true (.one true (.one true (.one true (.one true (.adj [] (.adj [] (.adj [.drop 0] .nil))))))))) (.one false (.one false (.one true (.one true (.one true (.one true (.adj [] (.adj [] (.adj [.drop 0] .nil)))))))))))))))))) (.one false (.one false (.one false (.one false (.br (.one true (.one true (.one true (.one true (.one true (.one true (.adj [] (.adj [] (.adj [.drop 0] .nil))))))))) (.one false (.one false (.one true (.one true (.one true (.one true (.adj [] (.adj [] (.adj [.drop 0] .nil)))))))))))))))))) (.one false (.one false (.one false (.one false (.one false (.one false (.one false (.one false (.br (.one true (.one true (.one true (.one true (.one true (.one true (.adj [] (.adj [] (.adj [.drop 0] .nil))))))))) (.one false (.one false (.one true (.one true (.one true (.one true (.adj [] (.adj [] (.adj [.drop 0] .nil)))))))))))))))))))))) (.one false (.one false (.one false (.one false (.one false (.one false (.one false (.one false (.one false (.one false (.one false (.one false (.br (.one true (.one true (.one true (.one true (.one true (.one true (.adj [] (.adj [] (.adj [.drop 0] .nil))))))))) (.one false (.one false (.one true (.one true (.one true (.one true (.adj [] (.adj [] (.adj [.drop 0] .nil)))))))))))))))))))))))))) (.one false (.one false (.one false (.one false (.one false (.one false (.one false (.one false (.one false (.one false (.one false (.one false (.one false (.one false (.one false (.one false (.br (.one true (.one true (.one true (.one true (.one true (.one true (.adj [] (.adj [] (.adj [.drop 0] .nil))))))))) (.one false (.one false (.one true (.one true (.one true (.one true (.adj [] (.adj [] (.adj [.drop 0] .nil)))))))))))))))))))))))))))))))))))))))))))))))))) (.one false (.one false (.one false (.one false (.call true [] ((Option Int)) (fun t64 => regs_Check.R t64) (fun t64 => (.br (.one true (.one true (.call true [] ((Option Int)) (fun t66 => fds_Check.R t66) (fun t66 => (.one true (.one true (.br (.one true (.one true (.call true [] ((Option Int)) (fun t68 => sig_Check.R t68) (fun t68 => (.one true (.one true (.br (.one true (.one true (.call true [] ((Option Int)) (fun t70 => trace_Check.R t70) (fun t70 => (.one true (.one true (.br (.one true (.one true (.one true (.br (.one true (.one true (.one true (.br (.one true (.one true (.one true (.br (.one true (.one true (.br (.one true (.one true (.one true (.one true (.one true (.one true (.one true (.one true (.one true (.one true (.one true (.one true (.adj [] (.adj [] (.adj [.drop 0] .nil))))))))))))))) (.one false (.one false (.one true (.one false (.one true (.one true (.one true (.one true (.one true (.one true (.one true (.one true (.adj [] (.adj [] (.adj [.drop 0] .nil)))))))))))))))))) (.one false (.one false (.one false (.one false (.one true (.one true (.one true (.one true (.one true (.one true (.one true (.adj [] (.adj [] (.adj [.drop 0] .nil)))))))))))))))))) (.one false (.one false (.one false (.one false (.one false (.one false (.one false (.one false (.one true (.one true (.one true (.one true (.one true (.one true (.one true (.adj [] (.adj [] (.adj [.drop 0] .nil)))))))))))))))))))))) (.one false (.one false (.one false (.one false (.one false (.one false (.one false (.one false (.one false (.one false (.one false (.one false (.one true (.one true (.one true (.one true (.one true (.one true (.one true (.adj [] (.adj [] (.adj [.drop 0] .nil)))))))))))))))))))))))))) (.one false (.one false (.one false (.one false (.one false (.one false (.one false (.one false (.one false (.one false (.one false (.one false (.one false (.one false (.one false (.one false (.one true (.one true (.one true (.one true (.one true (.one true (.one true (.adj [] (.adj [] (.adj [.drop 0] .nil))))))))))))))))))))))))))))))))) (.one false (.one false (.one false (.one false (.br (.one true (.one true (.one true (.br (.one true (.one true (.one true (.br (.one true (.one true (.one true (.br (.one true (.one true (.br (.one true (.one true (.one true (.one true (.one true (.one true (.one true (.one true (.one true (.one true (.one true (.one true (.adj [] (.adj [] (.adj [.drop 0] .nil))))))))))))))) (.one false (.one false (.one true (.one false (.one true (.one true (.one true (.one true (.one true (.one true (.one true (.one true (.adj [] (.adj [] (.adj [.drop 0] .nil)))))))))))))))))) (.one false (.one false (.one false (.one false (.one true (.one true (.one true (.one true (.one true (.one true (.one true (.adj [] (.adj [] (.adj [.drop 0] .nil)))))))))))))))))) (.one false (.one false (.one false (.one false (.one false (.one false (.one false (.one false (.one true (.one true (.one true (.one true (.one true (.one true (.one true (.adj [] (.adj [] (.adj [.drop 0] .nil)))))))))))))))))))))) (.one false (.one false (.one false (.one false (.one false (.one false (.one false (.one false (.one false (.one false (.one false (.one false (.one true (.one true (.one true (.one true (.one true (.one true (.one true (.adj [] (.adj [] (.adj [.drop 0] .nil)))))))))))))))))))))))))) (.one false (.one false (.one false (.one false (.one false (.one false (.one false (.one false (.one false (.one false (.one false (.one false (.one false (.one false (.one false (.one false (.one true (.one true (.one true (.one true (.one true (.one true (.one true (.adj [] (.adj [] (.adj [.drop 0] .nil)))))))))))))))))))))))))))))))))))))) (.one false (.one false (.one false (.one false (.one false (.one false (.one false (.one false (.one false (.br (.one true (.one true (.one true (.br (.one true (.one true (.one true (.br (.one true (.one true (.one true (.br (.one true (.one true (.br (.one true (.one true (.one true (.one true (.one true (.one true (.one true (.one true (.one true (.one true (.one true (.one true (.adj [] (.adj [] (.adj [.drop 0] .nil))))))))))))))) (.one false (.one false (.one true (.one false (.one true (.one true (.one true (.one true (.one true (.one true (.one true (.one true (.adj [] (.adj [] (.adj [.drop 0] .nil)))))))))))))))))) (.one false (.one false (.one false (.one false (.one true (.one true (.one true (.one true (.one true (.one true (.one true (.adj [] (.adj [] (.adj [.drop 0] .nil)))))))))))))))))) (.one false (.one false (.one false (.one false (.one false (.one false (.one false (.one false (.one true (.one true (.one true (.one true (.one true (.one true (.one true (.adj [] (.adj [] (.adj [.drop 0] .nil)))))))))))))))))))))) (.one false (.one false (.one false (.one false (.one false (.one false (.one false (.one false (.one false (.one false (.one false (.one false (.one true (.one true (.one true (.one true (.one true (.one true (.one true (.adj [] (.adj [] (.adj [.drop 0] .nil)))))))))))))))))))))))))) (.one false (.one false (.one false (.one false (.one false (.one false (.one false (.one false (.one false (.one false (.one false (.one false (.one false (.one false (.one false (.one false (.one true (.one true (.one true (.one true (.one true (.one true (.one true (.adj [] (.adj [] (.adj [.drop 0] .nil))))))))))))))))))))))))))))))))))))))))))) (.one false (.one false (.one false (.one false (.one false (.one false (.one false (.one false (.one false (.one false (.one false (.one false (.one false (.one false (.br (.one true (.one true (.one true (.br (.one true (.one true (.one true (.br (.one true (.one true (.one true (.br (.one true (.one true (.br (.one true (.one true (.one true (.one true (.one true (.one true (.one true (.one true (.one true (.one true (.one true (.one true (.adj [] (.adj [] (.adj [.drop 0] .nil))))))))))))))) (.one false (.one false (.one true (.one false (.one true (.one true (.one true (.one true (.one true (.one true (.one true (.one true (.adj [] (.adj [] (.adj [.drop 0] .nil)))))))))))))))))) (.one false (.one false (.one false (.one false (.one true (.one true (.one true (.one true (.one true (.one true (.one true (.adj [] (.adj [] (.adj [.drop 0] .nil)))))))))))))))))) (.one false (.one false (.one false (.one false (.one false (.one false (.one false (.one false (.one true (.one true (.one true (.one true (.one true (.one true (.one true (.adj [] (.adj [] (.adj [.drop 0] .nil)))))))))))))))))))))) (.one false (.one false (.one false (.one false (.one false (.one false (.one false (.one false (.one false (.one false (.one false (.one false (.one true (.one true (.one true (.one true (.one true (.one true (.one true (.adj [] (.adj [] (.adj [.drop 0] .nil)))))))))))))))))))))))))) (.one false (.one false (.one false (.one false (.one false (.one false (.one false (.one false (.one false (.one false (.one false (.one false (.one false (.one false (.one false (.one false (.one true (.one true (.one true (.one true (.one true (.one true (.one true (.adj [] (.adj [] (.adj [.drop 0] .nil))))))))))))))))))))))))))))))))))))))))))))))))))))))) (.one false (.one false (.one false (.one false (.one false (.one false (.one false (.one false (.one false (.call true [] ((Option Int)) (fun t91 => regs_Check.R t91) (fun t91 => (.br (.one true (.one true (.call true [] ((Option Int)) (fun t93 => fds_Check.R t93) (fun t93 => (.one true (.one true (.br (.one true (.one true (.call true [] ((Option Int)) (fun t95 => sig_Check.R t95) (fun t95 => (.one true (.one true (.br (.one true (.one true (.call true [] ((Option Int)) (fun t97 => trace_Check.R t97) (fun t97 => (.one true (.one true (.br (.one true (.one true (.one true (.br (.one true (.one true (.one true (.br (.one true (.one true (.one true (.br (.one true (.one true (.br (.one true (.one true (.one true (.one true (.one true (.one true (.one true (.one true (.one true (.one true (.one true (.one true (.adj [] (.adj [] (.adj [.drop 0] .nil))))))))))))))) (.one false (.one false (.one true (.one false (.one true (.one true (.one true (.one true (.one true (.one true (.one true (.one true (.adj [] (.adj [] (.adj [.drop 0] .nil)))))))))))))))))) (.one false (.one false (.one false (.one false (.one true (.one true (.one true (.one true (.one true (.one true (.one true (.adj [] (.adj [] (.adj [.drop 0] .nil)))))))))))))))))) (.one false (.one false (.one false (.one false (.one false (.one false (.one false (.one false (.one true (.one true (.one true (.one true (.one true (.one true (.one true (.adj [] (.adj [] (.adj [.drop 0] .nil)))))))))))))))))))))) (.one false (.one false (.one false (.one false (.one false (.one false (.one false (.one false (.one false (.one false (.one false (.one false (.one true (.one true (.one true (.one true (.one true (.one true (.one true (.adj [] (.adj [] (.adj [.drop 0] .nil)))))))))))))))))))))))))) (.one false (.one false (.one false (.one false (.one false (.one false (.one false (.one false (.one false (.one false (.one false (.one false (.one false (.one false (.one false (.one false (.one true (.one true (.one true (.one true (.one true (.one true (.one true (.adj [] (.adj [] (.adj [.drop 0] .nil))))))))))))))))))))))))))))))))) (.one false (.one false (.one false (.one false (.br (.one true (.one true (.one true (.br (.one true (.one true (.one true (.br (.one true (.one true (.one true (.br (.one true (.one true (.br (.one true (.one true (.one true (.one true (.one true (.one true (.one true (.one true (.one true (.one true (.one true (.one true (.adj [] (.adj [] (.adj [.drop 0] .nil))))))))))))))) (.one false (.one false (.one true (.one false (.one true (.one true (.one true (.one true (.one true (.one true (.one true (.one true (.adj [] (.adj [] (.adj [.drop 0] .nil)))))))))))))))))) (.one false (.one false (.one false (.one false (.one true (.one true (.one true (.one true (.one true (.one true (.one true (.adj [] (.adj [] (.adj [.drop 0] .nil)))))))))))))))))) (.one false (.one false (.one false (.one false (.one false (.one false (.one false (.one false (.one true (.one true (.one true (.one true (.one true (.one true (.one true (.adj [] (.adj [] (.adj [.drop 0] .nil)))))))))))))))))))))) (.one false (.one false (.one false (.one false (.one false (.one false (.one false (.one false (.one false (.one false (.one false (.one false (.one true (.one true (.one true (.one true (.one true (.one true (.one true (.adj [] (.adj [] (.adj [.drop 0] .nil)))))))))))))))))))))))))) (.one false (.one false (.one false (.one false (.one false (.one false (.one false (.one false (.one false (.one false (.one false (.one false (.one false (.one false (.one false (.one false (.one true (.one true (.one true (.one true (.one true (.one true (.one true (.adj [] (.adj [] (.adj [.drop 0] .nil)))))))))))))))))))))))))))))))))))))) (.one false (.one false (.one false (.one false (.one false (.one false (.one false (.one false (.one false (.br (.one true (.one true (.one true (.br (.one true (.one true (.one true (.br (.one true (.one true (.one true (.br (.one true (.one true (.br (.one true (.one true (.one true (.one true (.one true (.one true (.one true (.one true (.one true (.one true (.one true (.one true (.adj [] (.adj [] (.adj [.drop 0] .nil))))))))))))))) (.one false (.one false (.one true (.one false (.one true (.one true (.one true (.one true (.one true (.one true (.one true (.one true (.adj [] (.adj [] (.adj [.drop 0] .nil)))))))))))))))))) (.one false (.one false (.one false (.one false (.one true (.one true (.one true (.one true (.one true (.one true (.one true (.adj [] (.adj [] (.adj [.drop 0] .nil)))))))))))))))))) (.one false (.one false (.one false (.one false (.one false (.one false (.one false (.one false (.one true (.one true (.one true (.one true (.one true (.one true (.one true (.adj [] (.adj [] (.adj [.drop 0] .nil)))))))))))))))))))))) (.one false (.one false (.one false (.one false (.one false (.one false (.one false (.one false (.one false (.one false (.one false (.one false (.one true (.one true (.one true (.one true (.one true (.one true (.one true (.adj [] (.adj [] (.adj [.drop 0] .nil)))))))))))))))))))))))))) (.one false (.one false (.one false (.one false (.one false (.one false (.one false (.one false (.one false (.one false (.one false (.one false (.one false (.one false (.one false (.one false (.one true (.one true (.one true (.one true (.one true (.one true (.one true (.adj [] (.adj [] (.adj [.drop 0] .nil))))))))))))))))))))))))))))))))))))))))))) (.one false (.one false (.one false (.one false (.one false (.one false (.one false (.one false (.one false (.one false (.one false (.one false (.one false (.one false (.br (.one true (.one true (.one true (.br (.one true (.one true (.one true (.br (.one true (.one true (.one true (.br (.one true (.one true (.br (.one true (.one true (.one true (.one true (.one true (.one true (.one true (.one true (.one true (.one true (.one true (.one true (.adj [] (.adj [] (.adj [.drop 0] .nil))))))))))))))) (.one false (.one false (.one true (.one false (.one true (.one true (.one true (.one true (.one true (.one true (.one true (.one true (.adj [] (.adj [] (.adj [.drop 0] .nil)))))))))))))))))) (.one false (.one false (.one false (.one false (.one true (.one true (.one true (.one true (.one true (.one true (.one true (.adj [] (.adj [] (.adj [.drop 0] .nil)))))))))))))))))) (.one false (.one false (.one false (.one false (.one false (.one false (.one false (.one false (.one true (.one true (.one true (.one true (.one true (.one true (.one true (.adj [] (.adj [] (.adj [.drop 0] .nil)))))))))))))))))))))) (.one false (.one false (.one false (.one false (.one false (.one false (.one false (.one false (.one false (.one false (.one false (.one false (.one true (.one true (.one true (.one true (.one true (.one true (.one true (.adj [] (.adj [] (.adj [.drop 0] .nil)))))))))))))))))))))))))) (.one false (.one false (.one false (.one false (.one false (.one false (.one false (.one false (.one false (.one false (.one false (.one false (.one false (.one false (.one false (.one false (.one true (.one true (.one true (.one true (.one true (.one true (.one true (.adj [] (.adj [] (.adj [.drop 0] .nil))))))))))))))))))))))))))))))))))))))))))))))))))))))))) (to_goal (q := (True) ∧ (∃ t1 : (Option Int), (Fun cfg 16 [.one (.sc (.int .i64 a0))] [] (pids_Check.R t1) [] ∧ True) ∧ (True) ∧ (((Option.isNone t1) = true → ((Option.isNone t1) = true ∧ (True) ∧ ((Option.isNone t1) = true ∧ (∃ t3 : (Option Int), (Fun cfg 17 [.one (.sc (.int .i64 a1))] [] (cred_Check.R t3) [] ∧ True) ∧ ((Option.isNone t1) = true ∧ (True) ∧ ((Option.isNone t1) = true ∧ (((Option.isNone t3) = true → ((Option.isNone t3) = true ∧ (True) ∧ ((Option.isNone t3) = true ∧ (∃ t5 : (Option Int), (Fun cfg 18 [.one (.sc (.string a2))] [] (path_Check.R t5) [] ∧ True) ∧ ((Option.isNone t3) = true ∧ (True) ∧ ((Option.isNone t3) = true ∧ (True) ∧ (∃ t6 : (Option Int), (Fun cfg 19 [.agg [.row 16 (.int .u32) a3, .c (.sc (.int .u32 a4)), .c (.sc (.int .u32 a5)), .row 4 (.int .u64) a6]] [] (regs_Check.R t6) [] ∧ True) ∧ (True) ∧ (((Option.isNone t6) = true → ((Option.isNone t6) = true ∧ (True) ∧ ((Option.isNone t6) = true ∧ (∃ t8 : (Option Int), (Fun cfg 20 [.agg [.row 8 (.int .i64) a7]] [] (fds_Check.R t8) [] ∧ True) ∧ ((Option.isNone t6) = true ∧ (True) ∧ ((Option.isNone t6) = true ∧ (((Option.isNone t8) = true → ((Option.isNone t8) = true ∧ (True) ∧ ((Option.isNone t8) = true ∧ (∃ t10 : (Option Int), (Fun cfg 21 [.agg [.c (.sc (.int .u32 a8)), .c (.sc (.int .u32 a9)), .row 32 (.int .u32) a10]] [] (sig_Check.R t10) [] ∧ True) ∧ ((Option.isNone t8) = true ∧ (True) ∧ ((Option.isNone t8) = true ∧ (((Option.isNone t10) = true → ((Option.isNone t10) = true ∧ (True) ∧ ((Option.isNone t10) = true ∧ (∃ t12 : (Option Int), (Fun cfg 22 [.agg [.c (.sc (.int .i64 a11)), .c (.sc (.bool a12)), .c (.sc (.int .u32 a13)), .c (.sc (.int .i64 a14)), .c (.sc (.int .i64 a15)), .c (.sc (.bool a16))]] [] (trace_Check.R t12) [] ∧ True) ∧ ((Option.isNone t10) = true ∧ (True) ∧ ((Option.isNone t10) = true ∧ (True) ∧ (True) ∧ (((decide (a19 ≥ (0 : Int))) = true → ((decide (a19 ≥ (0 : Int))) = true ∧ (True) ∧ ((decide (a19 ≥ (0 : Int))) = true ∧ (True) ∧ ((decide (a19 ≥ (0 : Int))) = true ∧ (((decide (a19 < (30 : Int))) = true → ((decide (a19 < (30 : Int))) = true ∧ (True) ∧ ((decide (a19 < (30 : Int))) = true ∧ (True) ∧ ((decide (a19 < (30 : Int))) = true ∧ (((decide (a20 ≥ (0 : Int))) = true → ((decide (a20 ≥ (0 : Int))) = true ∧ (True) ∧ ((decide (a20 ≥ (0 : Int))) = true ∧ (True) ∧ ((decide (a20 ≥ (0 : Int))) = true ∧ (((decide (a20 ≤ (4080 : Int))) = true → ((decide (a20 ≤ (4080 : Int))) = true ∧ (True) ∧ ((decide (a20 ≤ (4080 : Int))) = true ∧ ((a17 = false → (a17 = false ∧ (True) ∧ (a17 = false ∧ ((decide (a20 ≤ (4080 : Int))) = true ∧ (a17 = false ∧ ((decide (a20 ≤ (4080 : Int))) = true ∧ (((!(Option.isNone t5)) = false → ((!(Option.isNone t5)) = false ∧ ((!(Option.isNone t5)) = false ∧ (((!(Option.isNone t12)) = false → ((!(Option.isNone t12)) = false ∧ ((!(Option.isNone t12)) = false ∧ (((!(!a18)) = true → (True ∧ (True ∧ ((True) ∧ ((True) ∧ True) ∧ (.v (.one (.err (some (22 : Int)))) : Tm) = proc_Check.R r ∧ ([] : List Box) = [])))) ∧ ((!(!a18)) = false → (True ∧ (True ∧ (True ∧ ((True) ∧ ((True) ∧ True) ∧ (.v (.one (.err none)) : Tm) = proc_Check.R r ∧ ([] : List Box) = []))))))))) ∧ ((!(Option.isNone t12)) = true → ((!(Option.isNone t12)) = true ∧ ((!(Option.isNone t12)) = true ∧ (true = true ∧ (True ∧ (True ∧ ((True) ∧ ((True) ∧ True) ∧ (.v (.one (.err (some (22 : Int)))) : Tm) = proc_Check.R r ∧ ([] : List Box) = []))))))))))) ∧ ((!(Option.isNone t5)) = true → ((!(Option.isNone t5)) = true ∧ ((!(Option.isNone t5)) = true ∧ (true = true ∧ (true = true ∧ (true = true ∧ (true = true ∧ (True ∧ (True ∧ ((True) ∧ ((True) ∧ True) ∧ (.v (.one (.err (some (22 : Int)))) : Tm) = proc_Check.R r ∧ ([] : List Box) = []))))))))))))))))) ∧ (a17 = true → (a17 = true ∧ (a17 = true ∧ ((decide (a20 ≤ (4080 : Int))) = true ∧ (a17 = true ∧ ((decide (a20 ≤ (4080 : Int))) = true ∧ (((!(Option.isNone t5)) = false → ((!(Option.isNone t5)) = false ∧ ((!(Option.isNone t5)) = false ∧ (((!(Option.isNone t12)) = false → ((!(Option.isNone t12)) = false ∧ ((!(Option.isNone t12)) = false ∧ (false = false ∧ (True ∧ (True ∧ (True ∧ ((True) ∧ ((True) ∧ True) ∧ (.v (.one (.err none)) : Tm) = proc_Check.R r ∧ ([] : List Box) = [])))))))) ∧ ((!(Option.isNone t12)) = true → ((!(Option.isNone t12)) = true ∧ ((!(Option.isNone t12)) = true ∧ (true = true ∧ (True ∧ (True ∧ ((True) ∧ ((True) ∧ True) ∧ (.v (.one (.err (some (22 : Int)))) : Tm) = proc_Check.R r ∧ ([] : List Box) = []))))))))))) ∧ ((!(Option.isNone t5)) = true → ((!(Option.isNone t5)) = true ∧ ((!(Option.isNone t5)) = true ∧ (true = true ∧ (true = true ∧ (true = true ∧ (true = true ∧ (True ∧ (True ∧ ((True) ∧ ((True) ∧ True) ∧ (.v (.one (.err (some (22 : Int)))) : Tm) = proc_Check.R r ∧ ([] : List Box) = []))))))))))))))))))))) ∧ ((decide (a20 ≤ (4080 : Int))) = false → ((decide (a20 ≤ (4080 : Int))) = false ∧ ((decide (a20 ≤ (4080 : Int))) = false ∧ ((decide (a20 ≤ (4080 : Int))) = false ∧ ((decide (a20 ≤ (4080 : Int))) = false ∧ (((!(Option.isNone t5)) = false → ((!(Option.isNone t5)) = false ∧ ((!(Option.isNone t5)) = false ∧ (((!(Option.isNone t12)) = false → ((!(Option.isNone t12)) = false ∧ ((!(Option.isNone t12)) = false ∧ (true = true ∧ (True ∧ (True ∧ ((True) ∧ ((True) ∧ True) ∧ (.v (.one (.err (some (22 : Int)))) : Tm) = proc_Check.R r ∧ ([] : List Box) = []))))))) ∧ ((!(Option.isNone t12)) = true → ((!(Option.isNone t12)) = true ∧ ((!(Option.isNone t12)) = true ∧ (true = true ∧ (True ∧ (True ∧ ((True) ∧ ((True) ∧ True) ∧ (.v (.one (.err (some (22 : Int)))) : Tm) = proc_Check.R r ∧ ([] : List Box) = []))))))))))) ∧ ((!(Option.isNone t5)) = true → ((!(Option.isNone t5)) = true ∧ ((!(Option.isNone t5)) = true ∧ (true = true ∧ (true = true ∧ (true = true ∧ (true = true ∧ (True ∧ (True ∧ ((True) ∧ ((True) ∧ True) ∧ (.v (.one (.err (some (22 : Int)))) : Tm) = proc_Check.R r ∧ ([] : List Box) = []))))))))))))))))))))) ∧ ((decide (a20 ≥ (0 : Int))) = false → ((decide (a20 ≥ (0 : Int))) = false ∧ ((decide (a20 ≥ (0 : Int))) = false ∧ ((decide (a20 ≥ (0 : Int))) = false ∧ (false = false ∧ (false = false ∧ (false = false ∧ (false = false ∧ (false = false ∧ (((!(Option.isNone t5)) = false → ((!(Option.isNone t5)) = false ∧ ((!(Option.isNone t5)) = false ∧ (((!(Option.isNone t12)) = false → ((!(Option.isNone t12)) = false ∧ ((!(Option.isNone t12)) = false ∧ (true = true ∧ (True ∧ (True ∧ ((True) ∧ ((True) ∧ True) ∧ (.v (.one (.err (some (22 : Int)))) : Tm) = proc_Check.R r ∧ ([] : List Box) = []))))))) ∧ ((!(Option.isNone t12)) = true → ((!(Option.isNone t12)) = true ∧ ((!(Option.isNone t12)) = true ∧ (true = true ∧ (True ∧ (True ∧ ((True) ∧ ((True) ∧ True) ∧ (.v (.one (.err (some (22 : Int)))) : Tm) = proc_Check.R r ∧ ([] : List Box) = []))))))))))) ∧ ((!(Option.isNone t5)) = true → ((!(Option.isNone t5)) = true ∧ ((!(Option.isNone t5)) = true ∧ (true = true ∧ (true = true ∧ (true = true ∧ (true = true ∧ (True ∧ (True ∧ ((True) ∧ ((True) ∧ True) ∧ (.v (.one (.err (some (22 : Int)))) : Tm) = proc_Check.R r ∧ ([] : List Box) = []))))))))))))))))))))))))) ∧ ((decide (a19 < (30 : Int))) = false → ((decide (a19 < (30 : Int))) = false ∧ ((decide (a19 < (30 : Int))) = false ∧ ((decide (a19 < (30 : Int))) = false ∧ (false = false ∧ (false = false ∧ (false = false ∧ (false = false ∧ (false = false ∧ (false = false ∧ (false = false ∧ (false = false ∧ (false = false ∧ (((!(Option.isNone t5)) = false → ((!(Option.isNone t5)) = false ∧ ((!(Option.isNone t5)) = false ∧ (((!(Option.isNone t12)) = false → ((!(Option.isNone t12)) = false ∧ ((!(Option.isNone t12)) = false ∧ (true = true ∧ (True ∧ (True ∧ ((True) ∧ ((True) ∧ True) ∧ (.v (.one (.err (some (22 : Int)))) : Tm) = proc_Check.R r ∧ ([] : List Box) = []))))))) ∧ ((!(Option.isNone t12)) = true → ((!(Option.isNone t12)) = true ∧ ((!(Option.isNone t12)) = true ∧ (true = true ∧ (True ∧ (True ∧ ((True) ∧ ((True) ∧ True) ∧ (.v (.one (.err (some (22 : Int)))) : Tm) = proc_Check.R r ∧ ([] : List Box) = []))))))))))) ∧ ((!(Option.isNone t5)) = true → ((!(Option.isNone t5)) = true ∧ ((!(Option.isNone t5)) = true ∧ (true = true ∧ (true = true ∧ (true = true ∧ (true = true ∧ (True ∧ (True ∧ ((True) ∧ ((True) ∧ True) ∧ (.v (.one (.err (some (22 : Int)))) : Tm) = proc_Check.R r ∧ ([] : List Box) = []))))))))))))))))))))))))))))) ∧ ((decide (a19 ≥ (0 : Int))) = false → ((decide (a19 ≥ (0 : Int))) = false ∧ ((decide (a19 ≥ (0 : Int))) = false ∧ ((decide (a19 ≥ (0 : Int))) = false ∧ (false = false ∧ (false = false ∧ (false = false ∧ (false = false ∧ (false = false ∧ (false = false ∧ (false = false ∧ (false = false ∧ (false = false ∧ (false = false ∧ (false = false ∧ (false = false ∧ (false = false ∧ (((!(Option.isNone t5)) = false → ((!(Option.isNone t5)) = false ∧ ((!(Option.isNone t5)) = false ∧ (((!(Option.isNone t12)) = false → ((!(Option.isNone t12)) = false ∧ ((!(Option.isNone t12)) = false ∧ (true = true ∧ (True ∧ (True ∧ ((True) ∧ ((True) ∧ True) ∧ (.v (.one (.err (some (22 : Int)))) : Tm) = proc_Check.R r ∧ ([] : List Box) = []))))))) ∧ ((!(Option.isNone t12)) = true → ((!(Option.isNone t12)) = true ∧ ((!(Option.isNone t12)) = true ∧ (true = true ∧ (True ∧ (True ∧ ((True) ∧ ((True) ∧ True) ∧ (.v (.one (.err (some (22 : Int)))) : Tm) = proc_Check.R r ∧ ([] : List Box) = []))))))))))) ∧ ((!(Option.isNone t5)) = true → ((!(Option.isNone t5)) = true ∧ ((!(Option.isNone t5)) = true ∧ (true = true ∧ (true = true ∧ (true = true ∧ (true = true ∧ (True ∧ (True ∧ ((True) ∧ ((True) ∧ True) ∧ (.v (.one (.err (some (22 : Int)))) : Tm) = proc_Check.R r ∧ ([] : List Box) = []))))))))))))))))))))))))))))))))))) ∧ ((Option.isNone t10) = false → ((Option.isNone t10) = false ∧ ((Option.isNone t10) = false ∧ ((Option.isNone t10) = false ∧ ((Option.isNone t10) = false ∧ (True) ∧ (True) ∧ (((decide (a19 ≥ (0 : Int))) = true → ((decide (a19 ≥ (0 : Int))) = true ∧ (True) ∧ ((decide (a19 ≥ (0 : Int))) = true ∧ (True) ∧ ((decide (a19 ≥ (0 : Int))) = true ∧ (((decide (a19 < (30 : Int))) = true → ((decide (a19 < (30 : Int))) = true ∧ (True) ∧ ((decide (a19 < (30 : Int))) = true ∧ (True) ∧ ((decide (a19 < (30 : Int))) = true ∧ (((decide (a20 ≥ (0 : Int))) = true → ((decide (a20 ≥ (0 : Int))) = true ∧ (True) ∧ ((decide (a20 ≥ (0 : Int))) = true ∧ (True) ∧ ((decide (a20 ≥ (0 : Int))) = true ∧ (((decide (a20 ≤ (4080 : Int))) = true → ((decide (a20 ≤ (4080 : Int))) = true ∧ (True) ∧ ((decide (a20 ≤ (4080 : Int))) = true ∧ ((a17 = false → (a17 = false ∧ (True) ∧ (a17 = false ∧ ((decide (a20 ≤ (4080 : Int))) = true ∧ (a17 = false ∧ ((decide (a20 ≤ (4080 : Int))) = true ∧ (((!(Option.isNone t5)) = false → ((!(Option.isNone t5)) = false ∧ ((!(Option.isNone t5)) = false ∧ (true = true ∧ (true = true ∧ (true = true ∧ (true = true ∧ (True ∧ (True ∧ ((True) ∧ ((True) ∧ True) ∧ (.v (.one (.err (some (22 : Int)))) : Tm) = proc_Check.R r ∧ ([] : List Box) = [])))))))))) ∧ ((!(Option.isNone t5)) = true → ((!(Option.isNone t5)) = true ∧ ((!(Option.isNone t5)) = true ∧ (true = true ∧ (true = true ∧ (true = true ∧ (true = true ∧ (True ∧ (True ∧ ((True) ∧ ((True) ∧ True) ∧ (.v (.one (.err (some (22 : Int)))) : Tm) = proc_Check.R r ∧ ([] : List Box) = []))))))))))))))))) ∧ (a17 = true → (a17 = true ∧ (a17 = true ∧ ((decide (a20 ≤ (4080 : Int))) = true ∧ (a17 = true ∧ ((decide (a20 ≤ (4080 : Int))) = true ∧ (((!(Option.isNone t5)) = false → ((!(Option.isNone t5)) = false ∧ ((!(Option.isNone t5)) = false ∧ (true = true ∧ (true = true ∧ (true = true ∧ (true = true ∧ (True ∧ (True ∧ ((True) ∧ ((True) ∧ True) ∧ (.v (.one (.err (some (22 : Int)))) : Tm) = proc_Check.R r ∧ ([] : List Box) = [])))))))))) ∧ ((!(Option.isNone t5)) = true → ((!(Option.isNone t5)) = true ∧ ((!(Option.isNone t5)) = true ∧ (true = true ∧ (true = true ∧ (true = true ∧ (true = true ∧ (True ∧ (True ∧ ((True) ∧ ((True) ∧ True) ∧ (.v (.one (.err (some (22 : Int)))) : Tm) = proc_Check.R r ∧ ([] : List Box) = []))))))))))))))))))))) ∧ ((decide (a20 ≤ (4080 : Int))) = false → ((decide (a20 ≤ (4080 : Int))) = false ∧ ((decide (a20 ≤ (4080 : Int))) = false ∧ ((decide (a20 ≤ (4080 : Int))) = false ∧ ((decide (a20 ≤ (4080 : Int))) = false ∧ (((!(Option.isNone t5)) = false → ((!(Option.isNone t5)) = false ∧ ((!(Option.isNone t5)) = false ∧ (true = true ∧ (true = true ∧ (true = true ∧ (true = true ∧ (True ∧ (True ∧ ((True) ∧ ((True) ∧ True) ∧ (.v (.one (.err (some (22 : Int)))) : Tm) = proc_Check.R r ∧ ([] : List Box) = [])))))))))) ∧ ((!(Option.isNone t5)) = true → ((!(Option.isNone t5)) = true ∧ ((!(Option.isNone t5)) = true ∧ (true = true ∧ (true = true ∧ (true = true ∧ (true = true ∧ (True ∧ (True ∧ ((True) ∧ ((True) ∧ True) ∧ (.v (.one (.err (some (22 : Int)))) : Tm) = proc_Check.R r ∧ ([] : List Box) = []))))))))))))))))))))) ∧ ((decide (a20 ≥ (0 : Int))) = false → ((decide (a20 ≥ (0 : Int))) = false ∧ ((decide (a20 ≥ (0 : Int))) = false ∧ ((decide (a20 ≥ (0 : Int))) = false ∧ (false = false ∧ (false = false ∧ (false = false ∧ (false = false ∧ (false = false ∧ (((!(Option.isNone t5)) = false → ((!(Option.isNone t5)) = false ∧ ((!(Option.isNone t5)) = false ∧ (true = true ∧ (true = true ∧ (true = true ∧ (true = true ∧ (True ∧ (True ∧ ((True) ∧ ((True) ∧ True) ∧ (.v (.one (.err (some (22 : Int)))) : Tm) = proc_Check.R r ∧ ([] : List Box) = [])))))))))) ∧ ((!(Option.isNone t5)) = true → ((!(Option.isNone t5)) = true ∧ ((!(Option.isNone t5)) = true ∧ (true = true ∧ (true = true ∧ (true = true ∧ (true = true ∧ (True ∧ (True ∧ ((True) ∧ ((True) ∧ True) ∧ (.v (.one (.err (some (22 : Int)))) : Tm) = proc_Check.R r ∧ ([] : List Box) = []))))))))))))))))))))))))) ∧ ((decide (a19 < (30 : Int))) = false → ((decide (a19 < (30 : Int))) = false ∧ ((decide (a19 < (30 : Int))) = false ∧ ((decide (a19 < (30 : Int))) = false ∧ (false = false ∧ (false = false ∧ (false = false ∧ (false = false ∧ (false = false ∧ (false = false ∧ (false = false ∧ (false = false ∧ (false = false ∧ (((!(Option.isNone t5)) = false → ((!(Option.isNone t5)) = false ∧ ((!(Option.isNone t5)) = false ∧ (true = true ∧ (true = true ∧ (true = true ∧ (true = true ∧ (True ∧ (True ∧ ((True) ∧ ((True) ∧ True) ∧ (.v (.one (.err (some (22 : Int)))) : Tm) = proc_Check.R r ∧ ([] : List Box) = [])))))))))) ∧ ((!(Option.isNone t5)) = true → ((!(Option.isNone t5)) = true ∧ ((!(Option.isNone t5)) = true ∧ (true = true ∧ (true = true ∧ (true = true ∧ (true = true ∧ (True ∧ (True ∧ ((True) ∧ ((True) ∧ True) ∧ (.v (.one (.err (some (22 : Int)))) : Tm) = proc_Check.R r ∧ ([] : List Box) = []))))))))))))))))))))))))))))) ∧ ((decide (a19 ≥ (0 : Int))) = false → ((decide (a19 ≥ (0 : Int))) = false ∧ ((decide (a19 ≥ (0 : Int))) = false ∧ ((decide (a19 ≥ (0 : Int))) = false ∧ (false = false ∧ (false = false ∧ (false = false ∧ (false = false ∧ (false = false ∧ (false = false ∧ (false = false ∧ (false = false ∧ (false = false ∧ (false = false ∧ (false = false ∧ (false = false ∧ (false = false ∧ (((!(Option.isNone t5)) = false → ((!(Option.isNone t5)) = false ∧ ((!(Option.isNone t5)) = false ∧ (true = true ∧ (true = true ∧ (true = true ∧ (true = true ∧ (True ∧ (True ∧ ((True) ∧ ((True) ∧ True) ∧ (.v (.one (.err (some (22 : Int)))) : Tm) = proc_Check.R r ∧ ([] : List Box) = [])))))))))) ∧ ((!(Option.isNone t5)) = true → ((!(Option.isNone t5)) = true ∧ ((!(Option.isNone t5)) = true ∧ (true = true ∧ (true = true ∧ (true = true ∧ (true = true ∧ (True ∧ (True ∧ ((True) ∧ ((True) ∧ True) ∧ (.v (.one (.err (some (22 : Int)))) : Tm) = proc_Check.R r ∧ ([] : List Box) = []))))))))))))))))))))))))))))))))))))))))) ∧ ((Option.isNone t8) = false → ((Option.isNone t8) = false ∧ ((Option.isNone t8) = false ∧ ((Option.isNone t8) = false ∧ ((Option.isNone t8) = false ∧ (false = false ∧ (false = false ∧ (false = false ∧ (false = false ∧ (false = false ∧ (True) ∧ (True) ∧ (((decide (a19 ≥ (0 : Int))) = true → ((decide (a19 ≥ (0 : Int))) = true ∧ (True) ∧ ((decide (a19 ≥ (0 : Int))) = true ∧ (True) ∧ ((decide (a19 ≥ (0 : Int))) = true ∧ (((decide (a19 < (30 : Int))) = true → ((decide (a19 < (30 : Int))) = true ∧ (True) ∧ ((decide (a19 < (30 : Int))) = true ∧ (True) ∧ ((decide (a19 < (30 : Int))) = true ∧ (((decide (a20 ≥ (0 : Int))) = true → ((decide (a20 ≥ (0 : Int))) = true ∧ (True) ∧ ((decide (a20 ≥ (0 : Int))) = true ∧ (True) ∧ ((decide (a20 ≥ (0 : Int))) = true ∧ (((decide (a20 ≤ (4080 : Int))) = true → ((decide (a20 ≤ (4080 : Int))) = true ∧ (True) ∧ ((decide (a20 ≤ (4080 : Int))) = true ∧ ((a17 = false → (a17 = false ∧ (True) ∧ (a17 = false ∧ ((decide (a20 ≤ (4080 : Int))) = true ∧ (a17 = false ∧ ((decide (a20 ≤ (4080 : Int))) = true ∧ (((!(Option.isNone t5)) = false → ((!(Option.isNone t5)) = false ∧ ((!(Option.isNone t5)) = false ∧ (true = true ∧ (true = true ∧ (true = true ∧ (true = true ∧ (True ∧ (True ∧ ((True) ∧ ((True) ∧ True) ∧ (.v (.one (.err (some (22 : Int)))) : Tm) = proc_Check.R r ∧ ([] : List Box) = [])))))))))) ∧ ((!(Option.isNone t5)) = true → ((!(Option.isNone t5)) = true ∧ ((!(Option.isNone t5)) = true ∧ (true = true ∧ (true = true ∧ (true = true ∧ (true = true ∧ (True ∧ (True ∧ ((True) ∧ ((True) ∧ True) ∧ (.v (.one (.err (some (22 : Int)))) : Tm) = proc_Check.R r ∧ ([] : List Box) = []))))))))))))))))) ∧ (a17 = true → (a17 = true ∧ (a17 = true ∧ ((decide (a20 ≤ (4080 : Int))) = true ∧ (a17 = true ∧ ((decide (a20 ≤ (4080 : Int))) = true ∧ (((!(Option.isNone t5)) = false → ((!(Option.isNone t5)) = false ∧ ((!(Option.isNone t5)) = false ∧ (true = true ∧ (true = true ∧ (true = true ∧ (true = true ∧ (True ∧ (True ∧ ((True) ∧ ((True) ∧ True) ∧ (.v (.one (.err (some (22 : Int)))) : Tm) = proc_Check.R r ∧ ([] : List Box) = [])))))))))) ∧ ((!(Option.isNone t5)) = true → ((!(Option.isNone t5)) = true ∧ ((!(Option.isNone t5)) = true ∧ (true = true ∧ (true = true ∧ (true = true ∧ (true = true ∧ (True ∧ (True ∧ ((True) ∧ ((True) ∧ True) ∧ (.v (.one (.err (some (22 : Int)))) : Tm) = proc_Check.R r ∧ ([] : List Box) = []))))))))))))))))))))) ∧ ((decide (a20 ≤ (4080 : Int))) = false → ((decide (a20 ≤ (4080 : Int))) = false ∧ ((decide (a20 ≤ (4080 : Int))) = false ∧ ((decide (a20 ≤ (4080 : Int))) = false ∧ ((decide (a20 ≤ (4080 : Int))) = false ∧ (((!(Option.isNone t5)) = false → ((!(Option.isNone t5)) = false ∧ ((!(Option.isNone t5)) = false ∧ (true = true ∧ (true = true ∧ (true = true ∧ (true = true ∧ (True ∧ (True ∧ ((True) ∧ ((True) ∧ True) ∧ (.v (.one (.err (some (22 : Int)))) : Tm) = proc_Check.R r ∧ ([] : List Box) = [])))))))))) ∧ ((!(Option.isNone t5)) = true → ((!(Option.isNone t5)) = true ∧ ((!(Option.isNone t5)) = true ∧ (true = true ∧ (true = true ∧ (true = true ∧ (true = true ∧ (True ∧ (True ∧ ((True) ∧ ((True) ∧ True) ∧ (.v (.one (.err (some (22 : Int)))) : Tm) = proc_Check.R r ∧ ([] : List Box) = []))))))))))))))))))))) ∧ ((decide (a20 ≥ (0 : Int))) = false → ((decide (a20 ≥ (0 : Int))) = false ∧ ((decide (a20 ≥ (0 : Int))) = false ∧ ((decide (a20 ≥ (0 : Int))) = false ∧ (false = false ∧ (false = false ∧ (false = false ∧ (false = false ∧ (false = false ∧ (((!(Option.isNone t5)) = false → ((!(Option.isNone t5)) = false ∧ ((!(Option.isNone t5)) = false ∧ (true = true ∧ (true = true ∧ (true = true ∧ (true = true ∧ (True ∧ (True ∧ ((True) ∧ ((True) ∧ True) ∧ (.v (.one (.err (some (22 : Int)))) : Tm) = proc_Check.R r ∧ ([] : List Box) = [])))))))))) ∧ ((!(Option.isNone t5)) = true → ((!(Option.isNone t5)) = true ∧ ((!(Option.isNone t5)) = true ∧ (true = true ∧ (true = true ∧ (true = true ∧ (true = true ∧ (True ∧ (True ∧ ((True) ∧ ((True) ∧ True) ∧ (.v (.one (.err (some (22 : Int)))) : Tm) = proc_Check.R r ∧ ([] : List Box) = []))))))))))))))))))))))))) ∧ ((decide (a19 < (30 : Int))) = false → ((decide (a19 < (30 : Int))) = false ∧ ((decide (a19 < (30 : Int))) = false ∧ ((decide (a19 < (30 : Int))) = false ∧ (false = false ∧ (false = false ∧ (false = false ∧ (false = false ∧ (false = false ∧ (false = false ∧ (false = false ∧ (false = false ∧ (false = false ∧ (((!(Option.isNone t5)) = false → ((!(Option.isNone t5)) = false ∧ ((!(Option.isNone t5)) = false ∧ (true = true ∧ (true = true ∧ (true = true ∧ (true = true ∧ (True ∧ (True ∧ ((True) ∧ ((True) ∧ True) ∧ (.v (.one (.err (some (22 : Int)))) : Tm) = proc_Check.R r ∧ ([] : List Box) = [])))))))))) ∧ ((!(Option.isNone t5)) = true → ((!(Option.isNone t5)) = true ∧ ((!(Option.isNone t5)) = true ∧ (true = true ∧ (true = true ∧ (true = true ∧ (true = true ∧ (True ∧ (True ∧ ((True) ∧ ((True) ∧ True) ∧ (.v (.one (.err (some (22 : Int)))) : Tm) = proc_Check.R r ∧ ([] : List Box) = []))))))))))))))))))))))))))))) ∧ ((decide (a19 ≥ (0 : Int))) = false → ((decide (a19 ≥ (0 : Int))) = false ∧ ((decide (a19 ≥ (0 : Int))) = false ∧ ((decide (a19 ≥ (0 : Int))) = false ∧ (false = false ∧ (false = false ∧ (false = false ∧ (false = false ∧ (false = false ∧ (false = false ∧ (false = false ∧ (false = false ∧ (false = false ∧ (false = false ∧ (false = false ∧ (false = false ∧ (false = false ∧ (((!(Option.isNone t5)) = false → ((!(Option.isNone t5)) = false ∧ ((!(Option.isNone t5)) = false ∧ (true = true ∧ (true = true ∧ (true = true ∧ (true = true ∧ (True ∧ (True ∧ ((True) ∧ ((True) ∧ True) ∧ (.v (.one (.err (some (22 : Int)))) : Tm) = proc_Check.R r ∧ ([] : List Box) = [])))))))))) ∧ ((!(Option.isNone t5)) = true → ((!(Option.isNone t5)) = true ∧ ((!(Option.isNone t5)) = true ∧ (true = true ∧ (true = true ∧ (true = true ∧ (true = true ∧ (True ∧ (True ∧ ((True) ∧ ((True) ∧ True) ∧ (.v (.one (.err (some (22 : Int)))) : Tm) = proc_Check.R r ∧ ([] : List Box) = [])))))))))))))))))))))))))))))))))))))))))))))) ∧ ((Option.isNone t6) = false → ((Option.isNone t6) = false ∧ ((Option.isNone t6) = false ∧ ((Option.isNone t6) = false ∧ ((Option.isNone t6) = false ∧ (false = false ∧ (false = false ∧ (false = false ∧ (false = false ∧ (false = false ∧ (false = false ∧ (false = false ∧ (false = false ∧ (false = false ∧ (false = false ∧ (True) ∧ (True) ∧ (((decide (a19 ≥ (0 : Int))) = true → ((decide (a19 ≥ (0 : Int))) = true ∧ (True) ∧ ((decide (a19 ≥ (0 : Int))) = true ∧ (True) ∧ ((decide (a19 ≥ (0 : Int))) = true ∧ (((decide (a19 < (30 : Int))) = true → ((decide (a19 < (30 : Int))) = true ∧ (True) ∧ ((decide (a19 < (30 : Int))) = true ∧ (True) ∧ ((decide (a19 < (30 : Int))) = true ∧ (((decide (a20 ≥ (0 : Int))) = true → ((decide (a20 ≥ (0 : Int))) = true ∧ (True) ∧ ((decide (a20 ≥ (0 : Int))) = true ∧ (True) ∧ ((decide (a20 ≥ (0 : Int))) = true ∧ (((decide (a20 ≤ (4080 : Int))) = true → ((decide (a20 ≤ (4080 : Int))) = true ∧ (True) ∧ ((decide (a20 ≤ (4080 : Int))) = true ∧ ((a17 = false → (a17 = false ∧ (True) ∧ (a17 = false ∧ ((decide (a20 ≤ (4080 : Int))) = true ∧ (a17 = false ∧ ((decide (a20 ≤ (4080 : Int))) = true ∧ (((!(Option.isNone t5)) = false → ((!(Option.isNone t5)) = false ∧ ((!(Option.isNone t5)) = false ∧ (true = true ∧ (true = true ∧ (true = true ∧ (true = true ∧ (True ∧ (True ∧ ((True) ∧ ((True) ∧ True) ∧ (.v (.one (.err (some (22 : Int)))) : Tm) = proc_Check.R r ∧ ([] : List Box) = [])))))))))) ∧ ((!(Option.isNone t5)) = true → ((!(Option.isNone t5)) = true ∧ ((!(Option.isNone t5)) = true ∧ (true = true ∧ (true = true ∧ (true = true ∧ (true = true ∧ (True ∧ (True ∧ ((True) ∧ ((True) ∧ True) ∧ (.v (.one (.err (some (22 : Int)))) : Tm) = proc_Check.R r ∧ ([] : List Box) = []))))))))))))))))) ∧ (a17 = true → (a17 = true ∧ (a17 = true ∧ ((decide (a20 ≤ (4080 : Int))) = true ∧ (a17 = true ∧ ((decide (a20 ≤ (4080 : Int))) = true ∧ (((!(Option.isNone t5)) = false → ((!(Option.isNone t5)) = false ∧ ((!(Option.isNone t5)) = false ∧ (true = true ∧ (true = true ∧ (true = true ∧ (true = true ∧ (True ∧ (True ∧ ((True) ∧ ((True) ∧ True) ∧ (.v (.one (.err (some (22 : Int)))) : Tm) = proc_Check.R r ∧ ([] : List Box) = [])))))))))) ∧ ((!(Option.isNone t5)) = true → ((!(Option.isNone t5)) = true ∧ ((!(Option.isNone t5)) = true ∧ (true = true ∧ (true = true ∧ (true = true ∧ (true = true ∧ (True ∧ (True ∧ ((True) ∧ ((True) ∧ True) ∧ (.v (.one (.err (some (22 : Int)))) : Tm) = proc_Check.R r ∧ ([] : List Box) = []))))))))))))))))))))) ∧ ((decide (a20 ≤ (4080 : Int))) = false → ((decide (a20 ≤ (4080 : Int))) = false ∧ ((decide (a20 ≤ (4080 : Int))) = false ∧ ((decide (a20 ≤ (4080 : Int))) = false ∧ ((decide (a20 ≤ (4080 : Int))) = false ∧ (((!(Option.isNone t5)) = false → ((!(Option.isNone t5)) = false ∧ ((!(Option.isNone t5)) = false ∧ (true = true ∧ (true = true ∧ (true = true ∧ (true = true ∧ (True ∧ (True ∧ ((True) ∧ ((True) ∧ True) ∧ (.v (.one (.err (some (22 : Int)))) : Tm) = proc_Check.R r ∧ ([] : List Box) = [])))))))))) ∧ ((!(Option.isNone t5)) = true → ((!(Option.isNone t5)) = true ∧ ((!(Option.isNone t5)) = true ∧ (true = true ∧ (true = true ∧ (true = true ∧ (true = true ∧ (True ∧ (True ∧ ((True) ∧ ((True) ∧ True) ∧ (.v (.one (.err (some (22 : Int)))) : Tm) = proc_Check.R r ∧ ([] : List Box) = []))))))))))))))))))))) ∧ ((decide (a20 ≥ (0 : Int))) = false → ((decide (a20 ≥ (0 : Int))) = false ∧ ((decide (a20 ≥ (0 : Int))) = false ∧ ((decide (a20 ≥ (0 : Int))) = false ∧ (false = false ∧ (false = false ∧ (false = false ∧ (false = false ∧ (false = false ∧ (((!(Option.isNone t5)) = false → ((!(Option.isNone t5)) = false ∧ ((!(Option.isNone t5)) = false ∧ (true = true ∧ (true = true ∧ (true = true ∧ (true = true ∧ (True ∧ (True ∧ ((True) ∧ ((True) ∧ True) ∧ (.v (.one (.err (some (22 : Int)))) : Tm) = proc_Check.R r ∧ ([] : List Box) = [])))))))))) ∧ ((!(Option.isNone t5)) = true → ((!(Option.isNone t5)) = true ∧ ((!(Option.isNone t5)) = true ∧ (true = true ∧ (true = true ∧ (true = true ∧ (true = true ∧ (True ∧ (True ∧ ((True) ∧ ((True) ∧ True) ∧ (.v (.one (.err (some (22 : Int)))) : Tm) = proc_Check.R r ∧ ([] : List Box) = []))))))))))))))))))))))))) ∧ ((decide (a19 < (30 : Int))) = false → ((decide (a19 < (30 : Int))) = false ∧ ((decide (a19 < (30 : Int))) = false ∧ ((decide (a19 < (30 : Int))) = false ∧ (false = false ∧ (false = false ∧ (false = false ∧ (false = false ∧ (false = false ∧ (false = false ∧ (false = false ∧ (false = false ∧ (false = false ∧ (((!(Option.isNone t5)) = false → ((!(Option.isNone t5)) = false ∧ ((!(Option.isNone t5)) = false ∧ (true = true ∧ (true = true ∧ (true = true ∧ (true = true ∧ (True ∧ (True ∧ ((True) ∧ ((True) ∧ True) ∧ (.v (.one (.err (some (22 : Int)))) : Tm) = proc_Check.R r ∧ ([] : List Box) = [])))))))))) ∧ ((!(Option.isNone t5)) = true → ((!(Option.isNone t5)) = true ∧ ((!(Option.isNone t5)) = true ∧ (true = true ∧ (true = true ∧ (true = true ∧ (true = true ∧ (True ∧ (True ∧ ((True) ∧ ((True) ∧ True) ∧ (.v (.one (.err (some (22 : Int)))) : Tm) = proc_Check.R r ∧ ([] : List Box) = []))))))))))))))))))))))))))))) ∧ ((decide (a19 ≥ (0 : Int))) = false → ((decide (a19 ≥ (0 : Int))) = false ∧ ((decide (a19 ≥ (0 : Int))) = false ∧ ((decide (a19 ≥ (0 : Int))) = false ∧ (false = false ∧ (false = false ∧ (false = false ∧ (false = false ∧ (false = false ∧ (false = false ∧ (false = false ∧ (false = false ∧ (false = false ∧ (false = false ∧ (false = false ∧ (false = false ∧ (false = false ∧ (((!(Option.isNone t5)) = false → ((!(Option.isNone t5)) = false ∧ ((!(Option.isNone t5)) = false ∧ (true = true ∧ (true = true ∧ (true = true ∧ (true = true ∧ (True ∧ (True ∧ ((True) ∧ ((True) ∧ True) ∧ (.v (.one (.err (some (22 : Int)))) : Tm) = proc_Check.R r ∧ ([] : List Box) = [])))))))))) ∧ ((!(Option.isNone t5)) = true → ((!(Option.isNone t5)) = true ∧ ((!(Option.isNone t5)) = true ∧ (true = true ∧ (true = true ∧ (true = true ∧ (true = true ∧ (True ∧ (True ∧ ((True) ∧ ((True) ∧ True) ∧ (.v (.one (.err (some (22 : Int)))) : Tm) = proc_Check.R r ∧ ([] : List Box) = [])))))))))))))))))))))))))))))))))))))))))))))))))))) ∧ ((Option.isNone t3) = false → ((Option.isNone t3) = false ∧ ((Option.isNone t3) = false ∧ ((Option.isNone t3) = false ∧ ((Option.isNone t3) = false ∧ (True) ∧ (∃ t64 : (Option Int), (Fun cfg 19 [.agg [.row 16 (.int .u32) a3, .c (.sc (.int .u32 a4)), .c (.sc (.int .u32 a5)), .row 4 (.int .u64) a6]] [] (regs_Check.R t64) [] ∧ True) ∧ (True) ∧ (((Option.isNone t64) = true → ((Option.isNone t64) = true ∧ (True) ∧ ((Option.isNone t64) = true ∧ (∃ t66 : (Option Int), (Fun cfg 20 [.agg [.row 8 (.int .i64) a7]] [] (fds_Check.R t66) [] ∧ True) ∧ ((Option.isNone t64) = true ∧ (True) ∧ ((Option.isNone t64) = true ∧ (((Option.isNone t66) = true → ((Option.isNone t66) = true ∧ (True) ∧ ((Option.isNone t66) = true ∧ (∃ t68 : (Option Int), (Fun cfg 21 [.agg [.c (.sc (.int .u32 a8)), .c (.sc (.int .u32 a9)), .row 32 (.int .u32) a10]] [] (sig_Check.R t68) [] ∧ True) ∧ ((Option.isNone t66) = true ∧ (True) ∧ ((Option.isNone t66) = true ∧ (((Option.isNone t68) = true → ((Option.isNone t68) = true ∧ (True) ∧ ((Option.isNone t68) = true ∧ (∃ t70 : (Option Int), (Fun cfg 22 [.agg [.c (.sc (.int .i64 a11)), .c (.sc (.bool a12)), .c (.sc (.int .u32 a13)), .c (.sc (.int .i64 a14)), .c (.sc (.int .i64 a15)), .c (.sc (.bool a16))]] [] (trace_Check.R t70) [] ∧ True) ∧ ((Option.isNone t68) = true ∧ (True) ∧ ((Option.isNone t68) = true ∧ (True) ∧ (True) ∧ (((decide (a19 ≥ (0 : Int))) = true → ((decide (a19 ≥ (0 : Int))) = true ∧ (True) ∧ ((decide (a19 ≥ (0 : Int))) = true ∧ (True) ∧ ((decide (a19 ≥ (0 : Int))) = true ∧ (((decide (a19 < (30 : Int))) = true → ((decide (a19 < (30 : Int))) = true ∧ (True) ∧ ((decide (a19 < (30 : Int))) = true ∧ (True) ∧ ((decide (a19 < (30 : Int))) = true ∧ (((decide (a20 ≥ (0 : Int))) = true → ((decide (a20 ≥ (0 : Int))) = true ∧ (True) ∧ ((decide (a20 ≥ (0 : Int))) = true ∧ (True) ∧ ((decide (a20 ≥ (0 : Int))) = true ∧ (((decide (a20 ≤ (4080 : Int))) = true → ((decide (a20 ≤ (4080 : Int))) = true ∧ (True) ∧ ((decide (a20 ≤ (4080 : Int))) = true ∧ ((a17 = false → (a17 = false ∧ (True) ∧ (a17 = false ∧ ((decide (a20 ≤ (4080 : Int))) = true ∧ (a17 = false ∧ ((decide (a20 ≤ (4080 : Int))) = true ∧ (true = true ∧ (true = true ∧ (true = true ∧ (true = true ∧ (true = true ∧ (true = true ∧ (true = true ∧ (True ∧ (True ∧ ((True) ∧ ((True) ∧ True) ∧ (.v (.one (.err (some (22 : Int)))) : Tm) = proc_Check.R r ∧ ([] : List Box) = [])))))))))))))))) ∧ (a17 = true → (a17 = true ∧ (a17 = true ∧ ((decide (a20 ≤ (4080 : Int))) = true ∧ (a17 = true ∧ ((decide (a20 ≤ (4080 : Int))) = true ∧ (true = true ∧ (true = true ∧ (true = true ∧ (true = true ∧ (true = true ∧ (true = true ∧ (true = true ∧ (True ∧ (True ∧ ((True) ∧ ((True) ∧ True) ∧ (.v (.one (.err (some (22 : Int)))) : Tm) = proc_Check.R r ∧ ([] : List Box) = [])))))))))))))))))))) ∧ ((decide (a20 ≤ (4080 : Int))) = false → ((decide (a20 ≤ (4080 : Int))) = false ∧ ((decide (a20 ≤ (4080 : Int))) = false ∧ ((decide (a20 ≤ (4080 : Int))) = false ∧ ((decide (a20 ≤ (4080 : Int))) = false ∧ (true = true ∧ (true = true ∧ (true = true ∧ (true = true ∧ (true = true ∧ (true = true ∧ (true = true ∧ (True ∧ (True ∧ ((True) ∧ ((True) ∧ True) ∧ (.v (.one (.err (some (22 : Int)))) : Tm) = proc_Check.R r ∧ ([] : List Box) = [])))))))))))))))))))) ∧ ((decide (a20 ≥ (0 : Int))) = false → ((decide (a20 ≥ (0 : Int))) = false ∧ ((decide (a20 ≥ (0 : Int))) = false ∧ ((decide (a20 ≥ (0 : Int))) = false ∧ (false = false ∧ (false = false ∧ (false = false ∧ (false = false ∧ (false = false ∧ (true = true ∧ (true = true ∧ (true = true ∧ (true = true ∧ (true = true ∧ (true = true ∧ (true = true ∧ (True ∧ (True ∧ ((True) ∧ ((True) ∧ True) ∧ (.v (.one (.err (some (22 : Int)))) : Tm) = proc_Check.R r ∧ ([] : List Box) = [])))))))))))))))))))))))) ∧ ((decide (a19 < (30 : Int))) = false → ((decide (a19 < (30 : Int))) = false ∧ ((decide (a19 < (30 : Int))) = false ∧ ((decide (a19 < (30 : Int))) = false ∧ (false = false ∧ (false = false ∧ (false = false ∧ (false = false ∧ (false = false ∧ (false = false ∧ (false = false ∧ (false = false ∧ (false = false ∧ (true = true ∧ (true = true ∧ (true = true ∧ (true = true ∧ (true = true ∧ (true = true ∧ (true = true ∧ (True ∧ (True ∧ ((True) ∧ ((True) ∧ True) ∧ (.v (.one (.err (some (22 : Int)))) : Tm) = proc_Check.R r ∧ ([] : List Box) = [])))))))))))))))))))))))))))) ∧ ((decide (a19 ≥ (0 : Int))) = false → ((decide (a19 ≥ (0 : Int))) = false ∧ ((decide (a19 ≥ (0 : Int))) = false ∧ ((decide (a19 ≥ (0 : Int))) = false ∧ (false = false ∧ (false = false ∧ (false = false ∧ (false = false ∧ (false = false ∧ (false = false ∧ (false = false ∧ (false = false ∧ (false = false ∧ (false = false ∧ (false = false ∧ (false = false ∧ (false = false ∧ (true = true ∧ (true = true ∧ (true = true ∧ (true = true ∧ (true = true ∧ (true = true ∧ (true = true ∧ (True ∧ (True ∧ ((True) ∧ ((True) ∧ True) ∧ (.v (.one (.err (some (22 : Int)))) : Tm) = proc_Check.R r ∧ ([] : List Box) = [])))))))))))))))))))))))))))))))))) ∧ ((Option.isNone t68) = false → ((Option.isNone t68) = false ∧ ((Option.isNone t68) = false ∧ ((Option.isNone t68) = false ∧ ((Option.isNone t68) = false ∧ (True) ∧ (True) ∧ (((decide (a19 ≥ (0 : Int))) = true → ((decide (a19 ≥ (0 : Int))) = true ∧ (True) ∧ ((decide (a19 ≥ (0 : Int))) = true ∧ (True) ∧ ((decide (a19 ≥ (0 : Int))) = true ∧ (((decide (a19 < (30 : Int))) = true → ((decide (a19 < (30 : Int))) = true ∧ (True) ∧ ((decide (a19 < (30 : Int))) = true ∧ (True) ∧ ((decide (a19 < (30 : Int))) = true ∧ (((decide (a20 ≥ (0 : Int))) = true → ((decide (a20 ≥ (0 : Int))) = true ∧ (True) ∧ ((decide (a20 ≥ (0 : Int))) = true ∧ (True) ∧ ((decide (a20 ≥ (0 : Int))) = true ∧ (((decide (a20 ≤ (4080 : Int))) = true → ((decide (a20 ≤ (4080 : Int))) = true ∧ (True) ∧ ((decide (a20 ≤ (4080 : Int))) = true ∧ ((a17 = false → (a17 = false ∧ (True) ∧ (a17 = false ∧ ((decide (a20 ≤ (4080 : Int))) = true ∧ (a17 = false ∧ ((decide (a20 ≤ (4080 : Int))) = true ∧ (true = true ∧ (true = true ∧ (true = true ∧ (true = true ∧ (true = true ∧ (true = true ∧ (true = true ∧ (True ∧ (True ∧ ((True) ∧ ((True) ∧ True) ∧ (.v (.one (.err (some (22 : Int)))) : Tm) = proc_Check.R r ∧ ([] : List Box) = [])))))))))))))))) ∧ (a17 = true → (a17 = true ∧ (a17 = true ∧ ((decide (a20 ≤ (4080 : Int))) = true ∧ (a17 = true ∧ ((decide (a20 ≤ (4080 : Int))) = true ∧ (true = true ∧ (true = true ∧ (true = true ∧ (true = true ∧ (true = true ∧ (true = true ∧ (true = true ∧ (True ∧ (True ∧ ((True) ∧ ((True) ∧ True) ∧ (.v (.one (.err (some (22 : Int)))) : Tm) = proc_Check.R r ∧ ([] : List Box) = [])))))))))))))))))))) ∧ ((decide (a20 ≤ (4080 : Int))) = false → ((decide (a20 ≤ (4080 : Int))) = false ∧ ((decide (a20 ≤ (4080 : Int))) = false ∧ ((decide (a20 ≤ (4080 : Int))) = false ∧ ((decide (a20 ≤ (4080 : Int))) = false ∧ (true = true ∧ (true = true ∧ (true = true ∧ (true = true ∧ (true = true ∧ (true = true ∧ (true = true ∧ (True ∧ (True ∧ ((True) ∧ ((True) ∧ True) ∧ (.v (.one (.err (some (22 : Int)))) : Tm) = proc_Check.R r ∧ ([] : List Box) = [])))))))))))))))))))) ∧ ((decide (a20 ≥ (0 : Int))) = false → ((decide (a20 ≥ (0 : Int))) = false ∧ ((decide (a20 ≥ (0 : Int))) = false ∧ ((decide (a20 ≥ (0 : Int))) = false ∧ (false = false ∧ (false = false ∧ (false = false ∧ (false = false ∧ (false = false ∧ (true = true ∧ (true = true ∧ (true = true ∧ (true = true ∧ (true = true ∧ (true = true ∧ (true = true ∧ (True ∧ (True ∧ ((True) ∧ ((True) ∧ True) ∧ (.v (.one (.err (some (22 : Int)))) : Tm) = proc_Check.R r ∧ ([] : List Box) = [])))))))))))))))))))))))) ∧ ((decide (a19 < (30 : Int))) = false → ((decide (a19 < (30 : Int))) = false ∧ ((decide (a19 < (30 : Int))) = false ∧ ((decide (a19 < (30 : Int))) = false ∧ (false = false ∧ (false = false ∧ (false = false ∧ (false = false ∧ (false = false ∧ (false = false ∧ (false = false ∧ (false = false ∧ (false = false ∧ (true = true ∧ (true = true ∧ (true = true ∧ (true = true ∧ (true = true ∧ (true = true ∧ (true = true ∧ (True ∧ (True ∧ ((True) ∧ ((True) ∧ True) ∧ (.v (.one (.err (some (22 : Int)))) : Tm) = proc_Check.R r ∧ ([] : List Box) = [])))))))))))))))))))))))))))) ∧ ((decide (a19 ≥ (0 : Int))) = false → ((decide (a19 ≥ (0 : Int))) = false ∧ ((decide (a19 ≥ (0 : Int))) = false ∧ ((decide (a19 ≥ (0 : Int))) = false ∧ (false = false ∧ (false = false ∧ (false = false ∧ (false = false ∧ (false = false ∧ (false = false ∧ (false = false ∧ (false = false ∧ (false = false ∧ (false = false ∧ (false = false ∧ (false = false ∧ (false = false ∧ (true = true ∧ (true = true ∧ (true = true ∧ (true = true ∧ (true = true ∧ (true = true ∧ (true = true ∧ (True ∧ (True ∧ ((True) ∧ ((True) ∧ True) ∧ (.v (.one (.err (some (22 : Int)))) : Tm) = proc_Check.R r ∧ ([] : List Box) = [])))))))))))))))))))))))))))))))))))))))) ∧ ((Option.isNone t66) = false → ((Option.isNone t66) = false ∧ ((Option.isNone t66) = false ∧ ((Option.isNone t66) = false ∧ ((Option.isNone t66) = false ∧ (false = false ∧ (false = false ∧ (false = false ∧ (false = false ∧ (false = false ∧ (True) ∧ (True) ∧ (((decide (a19 ≥ (0 : Int))) = true → ((decide (a19 ≥ (0 : Int))) = true ∧ (True) ∧ ((decide (a19 ≥ (0 : Int))) = true ∧ (True) ∧ ((decide (a19 ≥ (0 : Int))) = true ∧ (((decide (a19 < (30 : Int))) = true → ((decide (a19 < (30 : Int))) = true ∧ (True) ∧ ((decide (a19 < (30 : Int))) = true ∧ (True) ∧ ((decide (a19 < (30 : Int))) = true ∧ (((decide (a20 ≥ (0 : Int))) = true → ((decide (a20 ≥ (0 : Int))) = true ∧ (True) ∧ ((decide (a20 ≥ (0 : Int))) = true ∧ (True) ∧ ((decide (a20 ≥ (0 : Int))) = true ∧ (((decide (a20 ≤ (4080 : Int))) = true → ((decide (a20 ≤ (4080 : Int))) = true ∧ (True) ∧ ((decide (a20 ≤ (4080 : Int))) = true ∧ ((a17 = false → (a17 = false ∧ (True) ∧ (a17 = false ∧ ((decide (a20 ≤ (4080 : Int))) = true ∧ (a17 = false ∧ ((decide (a20 ≤ (4080 : Int))) = true ∧ (true = true ∧ (true = true ∧ (true = true ∧ (true = true ∧ (true = true ∧ (true = true ∧ (true = true ∧ (True ∧ (True ∧ ((True) ∧ ((True) ∧ True) ∧ (.v (.one (.err (some (22 : Int)))) : Tm) = proc_Check.R r ∧ ([] : List Box) = [])))))))))))))))) ∧ (a17 = true → (a17 = true ∧ (a17 = true ∧ ((decide (a20 ≤ (4080 : Int))) = true ∧ (a17 = true ∧ ((decide (a20 ≤ (4080 : Int))) = true ∧ (true = true ∧ (true = true ∧ (true = true ∧ (true = true ∧ (true = true ∧ (true = true ∧ (true = true ∧ (True ∧ (True ∧ ((True) ∧ ((True) ∧ True) ∧ (.v (.one (.err (some (22 : Int)))) : Tm) = proc_Check.R r ∧ ([] : List Box) = [])))))))))))))))))))) ∧ ((decide (a20 ≤ (4080 : Int))) = false → ((decide (a20 ≤ (4080 : Int))) = false ∧ ((decide (a20 ≤ (4080 : Int))) = false ∧ ((decide (a20 ≤ (4080 : Int))) = false ∧ ((decide (a20 ≤ (4080 : Int))) = false ∧ (true = true ∧ (true = true ∧ (true = true ∧ (true = true ∧ (true = true ∧ (true = true ∧ (true = true ∧ (True ∧ (True ∧ ((True) ∧ ((True) ∧ True) ∧ (.v (.one (.err (some (22 : Int)))) : Tm) = proc_Check.R r ∧ ([] : List Box) = [])))))))))))))))))))) ∧ ((decide (a20 ≥ (0 : Int))) = false → ((decide (a20 ≥ (0 : Int))) = false ∧ ((decide (a20 ≥ (0 : Int))) = false ∧ ((decide (a20 ≥ (0 : Int))) = false ∧ (false = false ∧ (false = false ∧ (false = false ∧ (false = false ∧ (false = false ∧ (true = true ∧ (true = true ∧ (true = true ∧ (true = true ∧ (true = true ∧ (true = true ∧ (true = true ∧ (True ∧ (True ∧ ((True) ∧ ((True) ∧ True) ∧ (.v (.one (.err (some (22 : Int)))) : Tm) = proc_Check.R r ∧ ([] : List Box) = [])))))))))))))))))))))))) ∧ ((decide (a19 < (30 : Int))) = false → ((decide (a19 < (30 : Int))) = false ∧ ((decide (a19 < (30 : Int))) = false ∧ ((decide (a19 < (30 : Int))) = false ∧ (false = false ∧ (false = false ∧ (false = false ∧ (false = false ∧ (false = false ∧ (false = false ∧ (false = false ∧ (false = false ∧ (false = false ∧ (true = true ∧ (true = true ∧ (true = true ∧ (true = true ∧ (true = true ∧ (true = true ∧ (true = true ∧ (True ∧ (True ∧ ((True) ∧ ((True) ∧ True) ∧ (.v (.one (.err (some (22 : Int)))) : Tm) = proc_Check.R r ∧ ([] : List Box) = [])))))))))))))))))))))))))))) ∧ ((decide (a19 ≥ (0 : Int))) = false → ((decide (a19 ≥ (0 : Int))) = false ∧ ((decide (a19 ≥ (0 : Int))) = false ∧ ((decide (a19 ≥ (0 : Int))) = false ∧ (false = false ∧ (false = false ∧ (false = false ∧ (false = false ∧ (false = false ∧ (false = false ∧ (false = false ∧ (false = false ∧ (false = false ∧ (false = false ∧ (false = false ∧ (false = false ∧ (false = false ∧ (true = true ∧ (true = true ∧ (true = true ∧ (true = true ∧ (true = true ∧ (true = true ∧ (true = true ∧ (True ∧ (True ∧ ((True) ∧ ((True) ∧ True) ∧ (.v (.one (.err (some (22 : Int)))) : Tm) = proc_Check.R r ∧ ([] : List Box) = []))))))))))))))))))))))))))))))))))))))))))))) ∧ ((Option.isNone t64) = false → ((Option.isNone t64) = false ∧ ((Option.isNone t64) = false ∧ ((Option.isNone t64) = false ∧ ((Option.isNone t64) = false ∧ (false = false ∧ (false = false ∧ (false = false ∧ (false = false ∧ (false = false ∧ (false = false ∧ (false = false ∧ (false = false ∧ (false = false ∧ (false = false ∧ (True) ∧ (True) ∧ (((decide (a19 ≥ (0 : Int))) = true → ((decide (a19 ≥ (0 : Int))) = true ∧ (True) ∧ ((decide (a19 ≥ (0 : Int))) = true ∧ (True) ∧ ((decide (a19 ≥ (0 : Int))) = true ∧ (((decide (a19 < (30 : Int))) = true → ((decide (a19 < (30 : Int))) = true ∧ (True) ∧ ((decide (a19 < (30 : Int))) = true ∧ (True) ∧ ((decide (a19 < (30 : Int))) = true ∧ (((decide (a20 ≥ (0 : Int))) = true → ((decide (a20 ≥ (0 : Int))) = true ∧ (True) ∧ ((decide (a20 ≥ (0 : Int))) = true ∧ (True) ∧ ((decide (a20 ≥ (0 : Int))) = true ∧ (((decide (a20 ≤ (4080 : Int))) = true → ((decide (a20 ≤ (4080 : Int))) = true ∧ (True) ∧ ((decide (a20 ≤ (4080 : Int))) = true ∧ ((a17 = false → (a17 = false ∧ (True) ∧ (a17 = false ∧ ((decide (a20 ≤ (4080 : Int))) = true ∧ (a17 = false ∧ ((decide (a20 ≤ (4080 : Int))) = true ∧ (true = true ∧ (true = true ∧ (true = true ∧ (true = true ∧ (true = true ∧ (true = true ∧ (true = true ∧ (True ∧ (True ∧ ((True) ∧ ((True) ∧ True) ∧ (.v (.one (.err (some (22 : Int)))) : Tm) = proc_Check.R r ∧ ([] : List Box) = [])))))))))))))))) ∧ (a17 = true → (a17 = true ∧ (a17 = true ∧ ((decide (a20 ≤ (4080 : Int))) = true ∧ (a17 = true ∧ ((decide (a20 ≤ (4080 : Int))) = true ∧ (true = true ∧ (true = true ∧ (true = true ∧ (true = true ∧ (true = true ∧ (true = true ∧ (true = true ∧ (True ∧ (True ∧ ((True) ∧ ((True) ∧ True) ∧ (.v (.one (.err (some (22 : Int)))) : Tm) = proc_Check.R r ∧ ([] : List Box) = [])))))))))))))))))))) ∧ ((decide (a20 ≤ (4080 : Int))) = false → ((decide (a20 ≤ (4080 : Int))) = false ∧ ((decide (a20 ≤ (4080 : Int))) = false ∧ ((decide (a20 ≤ (4080 : Int))) = false ∧ ((decide (a20 ≤ (4080 : Int))) = false ∧ (true = true ∧ (true = true ∧ (true = true ∧ (true = true ∧ (true = true ∧ (true = true ∧ (true = true ∧ (True ∧ (True ∧ ((True) ∧ ((True) ∧ True) ∧ (.v (.one (.err (some (22 : Int)))) : Tm) = proc_Check.R r ∧ ([] : List Box) = [])))))))))))))))))))) ∧ ((decide (a20 ≥ (0 : Int))) = false → ((decide (a20 ≥ (0 : Int))) = false ∧ ((decide (a20 ≥ (0 : Int))) = false ∧ ((decide (a20 ≥ (0 : Int))) = false ∧ (false = false ∧ (false = false ∧ (false = false ∧ (false = false ∧ (false = false ∧ (true = true ∧ (true = true ∧ (true = true ∧ (true = true ∧ (true = true ∧ (true = true ∧ (true = true ∧ (True ∧ (True ∧ ((True) ∧ ((True) ∧ True) ∧ (.v (.one (.err (some (22 : Int)))) : Tm) = proc_Check.R r ∧ ([] : List Box) = [])))))))))))))))))))))))) ∧ ((decide (a19 < (30 : Int))) = false → ((decide (a19 < (30 : Int))) = false ∧ ((decide (a19 < (30 : Int))) = false ∧ ((decide (a19 < (30 : Int))) = false ∧ (false = false ∧ (false = false ∧ (false = false ∧ (false = false ∧ (false = false ∧ (false = false ∧ (false = false ∧ (false = false ∧ (false = false ∧ (true = true ∧ (true = true ∧ (true = true ∧ (true = true ∧ (true = true ∧ (true = true ∧ (true = true ∧ (True ∧ (True ∧ ((True) ∧ ((True) ∧ True) ∧ (.v (.one (.err (some (22 : Int)))) : Tm) = proc_Check.R r ∧ ([] : List Box) = [])))))))))))))))))))))))))))) ∧ ((decide (a19 ≥ (0 : Int))) = false → ((decide (a19 ≥ (0 : Int))) = false ∧ ((decide (a19 ≥ (0 : Int))) = false ∧ ((decide (a19 ≥ (0 : Int))) = false ∧ (false = false ∧ (false = false ∧ (false = false ∧ (false = false ∧ (false = false ∧ (false = false ∧ (false = false ∧ (false = false ∧ (false = false ∧ (false = false ∧ (false = false ∧ (false = false ∧ (false = false ∧ (true = true ∧ (true = true ∧ (true = true ∧ (true = true ∧ (true = true ∧ (true = true ∧ (true = true ∧ (True ∧ (True ∧ ((True) ∧ ((True) ∧ True) ∧ (.v (.one (.err (some (22 : Int)))) : Tm) = proc_Check.R r ∧ ([] : List Box) = []))))))))))))))))))))))))))))))))))))))))))))))))))))))))) ∧ ((Option.isNone t1) = false → ((Option.isNone t1) = false ∧ ((Option.isNone t1) = false ∧ ((Option.isNone t1) = false ∧ ((Option.isNone t1) = false ∧ (false = false ∧ (false = false ∧ (false = false ∧ (false = false ∧ (false = false ∧ (True) ∧ (∃ t91 : (Option Int), (Fun cfg 19 [.agg [.row 16 (.int .u32) a3, .c (.sc (.int .u32 a4)), .c (.sc (.int .u32 a5)), .row 4 (.int .u64) a6]] [] (regs_Check.R t91) [] ∧ True) ∧ (True) ∧ (((Option.isNone t91) = true → ((Option.isNone t91) = true ∧ (True) ∧ ((Option.isNone t91) = true ∧ (∃ t93 : (Option Int), (Fun cfg 20 [.agg [.row 8 (.int .i64) a7]] [] (fds_Check.R t93) [] ∧ True) ∧ ((Option.isNone t91) = true ∧ (True) ∧ ((Option.isNone t91) = true ∧ (((Option.isNone t93) = true → ((Option.isNone t93) = true ∧ (True) ∧ ((Option.isNone t93) = true ∧ (∃ t95 : (Option Int), (Fun cfg 21 [.agg [.c (.sc (.int .u32 a8)), .c (.sc (.int .u32 a9)), .row 32 (.int .u32) a10]] [] (sig_Check.R t95) [] ∧ True) ∧ ((Option.isNone t93) = true ∧ (True) ∧ ((Option.isNone t93) = true ∧ (((Option.isNone t95) = true → ((Option.isNone t95) = true ∧ (True) ∧ ((Option.isNone t95) = true ∧ (∃ t97 : (Option Int), (Fun cfg 22 [.agg [.c (.sc (.int .i64 a11)), .c (.sc (.bool a12)), .c (.sc (.int .u32 a13)), .c (.sc (.int .i64 a14)), .c (.sc (.int .i64 a15)), .c (.sc (.bool a16))]] [] (trace_Check.R t97) [] ∧ True) ∧ ((Option.isNone t95) = true ∧ (True) ∧ ((Option.isNone t95) = true ∧ (True) ∧ (True) ∧ (((decide (a19 ≥ (0 : Int))) = true → ((decide (a19 ≥ (0 : Int))) = true ∧ (True) ∧ ((decide (a19 ≥ (0 : Int))) = true ∧ (True) ∧ ((decide (a19 ≥ (0 : Int))) = true ∧ (((decide (a19 < (30 : Int))) = true → ((decide (a19 < (30 : Int))) = true ∧ (True) ∧ ((decide (a19 < (30 : Int))) = true ∧ (True) ∧ ((decide (a19 < (30 : Int))) = true ∧ (((decide (a20 ≥ (0 : Int))) = true → ((decide (a20 ≥ (0 : Int))) = true ∧ (True) ∧ ((decide (a20 ≥ (0 : Int))) = true ∧ (True) ∧ ((decide (a20 ≥ (0 : Int))) = true ∧ (((decide (a20 ≤ (4080 : Int))) = true → ((decide (a20 ≤ (4080 : Int))) = true ∧ (True) ∧ ((decide (a20 ≤ (4080 : Int))) = true ∧ ((a17 = false → (a17 = false ∧ (True) ∧ (a17 = false ∧ ((decide (a20 ≤ (4080 : Int))) = true ∧ (a17 = false ∧ ((decide (a20 ≤ (4080 : Int))) = true ∧ (true = true ∧ (true = true ∧ (true = true ∧ (true = true ∧ (true = true ∧ (true = true ∧ (true = true ∧ (True ∧ (True ∧ ((True) ∧ ((True) ∧ True) ∧ (.v (.one (.err (some (22 : Int)))) : Tm) = proc_Check.R r ∧ ([] : List Box) = [])))))))))))))))) ∧ (a17 = true → (a17 = true ∧ (a17 = true ∧ ((decide (a20 ≤ (4080 : Int))) = true ∧ (a17 = true ∧ ((decide (a20 ≤ (4080 : Int))) = true ∧ (true = true ∧ (true = true ∧ (true = true ∧ (true = true ∧ (true = true ∧ (true = true ∧ (true = true ∧ (True ∧ (True ∧ ((True) ∧ ((True) ∧ True) ∧ (.v (.one (.err (some (22 : Int)))) : Tm) = proc_Check.R r ∧ ([] : List Box) = [])))))))))))))))))))) ∧ ((decide (a20 ≤ (4080 : Int))) = false → ((decide (a20 ≤ (4080 : Int))) = false ∧ ((decide (a20 ≤ (4080 : Int))) = false ∧ ((decide (a20 ≤ (4080 : Int))) = false ∧ ((decide (a20 ≤ (4080 : Int))) = false ∧ (true = true ∧ (true = true ∧ (true = true ∧ (true = true ∧ (true = true ∧ (true = true ∧ (true = true ∧ (True ∧ (True ∧ ((True) ∧ ((True) ∧ True) ∧ (.v (.one (.err (some (22 : Int)))) : Tm) = proc_Check.R r ∧ ([] : List Box) = [])))))))))))))))))))) ∧ ((decide (a20 ≥ (0 : Int))) = false → ((decide (a20 ≥ (0 : Int))) = false ∧ ((decide (a20 ≥ (0 : Int))) = false ∧ ((decide (a20 ≥ (0 : Int))) = false ∧ (false = false ∧ (false = false ∧ (false = false ∧ (false = false ∧ (false = false ∧ (true = true ∧ (true = true ∧ (true = true ∧ (true = true ∧ (true = true ∧ (true = true ∧ (true = true ∧ (True ∧ (True ∧ ((True) ∧ ((True) ∧ True) ∧ (.v (.one (.err (some (22 : Int)))) : Tm) = proc_Check.R r ∧ ([] : List Box) = [])))))))))))))))))))))))) ∧ ((decide (a19 < (30 : Int))) = false → ((decide (a19 < (30 : Int))) = false ∧ ((decide (a19 < (30 : Int))) = false ∧ ((decide (a19 < (30 : Int))) = false ∧ (false = false ∧ (false = false ∧ (false = false ∧ (false = false ∧ (false = false ∧ (false = false ∧ (false = false ∧ (false = false ∧ (false = false ∧ (true = true ∧ (true = true ∧ (true = true ∧ (true = true ∧ (true = true ∧ (true = true ∧ (true = true ∧ (True ∧ (True ∧ ((True) ∧ ((True) ∧ True) ∧ (.v (.one (.err (some (22 : Int)))) : Tm) = proc_Check.R r ∧ ([] : List Box) = [])))))))))))))))))))))))))))) ∧ ((decide (a19 ≥ (0 : Int))) = false → ((decide (a19 ≥ (0 : Int))) = false ∧ ((decide (a19 ≥ (0 : Int))) = false ∧ ((decide (a19 ≥ (0 : Int))) = false ∧ (false = false ∧ (false = false ∧ (false = false ∧ (false = false ∧ (false = false ∧ (false = false ∧ (false = false ∧ (false = false ∧ (false = false ∧ (false = false ∧ (false = false ∧ (false = false ∧ (false = false ∧ (true = true ∧ (true = true ∧ (true = true ∧ (true = true ∧ (true = true ∧ (true = true ∧ (true = true ∧ (True ∧ (True ∧ ((True) ∧ ((True) ∧ True) ∧ (.v (.one (.err (some (22 : Int)))) : Tm) = proc_Check.R r ∧ ([] : List Box) = [])))))))))))))))))))))))))))))))))) ∧ ((Option.isNone t95) = false → ((Option.isNone t95) = false ∧ ((Option.isNone t95) = false ∧ ((Option.isNone t95) = false ∧ ((Option.isNone t95) = false ∧ (True) ∧ (True) ∧ (((decide (a19 ≥ (0 : Int))) = true → ((decide (a19 ≥ (0 : Int))) = true ∧ (True) ∧ ((decide (a19 ≥ (0 : Int))) = true ∧ (True) ∧ ((decide (a19 ≥ (0 : Int))) = true ∧ (((decide (a19 < (30 : Int))) = true → ((decide (a19 < (30 : Int))) = true ∧ (True) ∧ ((decide (a19 < (30 : Int))) = true ∧ (True) ∧ ((decide (a19 < (30 : Int))) = true ∧ (((decide (a20 ≥ (0 : Int))) = true → ((decide (a20 ≥ (0 : Int))) = true ∧ (True) ∧ ((decide (a20 ≥ (0 : Int))) = true ∧ (True) ∧ ((decide (a20 ≥ (0 : Int))) = true ∧ (((decide (a20 ≤ (4080 : Int))) = true → ((decide (a20 ≤ (4080 : Int))) = true ∧ (True) ∧ ((decide (a20 ≤ (4080 : Int))) = true ∧ ((a17 = false → (a17 = false ∧ (True) ∧ (a17 = false ∧ ((decide (a20 ≤ (4080 : Int))) = true ∧ (a17 = false ∧ ((decide (a20 ≤ (4080 : Int))) = true ∧ (true = true ∧ (true = true ∧ (true = true ∧ (true = true ∧ (true = true ∧ (true = true ∧ (true = true ∧ (True ∧ (True ∧ ((True) ∧ ((True) ∧ True) ∧ (.v (.one (.err (some (22 : Int)))) : Tm) = proc_Check.R r ∧ ([] : List Box) = [])))))))))))))))) ∧ (a17 = true → (a17 = true ∧ (a17 = true ∧ ((decide (a20 ≤ (4080 : Int))) = true ∧ (a17 = true ∧ ((decide (a20 ≤ (4080 : Int))) = true ∧ (true = true ∧ (true = true ∧ (true = true ∧ (true = true ∧ (true = true ∧ (true = true ∧ (true = true ∧ (True ∧ (True ∧ ((True) ∧ ((True) ∧ True) ∧ (.v (.one (.err (some (22 : Int)))) : Tm) = proc_Check.R r ∧ ([] : List Box) = [])))))))))))))))))))) ∧ ((decide (a20 ≤ (4080 : Int))) = false → ((decide (a20 ≤ (4080 : Int))) = false ∧ ((decide (a20 ≤ (4080 : Int))) = false ∧ ((decide (a20 ≤ (4080 : Int))) = false ∧ ((decide (a20 ≤ (4080 : Int))) = false ∧ (true = true ∧ (true = true ∧ (true = true ∧ (true = true ∧ (true = true ∧ (true = true ∧ (true = true ∧ (True ∧ (True ∧ ((True) ∧ ((True) ∧ True) ∧ (.v (.one (.err (some (22 : Int)))) : Tm) = proc_Check.R r ∧ ([] : List Box) = [])))))))))))))))))))) ∧ ((decide (a20 ≥ (0 : Int))) = false → ((decide (a20 ≥ (0 : Int))) = false ∧ ((decide (a20 ≥ (0 : Int))) = false ∧ ((decide (a20 ≥ (0 : Int))) = false ∧ (false = false ∧ (false = false ∧ (false = false ∧ (false = false ∧ (false = false ∧ (true = true ∧ (true = true ∧ (true = true ∧ (true = true ∧ (true = true ∧ (true = true ∧ (true = true ∧ (True ∧ (True ∧ ((True) ∧ ((True) ∧ True) ∧ (.v (.one (.err (some (22 : Int)))) : Tm) = proc_Check.R r ∧ ([] : List Box) = [])))))))))))))))))))))))) ∧ ((decide (a19 < (30 : Int))) = false → ((decide (a19 < (30 : Int))) = false ∧ ((decide (a19 < (30 : Int))) = false ∧ ((decide (a19 < (30 : Int))) = false ∧ (false = false ∧ (false = false ∧ (false = false ∧ (false = false ∧ (false = false ∧ (false = false ∧ (false = false ∧ (false = false ∧ (false = false ∧ (true = true ∧ (true = true ∧ (true = true ∧ (true = true ∧ (true = true ∧ (true = true ∧ (true = true ∧ (True ∧ (True ∧ ((True) ∧ ((True) ∧ True) ∧ (.v (.one (.err (some (22 : Int)))) : Tm) = proc_Check.R r ∧ ([] : List Box) = [])))))))))))))))))))))))))))) ∧ ((decide (a19 ≥ (0 : Int))) = false → ((decide (a19 ≥ (0 : Int))) = false ∧ ((decide (a19 ≥ (0 : Int))) = false ∧ ((decide (a19 ≥ (0 : Int))) = false ∧ (false = false ∧ (false = false ∧ (false = false ∧ (false = false ∧ (false = false ∧ (false = false ∧ (false = false ∧ (false = false ∧ (false = false ∧ (false = false ∧ (false = false ∧ (false = false ∧ (false = false ∧ (true = true ∧ (true = true ∧ (true = true ∧ (true = true ∧ (true = true ∧ (true = true ∧ (true = true ∧ (True ∧ (True ∧ ((True) ∧ ((True) ∧ True) ∧ (.v (.one (.err (some (22 : Int)))) : Tm) = proc_Check.R r ∧ ([] : List Box) = [])))))))))))))))))))))))))))))))))))))))) ∧ ((Option.isNone t93) = false → ((Option.isNone t93) = false ∧ ((Option.isNone t93) = false ∧ ((Option.isNone t93) = false ∧ ((Option.isNone t93) = false ∧ (false = false ∧ (false = false ∧ (false = false ∧ (false = false ∧ (false = false ∧ (True) ∧ (True) ∧ (((decide (a19 ≥ (0 : Int))) = true → ((decide (a19 ≥ (0 : Int))) = true ∧ (True) ∧ ((decide (a19 ≥ (0 : Int))) = true ∧ (True) ∧ ((decide (a19 ≥ (0 : Int))) = true ∧ (((decide (a19 < (30 : Int))) = true → ((decide (a19 < (30 : Int))) = true ∧ (True) ∧ ((decide (a19 < (30 : Int))) = true ∧ (True) ∧ ((decide (a19 < (30 : Int))) = true ∧ (((decide (a20 ≥ (0 : Int))) = true → ((decide (a20 ≥ (0 : Int))) = true ∧ (True) ∧ ((decide (a20 ≥ (0 : Int))) = true ∧ (True) ∧ ((decide (a20 ≥ (0 : Int))) = true ∧ (((decide (a20 ≤ (4080 : Int))) = true → ((decide (a20 ≤ (4080 : Int))) = true ∧ (True) ∧ ((decide (a20 ≤ (4080 : Int))) = true ∧ ((a17 = false → (a17 = false ∧ (True) ∧ (a17 = false ∧ ((decide (a20 ≤ (4080 : Int))) = true ∧ (a17 = false ∧ ((decide (a20 ≤ (4080 : Int))) = true ∧ (true = true ∧ (true = true ∧ (true = true ∧ (true = true ∧ (true = true ∧ (true = true ∧ (true = true ∧ (True ∧ (True ∧ ((True) ∧ ((True) ∧ True) ∧ (.v (.one (.err (some (22 : Int)))) : Tm) = proc_Check.R r ∧ ([] : List Box) = [])))))))))))))))) ∧ (a17 = true → (a17 = true ∧ (a17 = true ∧ ((decide (a20 ≤ (4080 : Int))) = true ∧ (a17 = true ∧ ((decide (a20 ≤ (4080 : Int))) = true ∧ (true = true ∧ (true = true ∧ (true = true ∧ (true = true ∧ (true = true ∧ (true = true ∧ (true = true ∧ (True ∧ (True ∧ ((True) ∧ ((True) ∧ True) ∧ (.v (.one (.err (some (22 : Int)))) : Tm) = proc_Check.R r ∧ ([] : List Box) = [])))))))))))))))))))) ∧ ((decide (a20 ≤ (4080 : Int))) = false → ((decide (a20 ≤ (4080 : Int))) = false ∧ ((decide (a20 ≤ (4080 : Int))) = false ∧ ((decide (a20 ≤ (4080 : Int))) = false ∧ ((decide (a20 ≤ (4080 : Int))) = false ∧ (true = true ∧ (true = true ∧ (true = true ∧ (true = true ∧ (true = true ∧ (true = true ∧ (true = true ∧ (True ∧ (True ∧ ((True) ∧ ((True) ∧ True) ∧ (.v (.one (.err (some (22 : Int)))) : Tm) = proc_Check.R r ∧ ([] : List Box) = [])))))))))))))))))))) ∧ ((decide (a20 ≥ (0 : Int))) = false → ((decide (a20 ≥ (0 : Int))) = false ∧ ((decide (a20 ≥ (0 : Int))) = false ∧ ((decide (a20 ≥ (0 : Int))) = false ∧ (false = false ∧ (false = false ∧ (false = false ∧ (false = false ∧ (false = false ∧ (true = true ∧ (true = true ∧ (true = true ∧ (true = true ∧ (true = true ∧ (true = true ∧ (true = true ∧ (True ∧ (True ∧ ((True) ∧ ((True) ∧ True) ∧ (.v (.one (.err (some (22 : Int)))) : Tm) = proc_Check.R r ∧ ([] : List Box) = [])))))))))))))))))))))))) ∧ ((decide (a19 < (30 : Int))) = false → ((decide (a19 < (30 : Int))) = false ∧ ((decide (a19 < (30 : Int))) = false ∧ ((decide (a19 < (30 : Int))) = false ∧ (false = false ∧ (false = false ∧ (false = false ∧ (false = false ∧ (false = false ∧ (false = false ∧ (false = false ∧ (false = false ∧ (false = false ∧ (true = true ∧ (true = true ∧ (true = true ∧ (true = true ∧ (true = true ∧ (true = true ∧ (true = true ∧ (True ∧ (True ∧ ((True) ∧ ((True) ∧ True) ∧ (.v (.one (.err (some (22 : Int)))) : Tm) = proc_Check.R r ∧ ([] : List Box) = [])))))))))))))))))))))))))))) ∧ ((decide (a19 ≥ (0 : Int))) = false → ((decide (a19 ≥ (0 : Int))) = false ∧ ((decide (a19 ≥ (0 : Int))) = false ∧ ((decide (a19 ≥ (0 : Int))) = false ∧ (false = false ∧ (false = false ∧ (false = false ∧ (false = false ∧ (false = false ∧ (false = false ∧ (false = false ∧ (false = false ∧ (false = false ∧ (false = false ∧ (false = false ∧ (false = false ∧ (false = false ∧ (true = true ∧ (true = true ∧ (true = true ∧ (true = true ∧ (true = true ∧ (true = true ∧ (true = true ∧ (True ∧ (True ∧ ((True) ∧ ((True) ∧ True) ∧ (.v (.one (.err (some (22 : Int)))) : Tm) = proc_Check.R r ∧ ([] : List Box) = []))))))))))))))))))))))))))))))))))))))))))))) ∧ ((Option.isNone t91) = false → ((Option.isNone t91) = false ∧ ((Option.isNone t91) = false ∧ ((Option.isNone t91) = false ∧ ((Option.isNone t91) = false ∧ (false = false ∧ (false = false ∧ (false = false ∧ (false = false ∧ (false = false ∧ (false = false ∧ (false = false ∧ (false = false ∧ (false = false ∧ (false = false ∧ (True) ∧ (True) ∧ (((decide (a19 ≥ (0 : Int))) = true → ((decide (a19 ≥ (0 : Int))) = true ∧ (True) ∧ ((decide (a19 ≥ (0 : Int))) = true ∧ (True) ∧ ((decide (a19 ≥ (0 : Int))) = true ∧ (((decide (a19 < (30 : Int))) = true → ((decide (a19 < (30 : Int))) = true ∧ (True) ∧ ((decide (a19 < (30 : Int))) = true ∧ (True) ∧ ((decide (a19 < (30 : Int))) = true ∧ (((decide (a20 ≥ (0 : Int))) = true → ((decide (a20 ≥ (0 : Int))) = true ∧ (True) ∧ ((decide (a20 ≥ (0 : Int))) = true ∧ (True) ∧ ((decide (a20 ≥ (0 : Int))) = true ∧ (((decide (a20 ≤ (4080 : Int))) = true → ((decide (a20 ≤ (4080 : Int))) = true ∧ (True) ∧ ((decide (a20 ≤ (4080 : Int))) = true ∧ ((a17 = false → (a17 = false ∧ (True) ∧ (a17 = false ∧ ((decide (a20 ≤ (4080 : Int))) = true ∧ (a17 = false ∧ ((decide (a20 ≤ (4080 : Int))) = true ∧ (true = true ∧ (true = true ∧ (true = true ∧ (true = true ∧ (true = true ∧ (true = true ∧ (true = true ∧ (True ∧ (True ∧ ((True) ∧ ((True) ∧ True) ∧ (.v (.one (.err (some (22 : Int)))) : Tm) = proc_Check.R r ∧ ([] : List Box) = [])))))))))))))))) ∧ (a17 = true → (a17 = true ∧ (a17 = true ∧ ((decide (a20 ≤ (4080 : Int))) = true ∧ (a17 = true ∧ ((decide (a20 ≤ (4080 : Int))) = true ∧ (true = true ∧ (true = true ∧ (true = true ∧ (true = true ∧ (true = true ∧ (true = true ∧ (true = true ∧ (True ∧ (True ∧ ((True) ∧ ((True) ∧ True) ∧ (.v (.one (.err (some (22 : Int)))) : Tm) = proc_Check.R r ∧ ([] : List Box) = [])))))))))))))))))))) ∧ ((decide (a20 ≤ (4080 : Int))) = false → ((decide (a20 ≤ (4080 : Int))) = false ∧ ((decide (a20 ≤ (4080 : Int))) = false ∧ ((decide (a20 ≤ (4080 : Int))) = false ∧ ((decide (a20 ≤ (4080 : Int))) = false ∧ (true = true ∧ (true = true ∧ (true = true ∧ (true = true ∧ (true = true ∧ (true = true ∧ (true = true ∧ (True ∧ (True ∧ ((True) ∧ ((True) ∧ True) ∧ (.v (.one (.err (some (22 : Int)))) : Tm) = proc_Check.R r ∧ ([] : List Box) = [])))))))))))))))))))) ∧ ((decide (a20 ≥ (0 : Int))) = false → ((decide (a20 ≥ (0 : Int))) = false ∧ ((decide (a20 ≥ (0 : Int))) = false ∧ ((decide (a20 ≥ (0 : Int))) = false ∧ (false = false ∧ (false = false ∧ (false = false ∧ (false = false ∧ (false = false ∧ (true = true ∧ (true = true ∧ (true = true ∧ (true = true ∧ (true = true ∧ (true = true ∧ (true = true ∧ (True ∧ (True ∧ ((True) ∧ ((True) ∧ True) ∧ (.v (.one (.err (some (22 : Int)))) : Tm) = proc_Check.R r ∧ ([] : List Box) = [])))))))))))))))))))))))) ∧ ((decide (a19 < (30 : Int))) = false → ((decide (a19 < (30 : Int))) = false ∧ ((decide (a19 < (30 : Int))) = false ∧ ((decide (a19 < (30 : Int))) = false ∧ (false = false ∧ (false = false ∧ (false = false ∧ (false = false ∧ (false = false ∧ (false = false ∧ (false = false ∧ (false = false ∧ (false = false ∧ (true = true ∧ (true = true ∧ (true = true ∧ (true = true ∧ (true = true ∧ (true = true ∧ (true = true ∧ (True ∧ (True ∧ ((True) ∧ ((True) ∧ True) ∧ (.v (.one (.err (some (22 : Int)))) : Tm) = proc_Check.R r ∧ ([] : List Box) = [])))))))))))))))))))))))))))) ∧ ((decide (a19 ≥ (0 : Int))) = false → ((decide (a19 ≥ (0 : Int))) = false ∧ ((decide (a19 ≥ (0 : Int))) = false ∧ ((decide (a19 ≥ (0 : Int))) = false ∧ (false = false ∧ (false = false ∧ (false = false ∧ (false = false ∧ (false = false ∧ (false = false ∧ (false = false ∧ (false = false ∧ (false = false ∧ (false = false ∧ (false = false ∧ (false = false ∧ (false = false ∧ (true = true ∧ (true = true ∧ (true = true ∧ (true = true ∧ (true = true ∧ (true = true ∧ (true = true ∧ (True ∧ (True ∧ ((True) ∧ ((True) ∧ True) ∧ (.v (.one (.err (some (22 : Int)))) : Tm) = proc_Check.R r ∧ ([] : List Box) = [])))))))))))))))))))))))))))))))))))))))))))))))))))))))))) (by kernel_rfl) ?_)
  refine ⟨trivial, ?_⟩
  obtain ⟨t1, ht1, h⟩ := of_bind h
  refine ⟨t1, ⟨pids_Check.fun_ ht1, trivial⟩, ?_⟩
  refine ⟨trivial, ?_⟩
  refine ⟨fun b2 => ?_, fun b2 => ?_⟩
  · rw [if_pos (none_t b2)] at h
    refine ⟨b2, ?_⟩
    refine ⟨trivial, ?_⟩
    refine ⟨b2, ?_⟩
    obtain ⟨t3, ht3, h⟩ := of_bind h
    refine ⟨t3, ⟨cred_Check.fun_ ht3, trivial⟩, ?_⟩
    refine ⟨b2, ?_⟩
    refine ⟨trivial, ?_⟩
    refine ⟨b2, ?_⟩
    refine ⟨fun b4 => ?_, fun b4 => ?_⟩
    · rw [if_pos (none_t b4)] at h
      refine ⟨b4, ?_⟩
      refine ⟨trivial, ?_⟩
      refine ⟨b4, ?_⟩
      obtain ⟨t5, ht5, h⟩ := of_bind h
      refine ⟨t5, ⟨path_Check.fun_ ht5, trivial⟩, ?_⟩
      refine ⟨b4, ?_⟩
      refine ⟨trivial, ?_⟩
      refine ⟨b4, ?_⟩
      refine ⟨trivial, ?_⟩
      obtain ⟨t6, ht6, h⟩ := of_bind h
      refine ⟨t6, ⟨regs_Check.fun_ ht6, trivial⟩, ?_⟩
      refine ⟨trivial, ?_⟩
      refine ⟨fun b7 => ?_, fun b7 => ?_⟩
      · rw [if_pos (none_t b7)] at h
        refine ⟨b7, ?_⟩
        refine ⟨trivial, ?_⟩
        refine ⟨b7, ?_⟩
        obtain ⟨t8, ht8, h⟩ := of_bind h
        refine ⟨t8, ⟨fds_Check.fun_ ht8, trivial⟩, ?_⟩
        refine ⟨b7, ?_⟩
        refine ⟨trivial, ?_⟩
        refine ⟨b7, ?_⟩
        refine ⟨fun b9 => ?_, fun b9 => ?_⟩
        · rw [if_pos (none_t b9)] at h
          refine ⟨b9, ?_⟩
          refine ⟨trivial, ?_⟩
          refine ⟨b9, ?_⟩
          obtain ⟨t10, ht10, h⟩ := of_bind h
          refine ⟨t10, ⟨sig_Check.fun_ ht10, trivial⟩, ?_⟩
          refine ⟨b9, ?_⟩
          refine ⟨trivial, ?_⟩
          refine ⟨b9, ?_⟩
          refine ⟨fun b11 => ?_, fun b11 => ?_⟩
          · rw [if_pos (none_t b11)] at h
            refine ⟨b11, ?_⟩
            refine ⟨trivial, ?_⟩
            refine ⟨b11, ?_⟩
            obtain ⟨t12, ht12, h⟩ := of_bind h
            refine ⟨t12, ⟨trace_Check.fun_ ht12, trivial⟩, ?_⟩
            refine ⟨b11, ?_⟩
            refine ⟨trivial, ?_⟩
            refine ⟨b11, ?_⟩
            refine ⟨trivial, ?_⟩
            refine ⟨trivial, ?_⟩
            refine ⟨fun b13 => ?_, fun b13 => ?_⟩
            · rw [if_pos (of_decide_eq_true b13)] at h
              refine ⟨b13, ?_⟩
              refine ⟨trivial, ?_⟩
              refine ⟨b13, ?_⟩
              refine ⟨trivial, ?_⟩
              refine ⟨b13, ?_⟩
              refine ⟨fun b14 => ?_, fun b14 => ?_⟩
              · rw [if_pos (of_decide_eq_true b14)] at h
                refine ⟨b14, ?_⟩
                refine ⟨trivial, ?_⟩
                refine ⟨b14, ?_⟩
                refine ⟨trivial, ?_⟩
                refine ⟨b14, ?_⟩
                refine ⟨fun b15 => ?_, fun b15 => ?_⟩
                · rw [if_pos (of_decide_eq_true b15)] at h
                  refine ⟨b15, ?_⟩
                  refine ⟨trivial, ?_⟩
                  refine ⟨b15, ?_⟩
                  refine ⟨trivial, ?_⟩
                  refine ⟨b15, ?_⟩
                  refine ⟨fun b16 => ?_, fun b16 => ?_⟩
                  · rw [if_pos (of_decide_eq_true b16)] at h
                    refine ⟨b16, ?_⟩
                    refine ⟨trivial, ?_⟩
                    refine ⟨b16, ?_⟩
                    refine ⟨fun b17 => ?_, fun b17 => ?_⟩
                    · rw [if_neg (ff b17)] at h
                      refine ⟨b17, ?_⟩
                      refine ⟨trivial, ?_⟩
                      refine ⟨b17, ?_⟩
                      refine ⟨b16, ?_⟩
                      refine ⟨b17, ?_⟩
                      refine ⟨b16, ?_⟩
                      refine ⟨fun b20 => ?_, fun b20 => ?_⟩
                      · rw [if_neg (not_not_intro (none_t (not_f b20)))] at h
                        refine ⟨b20, ?_⟩
                        refine ⟨b20, ?_⟩
                        refine ⟨fun b21 => ?_, fun b21 => ?_⟩
                        · rw [if_neg (not_not_intro (none_t (not_f b21)))] at h
                          refine ⟨b21, ?_⟩
                          refine ⟨b21, ?_⟩
                          refine ⟨fun b22 => ?_, fun b22 => ?_⟩
                          · rw [if_pos (not_not_intro (not_f (not_t b22)))] at h
                            refine ⟨trivial, ?_⟩
                            refine ⟨trivial, ?_⟩
                            obtain rfl := Option.some.inj h
                            exact ⟨trivial, ⟨trivial, trivial⟩, rfl, rfl⟩
                          · rw [if_neg (not_not_intro (ff (not_t (not_f b22))))] at h
                            refine ⟨trivial, ?_⟩
                            refine ⟨trivial, ?_⟩
                            refine ⟨trivial, ?_⟩
                            obtain rfl := Option.some.inj h
                            exact ⟨trivial, ⟨trivial, trivial⟩, rfl, rfl⟩
                        · rw [if_pos (none_f (not_t b21))] at h
                          refine ⟨b21, ?_⟩
                          refine ⟨b21, ?_⟩
                          refine ⟨rfl, ?_⟩
                          refine ⟨trivial, ?_⟩
                          refine ⟨trivial, ?_⟩
                          obtain rfl := Option.some.inj h
                          exact ⟨trivial, ⟨trivial, trivial⟩, rfl, rfl⟩
                      · rw [if_pos (none_f (not_t b20))] at h
                        refine ⟨b20, ?_⟩
                        refine ⟨b20, ?_⟩
                        refine ⟨rfl, ?_⟩
                        refine ⟨rfl, ?_⟩
                        refine ⟨rfl, ?_⟩
                        refine ⟨rfl, ?_⟩
                        refine ⟨trivial, ?_⟩
                        refine ⟨trivial, ?_⟩
                        obtain rfl := Option.some.inj h
                        exact ⟨trivial, ⟨trivial, trivial⟩, rfl, rfl⟩
                    · rw [if_pos b17] at h
                      refine ⟨b17, ?_⟩
                      refine ⟨b17, ?_⟩
                      refine ⟨b16, ?_⟩
                      refine ⟨b17, ?_⟩
                      refine ⟨b16, ?_⟩
                      refine ⟨fun b18 => ?_, fun b18 => ?_⟩
                      · rw [if_neg (not_not_intro (none_t (not_f b18)))] at h
                        refine ⟨b18, ?_⟩
                        refine ⟨b18, ?_⟩
                        refine ⟨fun b19 => ?_, fun b19 => ?_⟩
                        · rw [if_neg (not_not_intro (none_t (not_f b19)))] at h
                          refine ⟨b19, ?_⟩
                          refine ⟨b19, ?_⟩
                          refine ⟨rfl, ?_⟩
                          refine ⟨trivial, ?_⟩
                          refine ⟨trivial, ?_⟩
                          refine ⟨trivial, ?_⟩
                          obtain rfl := Option.some.inj h
                          exact ⟨trivial, ⟨trivial, trivial⟩, rfl, rfl⟩
                        · rw [if_pos (none_f (not_t b19))] at h
                          refine ⟨b19, ?_⟩
                          refine ⟨b19, ?_⟩
                          refine ⟨rfl, ?_⟩
                          refine ⟨trivial, ?_⟩
                          refine ⟨trivial, ?_⟩
                          obtain rfl := Option.some.inj h
                          exact ⟨trivial, ⟨trivial, trivial⟩, rfl, rfl⟩
                      · rw [if_pos (none_f (not_t b18))] at h
                        refine ⟨b18, ?_⟩
                        refine ⟨b18, ?_⟩
                        refine ⟨rfl, ?_⟩
                        refine ⟨rfl, ?_⟩
                        refine ⟨rfl, ?_⟩
                        refine ⟨rfl, ?_⟩
                        refine ⟨trivial, ?_⟩
                        refine ⟨trivial, ?_⟩
                        obtain rfl := Option.some.inj h
                        exact ⟨trivial, ⟨trivial, trivial⟩, rfl, rfl⟩
                  · rw [if_neg (of_decide_eq_false b16)] at h
                    refine ⟨b16, ?_⟩
                    refine ⟨b16, ?_⟩
                    refine ⟨b16, ?_⟩
                    refine ⟨b16, ?_⟩
                    refine ⟨fun b23 => ?_, fun b23 => ?_⟩
                    · rw [if_neg (not_not_intro (none_t (not_f b23)))] at h
                      refine ⟨b23, ?_⟩
                      refine ⟨b23, ?_⟩
                      refine ⟨fun b24 => ?_, fun b24 => ?_⟩
                      · rw [if_neg (not_not_intro (none_t (not_f b24)))] at h
                        refine ⟨b24, ?_⟩
                        refine ⟨b24, ?_⟩
                        refine ⟨rfl, ?_⟩
                        refine ⟨trivial, ?_⟩
                        refine ⟨trivial, ?_⟩
                        obtain rfl := Option.some.inj h
                        exact ⟨trivial, ⟨trivial, trivial⟩, rfl, rfl⟩
                      · rw [if_pos (none_f (not_t b24))] at h
                        refine ⟨b24, ?_⟩
                        refine ⟨b24, ?_⟩
                        refine ⟨rfl, ?_⟩
                        refine ⟨trivial, ?_⟩
                        refine ⟨trivial, ?_⟩
                        obtain rfl := Option.some.inj h
                        exact ⟨trivial, ⟨trivial, trivial⟩, rfl, rfl⟩
                    · rw [if_pos (none_f (not_t b23))] at h
                      refine ⟨b23, ?_⟩
                      refine ⟨b23, ?_⟩
                      refine ⟨rfl, ?_⟩
                      refine ⟨rfl, ?_⟩
                      refine ⟨rfl, ?_⟩
                      refine ⟨rfl, ?_⟩
                      refine ⟨trivial, ?_⟩
                      refine ⟨trivial, ?_⟩
                      obtain rfl := Option.some.inj h
                      exact ⟨trivial, ⟨trivial, trivial⟩, rfl, rfl⟩
                · rw [if_neg (of_decide_eq_false b15)] at h
                  refine ⟨b15, ?_⟩
                  refine ⟨b15, ?_⟩
                  refine ⟨b15, ?_⟩
                  refine ⟨rfl, ?_⟩
                  refine ⟨rfl, ?_⟩
                  refine ⟨rfl, ?_⟩
                  refine ⟨rfl, ?_⟩
                  refine ⟨rfl, ?_⟩
                  refine ⟨fun b25 => ?_, fun b25 => ?_⟩
                  · rw [if_neg (not_not_intro (none_t (not_f b25)))] at h
                    refine ⟨b25, ?_⟩
                    refine ⟨b25, ?_⟩
                    refine ⟨fun b26 => ?_, fun b26 => ?_⟩
                    · rw [if_neg (not_not_intro (none_t (not_f b26)))] at h
                      refine ⟨b26, ?_⟩
                      refine ⟨b26, ?_⟩
                      refine ⟨rfl, ?_⟩
                      refine ⟨trivial, ?_⟩
                      refine ⟨trivial, ?_⟩
                      obtain rfl := Option.some.inj h
                      exact ⟨trivial, ⟨trivial, trivial⟩, rfl, rfl⟩
                    · rw [if_pos (none_f (not_t b26))] at h
                      refine ⟨b26, ?_⟩
                      refine ⟨b26, ?_⟩
                      refine ⟨rfl, ?_⟩
                      refine ⟨trivial, ?_⟩
                      refine ⟨trivial, ?_⟩
                      obtain rfl := Option.some.inj h
                      exact ⟨trivial, ⟨trivial, trivial⟩, rfl, rfl⟩
                  · rw [if_pos (none_f (not_t b25))] at h
                    refine ⟨b25, ?_⟩
                    refine ⟨b25, ?_⟩
                    refine ⟨rfl, ?_⟩
                    refine ⟨rfl, ?_⟩
                    refine ⟨rfl, ?_⟩
                    refine ⟨rfl, ?_⟩
                    refine ⟨trivial, ?_⟩
                    refine ⟨trivial, ?_⟩
                    obtain rfl := Option.some.inj h
                    exact ⟨trivial, ⟨trivial, trivial⟩, rfl, rfl⟩
              · rw [if_neg (of_decide_eq_false b14)] at h
                refine ⟨b14, ?_⟩
                refine ⟨b14, ?_⟩
                refine ⟨b14, ?_⟩
                refine ⟨rfl, ?_⟩
                refine ⟨rfl, ?_⟩
                refine ⟨rfl, ?_⟩
                refine ⟨rfl, ?_⟩
                refine ⟨rfl, ?_⟩
                refine ⟨rfl, ?_⟩
                refine ⟨rfl, ?_⟩
                refine ⟨rfl, ?_⟩
                refine ⟨rfl, ?_⟩
                refine ⟨fun b27 => ?_, fun b27 => ?_⟩
                · rw [if_neg (not_not_intro (none_t (not_f b27)))] at h
                  refine ⟨b27, ?_⟩
                  refine ⟨b27, ?_⟩
                  refine ⟨fun b28 => ?_, fun b28 => ?_⟩
                  · rw [if_neg (not_not_intro (none_t (not_f b28)))] at h
                    refine ⟨b28, ?_⟩
                    refine ⟨b28, ?_⟩
                    refine ⟨rfl, ?_⟩
                    refine ⟨trivial, ?_⟩
                    refine ⟨trivial, ?_⟩
                    obtain rfl := Option.some.inj h
                    exact ⟨trivial, ⟨trivial, trivial⟩, rfl, rfl⟩
                  · rw [if_pos (none_f (not_t b28))] at h
                    refine ⟨b28, ?_⟩
                    refine ⟨b28, ?_⟩
                    refine ⟨rfl, ?_⟩
                    refine ⟨trivial, ?_⟩
                    refine ⟨trivial, ?_⟩
                    obtain rfl := Option.some.inj h
                    exact ⟨trivial, ⟨trivial, trivial⟩, rfl, rfl⟩
                · rw [if_pos (none_f (not_t b27))] at h
                  refine ⟨b27, ?_⟩
                  refine ⟨b27, ?_⟩
                  refine ⟨rfl, ?_⟩
                  refine ⟨rfl, ?_⟩
                  refine ⟨rfl, ?_⟩
                  refine ⟨rfl, ?_⟩
                  refine ⟨trivial, ?_⟩
                  refine ⟨trivial, ?_⟩
                  obtain rfl := Option.some.inj h
                  exact ⟨trivial, ⟨trivial, trivial⟩, rfl, rfl⟩
            · rw [if_neg (of_decide_eq_false b13)] at h
              refine ⟨b13, ?_⟩
              refine ⟨b13, ?_⟩
              refine ⟨b13, ?_⟩
              refine ⟨rfl, ?_⟩
              refine ⟨rfl, ?_⟩
              refine ⟨rfl, ?_⟩
              refine ⟨rfl, ?_⟩
              refine ⟨rfl, ?_⟩
              refine ⟨rfl, ?_⟩
              refine ⟨rfl, ?_⟩
              refine ⟨rfl, ?_⟩
              refine ⟨rfl, ?_⟩
              refine ⟨rfl, ?_⟩
              refine ⟨rfl, ?_⟩
              refine ⟨rfl, ?_⟩
              refine ⟨rfl, ?_⟩
              refine ⟨fun b29 => ?_, fun b29 => ?_⟩
              · rw [if_neg (not_not_intro (none_t (not_f b29)))] at h
                refine ⟨b29, ?_⟩
                refine ⟨b29, ?_⟩
                refine ⟨fun b30 => ?_, fun b30 => ?_⟩
                · rw [if_neg (not_not_intro (none_t (not_f b30)))] at h
                  refine ⟨b30, ?_⟩
                  refine ⟨b30, ?_⟩
                  refine ⟨rfl, ?_⟩
                  refine ⟨trivial, ?_⟩
                  refine ⟨trivial, ?_⟩
                  obtain rfl := Option.some.inj h
                  exact ⟨trivial, ⟨trivial, trivial⟩, rfl, rfl⟩
                · rw [if_pos (none_f (not_t b30))] at h
                  refine ⟨b30, ?_⟩
                  refine ⟨b30, ?_⟩
                  refine ⟨rfl, ?_⟩
                  refine ⟨trivial, ?_⟩
                  refine ⟨trivial, ?_⟩
                  obtain rfl := Option.some.inj h
                  exact ⟨trivial, ⟨trivial, trivial⟩, rfl, rfl⟩
              · rw [if_pos (none_f (not_t b29))] at h
                refine ⟨b29, ?_⟩
                refine ⟨b29, ?_⟩
                refine ⟨rfl, ?_⟩
                refine ⟨rfl, ?_⟩
                refine ⟨rfl, ?_⟩
                refine ⟨rfl, ?_⟩
                refine ⟨trivial, ?_⟩
                refine ⟨trivial, ?_⟩
                obtain rfl := Option.some.inj h
                exact ⟨trivial, ⟨trivial, trivial⟩, rfl, rfl⟩
          · rw [if_neg (none_f b11)] at h
            refine ⟨b11, ?_⟩
            refine ⟨b11, ?_⟩
            refine ⟨b11, ?_⟩
            refine ⟨b11, ?_⟩
            refine ⟨trivial, ?_⟩
            refine ⟨trivial, ?_⟩
            refine ⟨fun b31 => ?_, fun b31 => ?_⟩
            · rw [if_pos (of_decide_eq_true b31)] at h
              refine ⟨b31, ?_⟩
              refine ⟨trivial, ?_⟩
              refine ⟨b31, ?_⟩
              refine ⟨trivial, ?_⟩
              refine ⟨b31, ?_⟩
              refine ⟨fun b32 => ?_, fun b32 => ?_⟩
              · rw [if_pos (of_decide_eq_true b32)] at h
                refine ⟨b32, ?_⟩
                refine ⟨trivial, ?_⟩
                refine ⟨b32, ?_⟩
                refine ⟨trivial, ?_⟩
                refine ⟨b32, ?_⟩
                refine ⟨fun b33 => ?_, fun b33 => ?_⟩
                · rw [if_pos (of_decide_eq_true b33)] at h
                  refine ⟨b33, ?_⟩
                  refine ⟨trivial, ?_⟩
                  refine ⟨b33, ?_⟩
                  refine ⟨trivial, ?_⟩
                  refine ⟨b33, ?_⟩
                  refine ⟨fun b34 => ?_, fun b34 => ?_⟩
                  · rw [if_pos (of_decide_eq_true b34)] at h
                    refine ⟨b34, ?_⟩
                    refine ⟨trivial, ?_⟩
                    refine ⟨b34, ?_⟩
                    refine ⟨fun b35 => ?_, fun b35 => ?_⟩
                    · rw [if_neg (ff b35)] at h
                      refine ⟨b35, ?_⟩
                      refine ⟨trivial, ?_⟩
                      refine ⟨b35, ?_⟩
                      refine ⟨b34, ?_⟩
                      refine ⟨b35, ?_⟩
                      refine ⟨b34, ?_⟩
                      refine ⟨fun b37 => ?_, fun b37 => ?_⟩
                      · rw [if_neg (not_not_intro (none_t (not_f b37)))] at h
                        refine ⟨b37, ?_⟩
                        refine ⟨b37, ?_⟩
                        refine ⟨rfl, ?_⟩
                        refine ⟨rfl, ?_⟩
                        refine ⟨rfl, ?_⟩
                        refine ⟨rfl, ?_⟩
                        refine ⟨trivial, ?_⟩
                        refine ⟨trivial, ?_⟩
                        obtain rfl := Option.some.inj h
                        exact ⟨trivial, ⟨trivial, trivial⟩, rfl, rfl⟩
                      · rw [if_pos (none_f (not_t b37))] at h
                        refine ⟨b37, ?_⟩
                        refine ⟨b37, ?_⟩
                        refine ⟨rfl, ?_⟩
                        refine ⟨rfl, ?_⟩
                        refine ⟨rfl, ?_⟩
                        refine ⟨rfl, ?_⟩
                        refine ⟨trivial, ?_⟩
                        refine ⟨trivial, ?_⟩
                        obtain rfl := Option.some.inj h
                        exact ⟨trivial, ⟨trivial, trivial⟩, rfl, rfl⟩
                    · rw [if_pos b35] at h
                      refine ⟨b35, ?_⟩
                      refine ⟨b35, ?_⟩
                      refine ⟨b34, ?_⟩
                      refine ⟨b35, ?_⟩
                      refine ⟨b34, ?_⟩
                      refine ⟨fun b36 => ?_, fun b36 => ?_⟩
                      · rw [if_neg (not_not_intro (none_t (not_f b36)))] at h
                        refine ⟨b36, ?_⟩
                        refine ⟨b36, ?_⟩
                        refine ⟨rfl, ?_⟩
                        refine ⟨rfl, ?_⟩
                        refine ⟨rfl, ?_⟩
                        refine ⟨rfl, ?_⟩
                        refine ⟨trivial, ?_⟩
                        refine ⟨trivial, ?_⟩
                        obtain rfl := Option.some.inj h
                        exact ⟨trivial, ⟨trivial, trivial⟩, rfl, rfl⟩
                      · rw [if_pos (none_f (not_t b36))] at h
                        refine ⟨b36, ?_⟩
                        refine ⟨b36, ?_⟩
                        refine ⟨rfl, ?_⟩
                        refine ⟨rfl, ?_⟩
                        refine ⟨rfl, ?_⟩
                        refine ⟨rfl, ?_⟩
                        refine ⟨trivial, ?_⟩
                        refine ⟨trivial, ?_⟩
                        obtain rfl := Option.some.inj h
                        exact ⟨trivial, ⟨trivial, trivial⟩, rfl, rfl⟩
                  · rw [if_neg (of_decide_eq_false b34)] at h
                    refine ⟨b34, ?_⟩
                    refine ⟨b34, ?_⟩
                    refine ⟨b34, ?_⟩
                    refine ⟨b34, ?_⟩
                    refine ⟨fun b38 => ?_, fun b38 => ?_⟩
                    · rw [if_neg (not_not_intro (none_t (not_f b38)))] at h
                      refine ⟨b38, ?_⟩
                      refine ⟨b38, ?_⟩
                      refine ⟨rfl, ?_⟩
                      refine ⟨rfl, ?_⟩
                      refine ⟨rfl, ?_⟩
                      refine ⟨rfl, ?_⟩
                      refine ⟨trivial, ?_⟩
                      refine ⟨trivial, ?_⟩
                      obtain rfl := Option.some.inj h
                      exact ⟨trivial, ⟨trivial, trivial⟩, rfl, rfl⟩
                    · rw [if_pos (none_f (not_t b38))] at h
                      refine ⟨b38, ?_⟩
                      refine ⟨b38, ?_⟩
                      refine ⟨rfl, ?_⟩
                      refine ⟨rfl, ?_⟩
                      refine ⟨rfl, ?_⟩
                      refine ⟨rfl, ?_⟩
                      refine ⟨trivial, ?_⟩
                      refine ⟨trivial, ?_⟩
                      obtain rfl := Option.some.inj h
                      exact ⟨trivial, ⟨trivial, trivial⟩, rfl, rfl⟩
                · rw [if_neg (of_decide_eq_false b33)] at h
                  refine ⟨b33, ?_⟩
                  refine ⟨b33, ?_⟩
                  refine ⟨b33, ?_⟩
                  refine ⟨rfl, ?_⟩
                  refine ⟨rfl, ?_⟩
                  refine ⟨rfl, ?_⟩
                  refine ⟨rfl, ?_⟩
                  refine ⟨rfl, ?_⟩
                  refine ⟨fun b39 => ?_, fun b39 => ?_⟩
                  · rw [if_neg (not_not_intro (none_t (not_f b39)))] at h
                    refine ⟨b39, ?_⟩
                    refine ⟨b39, ?_⟩
                    refine ⟨rfl, ?_⟩
                    refine ⟨rfl, ?_⟩
                    refine ⟨rfl, ?_⟩
                    refine ⟨rfl, ?_⟩
                    refine ⟨trivial, ?_⟩
                    refine ⟨trivial, ?_⟩
                    obtain rfl := Option.some.inj h
                    exact ⟨trivial, ⟨trivial, trivial⟩, rfl, rfl⟩
                  · rw [if_pos (none_f (not_t b39))] at h
                    refine ⟨b39, ?_⟩
                    refine ⟨b39, ?_⟩
                    refine ⟨rfl, ?_⟩
                    refine ⟨rfl, ?_⟩
                    refine ⟨rfl, ?_⟩
                    refine ⟨rfl, ?_⟩
                    refine ⟨trivial, ?_⟩
                    refine ⟨trivial, ?_⟩
                    obtain rfl := Option.some.inj h
                    exact ⟨trivial, ⟨trivial, trivial⟩, rfl, rfl⟩
              · rw [if_neg (of_decide_eq_false b32)] at h
                refine ⟨b32, ?_⟩
                refine ⟨b32, ?_⟩
                refine ⟨b32, ?_⟩
                refine ⟨rfl, ?_⟩
                refine ⟨rfl, ?_⟩
                refine ⟨rfl, ?_⟩
                refine ⟨rfl, ?_⟩
                refine ⟨rfl, ?_⟩
                refine ⟨rfl, ?_⟩
                refine ⟨rfl, ?_⟩
                refine ⟨rfl, ?_⟩
                refine ⟨rfl, ?_⟩
                refine ⟨fun b40 => ?_, fun b40 => ?_⟩
                · rw [if_neg (not_not_intro (none_t (not_f b40)))] at h
                  refine ⟨b40, ?_⟩
                  refine ⟨b40, ?_⟩
                  refine ⟨rfl, ?_⟩
                  refine ⟨rfl, ?_⟩
                  refine ⟨rfl, ?_⟩
                  refine ⟨rfl, ?_⟩
                  refine ⟨trivial, ?_⟩
                  refine ⟨trivial, ?_⟩
                  obtain rfl := Option.some.inj h
                  exact ⟨trivial, ⟨trivial, trivial⟩, rfl, rfl⟩
                · rw [if_pos (none_f (not_t b40))] at h
                  refine ⟨b40, ?_⟩
                  refine ⟨b40, ?_⟩
                  refine ⟨rfl, ?_⟩
                  refine ⟨rfl, ?_⟩
                  refine ⟨rfl, ?_⟩
                  refine ⟨rfl, ?_⟩
                  refine ⟨trivial, ?_⟩
                  refine ⟨trivial, ?_⟩
                  obtain rfl := Option.some.inj h
                  exact ⟨trivial, ⟨trivial, trivial⟩, rfl, rfl⟩
            · rw [if_neg (of_decide_eq_false b31)] at h
              refine ⟨b31, ?_⟩
              refine ⟨b31, ?_⟩
              refine ⟨b31, ?_⟩
              refine ⟨rfl, ?_⟩
              refine ⟨rfl, ?_⟩
              refine ⟨rfl, ?_⟩
              refine ⟨rfl, ?_⟩
              refine ⟨rfl, ?_⟩
              refine ⟨rfl, ?_⟩
              refine ⟨rfl, ?_⟩
              refine ⟨rfl, ?_⟩
              refine ⟨rfl, ?_⟩
              refine ⟨rfl, ?_⟩
              refine ⟨rfl, ?_⟩
              refine ⟨rfl, ?_⟩
              refine ⟨rfl, ?_⟩
              refine ⟨fun b41 => ?_, fun b41 => ?_⟩
              · rw [if_neg (not_not_intro (none_t (not_f b41)))] at h
                refine ⟨b41, ?_⟩
                refine ⟨b41, ?_⟩
                refine ⟨rfl, ?_⟩
                refine ⟨rfl, ?_⟩
                refine ⟨rfl, ?_⟩
                refine ⟨rfl, ?_⟩
                refine ⟨trivial, ?_⟩
                refine ⟨trivial, ?_⟩
                obtain rfl := Option.some.inj h
                exact ⟨trivial, ⟨trivial, trivial⟩, rfl, rfl⟩
              · rw [if_pos (none_f (not_t b41))] at h
                refine ⟨b41, ?_⟩
                refine ⟨b41, ?_⟩
                refine ⟨rfl, ?_⟩
                refine ⟨rfl, ?_⟩
                refine ⟨rfl, ?_⟩
                refine ⟨rfl, ?_⟩
                refine ⟨trivial, ?_⟩
                refine ⟨trivial, ?_⟩
                obtain rfl := Option.some.inj h
                exact ⟨trivial, ⟨trivial, trivial⟩, rfl, rfl⟩
        · rw [if_neg (none_f b9)] at h
          refine ⟨b9, ?_⟩
          refine ⟨b9, ?_⟩
          refine ⟨b9, ?_⟩
          refine ⟨b9, ?_⟩
          refine ⟨rfl, ?_⟩
          refine ⟨rfl, ?_⟩
          refine ⟨rfl, ?_⟩
          refine ⟨rfl, ?_⟩
          refine ⟨rfl, ?_⟩
          refine ⟨trivial, ?_⟩
          refine ⟨trivial, ?_⟩
          refine ⟨fun b42 => ?_, fun b42 => ?_⟩
          · rw [if_pos (of_decide_eq_true b42)] at h
            refine ⟨b42, ?_⟩
            refine ⟨trivial, ?_⟩
            refine ⟨b42, ?_⟩
            refine ⟨trivial, ?_⟩
            refine ⟨b42, ?_⟩
            refine ⟨fun b43 => ?_, fun b43 => ?_⟩
            · rw [if_pos (of_decide_eq_true b43)] at h
              refine ⟨b43, ?_⟩
              refine ⟨trivial, ?_⟩
              refine ⟨b43, ?_⟩
              refine ⟨trivial, ?_⟩
              refine ⟨b43, ?_⟩
              refine ⟨fun b44 => ?_, fun b44 => ?_⟩
              · rw [if_pos (of_decide_eq_true b44)] at h
                refine ⟨b44, ?_⟩
                refine ⟨trivial, ?_⟩
                refine ⟨b44, ?_⟩
                refine ⟨trivial, ?_⟩
                refine ⟨b44, ?_⟩
                refine ⟨fun b45 => ?_, fun b45 => ?_⟩
                · rw [if_pos (of_decide_eq_true b45)] at h
                  refine ⟨b45, ?_⟩
                  refine ⟨trivial, ?_⟩
                  refine ⟨b45, ?_⟩
                  refine ⟨fun b46 => ?_, fun b46 => ?_⟩
                  · rw [if_neg (ff b46)] at h
                    refine ⟨b46, ?_⟩
                    refine ⟨trivial, ?_⟩
                    refine ⟨b46, ?_⟩
                    refine ⟨b45, ?_⟩
                    refine ⟨b46, ?_⟩
                    refine ⟨b45, ?_⟩
                    refine ⟨fun b48 => ?_, fun b48 => ?_⟩
                    · rw [if_neg (not_not_intro (none_t (not_f b48)))] at h
                      refine ⟨b48, ?_⟩
                      refine ⟨b48, ?_⟩
                      refine ⟨rfl, ?_⟩
                      refine ⟨rfl, ?_⟩
                      refine ⟨rfl, ?_⟩
                      refine ⟨rfl, ?_⟩
                      refine ⟨trivial, ?_⟩
                      refine ⟨trivial, ?_⟩
                      obtain rfl := Option.some.inj h
                      exact ⟨trivial, ⟨trivial, trivial⟩, rfl, rfl⟩
                    · rw [if_pos (none_f (not_t b48))] at h
                      refine ⟨b48, ?_⟩
                      refine ⟨b48, ?_⟩
                      refine ⟨rfl, ?_⟩
                      refine ⟨rfl, ?_⟩
                      refine ⟨rfl, ?_⟩
                      refine ⟨rfl, ?_⟩
                      refine ⟨trivial, ?_⟩
                      refine ⟨trivial, ?_⟩
                      obtain rfl := Option.some.inj h
                      exact ⟨trivial, ⟨trivial, trivial⟩, rfl, rfl⟩
                  · rw [if_pos b46] at h
                    refine ⟨b46, ?_⟩
                    refine ⟨b46, ?_⟩
                    refine ⟨b45, ?_⟩
                    refine ⟨b46, ?_⟩
                    refine ⟨b45, ?_⟩
                    refine ⟨fun b47 => ?_, fun b47 => ?_⟩
                    · rw [if_neg (not_not_intro (none_t (not_f b47)))] at h
                      refine ⟨b47, ?_⟩
                      refine ⟨b47, ?_⟩
                      refine ⟨rfl, ?_⟩
                      refine ⟨rfl, ?_⟩
                      refine ⟨rfl, ?_⟩
                      refine ⟨rfl, ?_⟩
                      refine ⟨trivial, ?_⟩
                      refine ⟨trivial, ?_⟩
                      obtain rfl := Option.some.inj h
                      exact ⟨trivial, ⟨trivial, trivial⟩, rfl, rfl⟩
                    · rw [if_pos (none_f (not_t b47))] at h
                      refine ⟨b47, ?_⟩
                      refine ⟨b47, ?_⟩
                      refine ⟨rfl, ?_⟩
                      refine ⟨rfl, ?_⟩
                      refine ⟨rfl, ?_⟩
                      refine ⟨rfl, ?_⟩
                      refine ⟨trivial, ?_⟩
                      refine ⟨trivial, ?_⟩
                      obtain rfl := Option.some.inj h
                      exact ⟨trivial, ⟨trivial, trivial⟩, rfl, rfl⟩
                · rw [if_neg (of_decide_eq_false b45)] at h
                  refine ⟨b45, ?_⟩
                  refine ⟨b45, ?_⟩
                  refine ⟨b45, ?_⟩
                  refine ⟨b45, ?_⟩
                  refine ⟨fun b49 => ?_, fun b49 => ?_⟩
                  · rw [if_neg (not_not_intro (none_t (not_f b49)))] at h
                    refine ⟨b49, ?_⟩
                    refine ⟨b49, ?_⟩
                    refine ⟨rfl, ?_⟩
                    refine ⟨rfl, ?_⟩
                    refine ⟨rfl, ?_⟩
                    refine ⟨rfl, ?_⟩
                    refine ⟨trivial, ?_⟩
                    refine ⟨trivial, ?_⟩
                    obtain rfl := Option.some.inj h
                    exact ⟨trivial, ⟨trivial, trivial⟩, rfl, rfl⟩
                  · rw [if_pos (none_f (not_t b49))] at h
                    refine ⟨b49, ?_⟩
                    refine ⟨b49, ?_⟩
                    refine ⟨rfl, ?_⟩
                    refine ⟨rfl, ?_⟩
                    refine ⟨rfl, ?_⟩
                    refine ⟨rfl, ?_⟩
                    refine ⟨trivial, ?_⟩
                    refine ⟨trivial, ?_⟩
                    obtain rfl := Option.some.inj h
                    exact ⟨trivial, ⟨trivial, trivial⟩, rfl, rfl⟩
              · rw [if_neg (of_decide_eq_false b44)] at h
                refine ⟨b44, ?_⟩
                refine ⟨b44, ?_⟩
                refine ⟨b44, ?_⟩
                refine ⟨rfl, ?_⟩
                refine ⟨rfl, ?_⟩
                refine ⟨rfl, ?_⟩
                refine ⟨rfl, ?_⟩
                refine ⟨rfl, ?_⟩
                refine ⟨fun b50 => ?_, fun b50 => ?_⟩
                · rw [if_neg (not_not_intro (none_t (not_f b50)))] at h
                  refine ⟨b50, ?_⟩
                  refine ⟨b50, ?_⟩
                  refine ⟨rfl, ?_⟩
                  refine ⟨rfl, ?_⟩
                  refine ⟨rfl, ?_⟩
                  refine ⟨rfl, ?_⟩
                  refine ⟨trivial, ?_⟩
                  refine ⟨trivial, ?_⟩
                  obtain rfl := Option.some.inj h
                  exact ⟨trivial, ⟨trivial, trivial⟩, rfl, rfl⟩
                · rw [if_pos (none_f (not_t b50))] at h
                  refine ⟨b50, ?_⟩
                  refine ⟨b50, ?_⟩
                  refine ⟨rfl, ?_⟩
                  refine ⟨rfl, ?_⟩
                  refine ⟨rfl, ?_⟩
                  refine ⟨rfl, ?_⟩
                  refine ⟨trivial, ?_⟩
                  refine ⟨trivial, ?_⟩
                  obtain rfl := Option.some.inj h
                  exact ⟨trivial, ⟨trivial, trivial⟩, rfl, rfl⟩
            · rw [if_neg (of_decide_eq_false b43)] at h
              refine ⟨b43, ?_⟩
              refine ⟨b43, ?_⟩
              refine ⟨b43, ?_⟩
              refine ⟨rfl, ?_⟩
              refine ⟨rfl, ?_⟩
              refine ⟨rfl, ?_⟩
              refine ⟨rfl, ?_⟩
              refine ⟨rfl, ?_⟩
              refine ⟨rfl, ?_⟩
              refine ⟨rfl, ?_⟩
              refine ⟨rfl, ?_⟩
              refine ⟨rfl, ?_⟩
              refine ⟨fun b51 => ?_, fun b51 => ?_⟩
              · rw [if_neg (not_not_intro (none_t (not_f b51)))] at h
                refine ⟨b51, ?_⟩
                refine ⟨b51, ?_⟩
                refine ⟨rfl, ?_⟩
                refine ⟨rfl, ?_⟩
                refine ⟨rfl, ?_⟩
                refine ⟨rfl, ?_⟩
                refine ⟨trivial, ?_⟩
                refine ⟨trivial, ?_⟩
                obtain rfl := Option.some.inj h
                exact ⟨trivial, ⟨trivial, trivial⟩, rfl, rfl⟩
              · rw [if_pos (none_f (not_t b51))] at h
                refine ⟨b51, ?_⟩
                refine ⟨b51, ?_⟩
                refine ⟨rfl, ?_⟩
                refine ⟨rfl, ?_⟩
                refine ⟨rfl, ?_⟩
                refine ⟨rfl, ?_⟩
                refine ⟨trivial, ?_⟩
                refine ⟨trivial, ?_⟩
                obtain rfl := Option.some.inj h
                exact ⟨trivial, ⟨trivial, trivial⟩, rfl, rfl⟩
          · rw [if_neg (of_decide_eq_false b42)] at h
            refine ⟨b42, ?_⟩
            refine ⟨b42, ?_⟩
            refine ⟨b42, ?_⟩
            refine ⟨rfl, ?_⟩
            refine ⟨rfl, ?_⟩
            refine ⟨rfl, ?_⟩
            refine ⟨rfl, ?_⟩
            refine ⟨rfl, ?_⟩
            refine ⟨rfl, ?_⟩
            refine ⟨rfl, ?_⟩
            refine ⟨rfl, ?_⟩
            refine ⟨rfl, ?_⟩
            refine ⟨rfl, ?_⟩
            refine ⟨rfl, ?_⟩
            refine ⟨rfl, ?_⟩
            refine ⟨rfl, ?_⟩
            refine ⟨fun b52 => ?_, fun b52 => ?_⟩
            · rw [if_neg (not_not_intro (none_t (not_f b52)))] at h
              refine ⟨b52, ?_⟩
              refine ⟨b52, ?_⟩
              refine ⟨rfl, ?_⟩
              refine ⟨rfl, ?_⟩
              refine ⟨rfl, ?_⟩
              refine ⟨rfl, ?_⟩
              refine ⟨trivial, ?_⟩
              refine ⟨trivial, ?_⟩
              obtain rfl := Option.some.inj h
              exact ⟨trivial, ⟨trivial, trivial⟩, rfl, rfl⟩
            · rw [if_pos (none_f (not_t b52))] at h
              refine ⟨b52, ?_⟩
              refine ⟨b52, ?_⟩
              refine ⟨rfl, ?_⟩
              refine ⟨rfl, ?_⟩
              refine ⟨rfl, ?_⟩
              refine ⟨rfl, ?_⟩
              refine ⟨trivial, ?_⟩
              refine ⟨trivial, ?_⟩
              obtain rfl := Option.some.inj h
              exact ⟨trivial, ⟨trivial, trivial⟩, rfl, rfl⟩
      · rw [if_neg (none_f b7)] at h
        refine ⟨b7, ?_⟩
        refine ⟨b7, ?_⟩
        refine ⟨b7, ?_⟩
        refine ⟨b7, ?_⟩
        refine ⟨rfl, ?_⟩
        refine ⟨rfl, ?_⟩
        refine ⟨rfl, ?_⟩
        refine ⟨rfl, ?_⟩
        refine ⟨rfl, ?_⟩
        refine ⟨rfl, ?_⟩
        refine ⟨rfl, ?_⟩
        refine ⟨rfl, ?_⟩
        refine ⟨rfl, ?_⟩
        refine ⟨rfl, ?_⟩
        refine ⟨trivial, ?_⟩
        refine ⟨trivial, ?_⟩
        refine ⟨fun b53 => ?_, fun b53 => ?_⟩
        · rw [if_pos (of_decide_eq_true b53)] at h
          refine ⟨b53, ?_⟩
          refine ⟨trivial, ?_⟩
          refine ⟨b53, ?_⟩
          refine ⟨trivial, ?_⟩
          refine ⟨b53, ?_⟩
          refine ⟨fun b54 => ?_, fun b54 => ?_⟩
          · rw [if_pos (of_decide_eq_true b54)] at h
            refine ⟨b54, ?_⟩
            refine ⟨trivial, ?_⟩
            refine ⟨b54, ?_⟩
            refine ⟨trivial, ?_⟩
            refine ⟨b54, ?_⟩
            refine ⟨fun b55 => ?_, fun b55 => ?_⟩
            · rw [if_pos (of_decide_eq_true b55)] at h
              refine ⟨b55, ?_⟩
              refine ⟨trivial, ?_⟩
              refine ⟨b55, ?_⟩
              refine ⟨trivial, ?_⟩
              refine ⟨b55, ?_⟩
              refine ⟨fun b56 => ?_, fun b56 => ?_⟩
              · rw [if_pos (of_decide_eq_true b56)] at h
                refine ⟨b56, ?_⟩
                refine ⟨trivial, ?_⟩
                refine ⟨b56, ?_⟩
                refine ⟨fun b57 => ?_, fun b57 => ?_⟩
                · rw [if_neg (ff b57)] at h
                  refine ⟨b57, ?_⟩
                  refine ⟨trivial, ?_⟩
                  refine ⟨b57, ?_⟩
                  refine ⟨b56, ?_⟩
                  refine ⟨b57, ?_⟩
                  refine ⟨b56, ?_⟩
                  refine ⟨fun b59 => ?_, fun b59 => ?_⟩
                  · rw [if_neg (not_not_intro (none_t (not_f b59)))] at h
                    refine ⟨b59, ?_⟩
                    refine ⟨b59, ?_⟩
                    refine ⟨rfl, ?_⟩
                    refine ⟨rfl, ?_⟩
                    refine ⟨rfl, ?_⟩
                    refine ⟨rfl, ?_⟩
                    refine ⟨trivial, ?_⟩
                    refine ⟨trivial, ?_⟩
                    obtain rfl := Option.some.inj h
                    exact ⟨trivial, ⟨trivial, trivial⟩, rfl, rfl⟩
                  · rw [if_pos (none_f (not_t b59))] at h
                    refine ⟨b59, ?_⟩
                    refine ⟨b59, ?_⟩
                    refine ⟨rfl, ?_⟩
                    refine ⟨rfl, ?_⟩
                    refine ⟨rfl, ?_⟩
                    refine ⟨rfl, ?_⟩
                    refine ⟨trivial, ?_⟩
                    refine ⟨trivial, ?_⟩
                    obtain rfl := Option.some.inj h
                    exact ⟨trivial, ⟨trivial, trivial⟩, rfl, rfl⟩
                · rw [if_pos b57] at h
                  refine ⟨b57, ?_⟩
                  refine ⟨b57, ?_⟩
                  refine ⟨b56, ?_⟩
                  refine ⟨b57, ?_⟩
                  refine ⟨b56, ?_⟩
                  refine ⟨fun b58 => ?_, fun b58 => ?_⟩
                  · rw [if_neg (not_not_intro (none_t (not_f b58)))] at h
                    refine ⟨b58, ?_⟩
                    refine ⟨b58, ?_⟩
                    refine ⟨rfl, ?_⟩
                    refine ⟨rfl, ?_⟩
                    refine ⟨rfl, ?_⟩
                    refine ⟨rfl, ?_⟩
                    refine ⟨trivial, ?_⟩
                    refine ⟨trivial, ?_⟩
                    obtain rfl := Option.some.inj h
                    exact ⟨trivial, ⟨trivial, trivial⟩, rfl, rfl⟩
                  · rw [if_pos (none_f (not_t b58))] at h
                    refine ⟨b58, ?_⟩
                    refine ⟨b58, ?_⟩
                    refine ⟨rfl, ?_⟩
                    refine ⟨rfl, ?_⟩
                    refine ⟨rfl, ?_⟩
                    refine ⟨rfl, ?_⟩
                    refine ⟨trivial, ?_⟩
                    refine ⟨trivial, ?_⟩
                    obtain rfl := Option.some.inj h
                    exact ⟨trivial, ⟨trivial, trivial⟩, rfl, rfl⟩
              · rw [if_neg (of_decide_eq_false b56)] at h
                refine ⟨b56, ?_⟩
                refine ⟨b56, ?_⟩
                refine ⟨b56, ?_⟩
                refine ⟨b56, ?_⟩
                refine ⟨fun b60 => ?_, fun b60 => ?_⟩
                · rw [if_neg (not_not_intro (none_t (not_f b60)))] at h
                  refine ⟨b60, ?_⟩
                  refine ⟨b60, ?_⟩
                  refine ⟨rfl, ?_⟩
                  refine ⟨rfl, ?_⟩
                  refine ⟨rfl, ?_⟩
                  refine ⟨rfl, ?_⟩
                  refine ⟨trivial, ?_⟩
                  refine ⟨trivial, ?_⟩
                  obtain rfl := Option.some.inj h
                  exact ⟨trivial, ⟨trivial, trivial⟩, rfl, rfl⟩
                · rw [if_pos (none_f (not_t b60))] at h
                  refine ⟨b60, ?_⟩
                  refine ⟨b60, ?_⟩
                  refine ⟨rfl, ?_⟩
                  refine ⟨rfl, ?_⟩
                  refine ⟨rfl, ?_⟩
                  refine ⟨rfl, ?_⟩
                  refine ⟨trivial, ?_⟩
                  refine ⟨trivial, ?_⟩
                  obtain rfl := Option.some.inj h
                  exact ⟨trivial, ⟨trivial, trivial⟩, rfl, rfl⟩
            · rw [if_neg (of_decide_eq_false b55)] at h
              refine ⟨b55, ?_⟩
              refine ⟨b55, ?_⟩
              refine ⟨b55, ?_⟩
              refine ⟨rfl, ?_⟩
              refine ⟨rfl, ?_⟩
              refine ⟨rfl, ?_⟩
              refine ⟨rfl, ?_⟩
              refine ⟨rfl, ?_⟩
              refine ⟨fun b61 => ?_, fun b61 => ?_⟩
              · rw [if_neg (not_not_intro (none_t (not_f b61)))] at h
                refine ⟨b61, ?_⟩
                refine ⟨b61, ?_⟩
                refine ⟨rfl, ?_⟩
                refine ⟨rfl, ?_⟩
                refine ⟨rfl, ?_⟩
                refine ⟨rfl, ?_⟩
                refine ⟨trivial, ?_⟩
                refine ⟨trivial, ?_⟩
                obtain rfl := Option.some.inj h
                exact ⟨trivial, ⟨trivial, trivial⟩, rfl, rfl⟩
              · rw [if_pos (none_f (not_t b61))] at h
                refine ⟨b61, ?_⟩
                refine ⟨b61, ?_⟩
                refine ⟨rfl, ?_⟩
                refine ⟨rfl, ?_⟩
                refine ⟨rfl, ?_⟩
                refine ⟨rfl, ?_⟩
                refine ⟨trivial, ?_⟩
                refine ⟨trivial, ?_⟩
                obtain rfl := Option.some.inj h
                exact ⟨trivial, ⟨trivial, trivial⟩, rfl, rfl⟩
          · rw [if_neg (of_decide_eq_false b54)] at h
            refine ⟨b54, ?_⟩
            refine ⟨b54, ?_⟩
            refine ⟨b54, ?_⟩
            refine ⟨rfl, ?_⟩
            refine ⟨rfl, ?_⟩
            refine ⟨rfl, ?_⟩
            refine ⟨rfl, ?_⟩
            refine ⟨rfl, ?_⟩
            refine ⟨rfl, ?_⟩
            refine ⟨rfl, ?_⟩
            refine ⟨rfl, ?_⟩
            refine ⟨rfl, ?_⟩
            refine ⟨fun b62 => ?_, fun b62 => ?_⟩
            · rw [if_neg (not_not_intro (none_t (not_f b62)))] at h
              refine ⟨b62, ?_⟩
              refine ⟨b62, ?_⟩
              refine ⟨rfl, ?_⟩
              refine ⟨rfl, ?_⟩
              refine ⟨rfl, ?_⟩
              refine ⟨rfl, ?_⟩
              refine ⟨trivial, ?_⟩
              refine ⟨trivial, ?_⟩
              obtain rfl := Option.some.inj h
              exact ⟨trivial, ⟨trivial, trivial⟩, rfl, rfl⟩
            · rw [if_pos (none_f (not_t b62))] at h
              refine ⟨b62, ?_⟩
              refine ⟨b62, ?_⟩
              refine ⟨rfl, ?_⟩
              refine ⟨rfl, ?_⟩
              refine ⟨rfl, ?_⟩
              refine ⟨rfl, ?_⟩
              refine ⟨trivial, ?_⟩
              refine ⟨trivial, ?_⟩
              obtain rfl := Option.some.inj h
              exact ⟨trivial, ⟨trivial, trivial⟩, rfl, rfl⟩
        · rw [if_neg (of_decide_eq_false b53)] at h
          refine ⟨b53, ?_⟩
          refine ⟨b53, ?_⟩
          refine ⟨b53, ?_⟩
          refine ⟨rfl, ?_⟩
          refine ⟨rfl, ?_⟩
          refine ⟨rfl, ?_⟩
          refine ⟨rfl, ?_⟩
          refine ⟨rfl, ?_⟩
          refine ⟨rfl, ?_⟩
          refine ⟨rfl, ?_⟩
          refine ⟨rfl, ?_⟩
          refine ⟨rfl, ?_⟩
          refine ⟨rfl, ?_⟩
          refine ⟨rfl, ?_⟩
          refine ⟨rfl, ?_⟩
          refine ⟨rfl, ?_⟩
          refine ⟨fun b63 => ?_, fun b63 => ?_⟩
          · rw [if_neg (not_not_intro (none_t (not_f b63)))] at h
            refine ⟨b63, ?_⟩
            refine ⟨b63, ?_⟩
            refine ⟨rfl, ?_⟩
            refine ⟨rfl, ?_⟩
            refine ⟨rfl, ?_⟩
            refine ⟨rfl, ?_⟩
            refine ⟨trivial, ?_⟩
            refine ⟨trivial, ?_⟩
            obtain rfl := Option.some.inj h
            exact ⟨trivial, ⟨trivial, trivial⟩, rfl, rfl⟩
          · rw [if_pos (none_f (not_t b63))] at h
            refine ⟨b63, ?_⟩
            refine ⟨b63, ?_⟩
            refine ⟨rfl, ?_⟩
            refine ⟨rfl, ?_⟩
            refine ⟨rfl, ?_⟩
            refine ⟨rfl, ?_⟩
            refine ⟨trivial, ?_⟩
            refine ⟨trivial, ?_⟩
            obtain rfl := Option.some.inj h
            exact ⟨trivial, ⟨trivial, trivial⟩, rfl, rfl⟩
    · rw [if_neg (none_f b4)] at h
      refine ⟨b4, ?_⟩
      refine ⟨b4, ?_⟩
      refine ⟨b4, ?_⟩
      refine ⟨b4, ?_⟩
      refine ⟨trivial, ?_⟩
      obtain ⟨t64, ht64, h⟩ := of_bind h
      refine ⟨t64, ⟨regs_Check.fun_ ht64, trivial⟩, ?_⟩
      refine ⟨trivial, ?_⟩
      refine ⟨fun b65 => ?_, fun b65 => ?_⟩
      · rw [if_pos (none_t b65)] at h
        refine ⟨b65, ?_⟩
        refine ⟨trivial, ?_⟩
        refine ⟨b65, ?_⟩
        obtain ⟨t66, ht66, h⟩ := of_bind h
        refine ⟨t66, ⟨fds_Check.fun_ ht66, trivial⟩, ?_⟩
        refine ⟨b65, ?_⟩
        refine ⟨trivial, ?_⟩
        refine ⟨b65, ?_⟩
        refine ⟨fun b67 => ?_, fun b67 => ?_⟩
        · rw [if_pos (none_t b67)] at h
          refine ⟨b67, ?_⟩
          refine ⟨trivial, ?_⟩
          refine ⟨b67, ?_⟩
          obtain ⟨t68, ht68, h⟩ := of_bind h
          refine ⟨t68, ⟨sig_Check.fun_ ht68, trivial⟩, ?_⟩
          refine ⟨b67, ?_⟩
          refine ⟨trivial, ?_⟩
          refine ⟨b67, ?_⟩
          refine ⟨fun b69 => ?_, fun b69 => ?_⟩
          · rw [if_pos (none_t b69)] at h
            refine ⟨b69, ?_⟩
            refine ⟨trivial, ?_⟩
            refine ⟨b69, ?_⟩
            obtain ⟨t70, ht70, h⟩ := of_bind h
            refine ⟨t70, ⟨trace_Check.fun_ ht70, trivial⟩, ?_⟩
            refine ⟨b69, ?_⟩
            refine ⟨trivial, ?_⟩
            refine ⟨b69, ?_⟩
            refine ⟨trivial, ?_⟩
            refine ⟨trivial, ?_⟩
            refine ⟨fun b71 => ?_, fun b71 => ?_⟩
            · rw [if_pos (of_decide_eq_true b71)] at h
              refine ⟨b71, ?_⟩
              refine ⟨trivial, ?_⟩
              refine ⟨b71, ?_⟩
              refine ⟨trivial, ?_⟩
              refine ⟨b71, ?_⟩
              refine ⟨fun b72 => ?_, fun b72 => ?_⟩
              · rw [if_pos (of_decide_eq_true b72)] at h
                refine ⟨b72, ?_⟩
                refine ⟨trivial, ?_⟩
                refine ⟨b72, ?_⟩
                refine ⟨trivial, ?_⟩
                refine ⟨b72, ?_⟩
                refine ⟨fun b73 => ?_, fun b73 => ?_⟩
                · rw [if_pos (of_decide_eq_true b73)] at h
                  refine ⟨b73, ?_⟩
                  refine ⟨trivial, ?_⟩
                  refine ⟨b73, ?_⟩
                  refine ⟨trivial, ?_⟩
                  refine ⟨b73, ?_⟩
                  refine ⟨fun b74 => ?_, fun b74 => ?_⟩
                  · rw [if_pos (of_decide_eq_true b74)] at h
                    refine ⟨b74, ?_⟩
                    refine ⟨trivial, ?_⟩
                    refine ⟨b74, ?_⟩
                    refine ⟨fun b75 => ?_, fun b75 => ?_⟩
                    · rw [if_neg (ff b75)] at h
                      refine ⟨b75, ?_⟩
                      refine ⟨trivial, ?_⟩
                      refine ⟨b75, ?_⟩
                      refine ⟨b74, ?_⟩
                      refine ⟨b75, ?_⟩
                      refine ⟨b74, ?_⟩
                      refine ⟨rfl, ?_⟩
                      refine ⟨rfl, ?_⟩
                      refine ⟨rfl, ?_⟩
                      refine ⟨rfl, ?_⟩
                      refine ⟨rfl, ?_⟩
                      refine ⟨rfl, ?_⟩
                      refine ⟨rfl, ?_⟩
                      refine ⟨trivial, ?_⟩
                      refine ⟨trivial, ?_⟩
                      obtain rfl := Option.some.inj h
                      exact ⟨trivial, ⟨trivial, trivial⟩, rfl, rfl⟩
                    · rw [if_pos b75] at h
                      refine ⟨b75, ?_⟩
                      refine ⟨b75, ?_⟩
                      refine ⟨b74, ?_⟩
                      refine ⟨b75, ?_⟩
                      refine ⟨b74, ?_⟩
                      refine ⟨rfl, ?_⟩
                      refine ⟨rfl, ?_⟩
                      refine ⟨rfl, ?_⟩
                      refine ⟨rfl, ?_⟩
                      refine ⟨rfl, ?_⟩
                      refine ⟨rfl, ?_⟩
                      refine ⟨rfl, ?_⟩
                      refine ⟨trivial, ?_⟩
                      refine ⟨trivial, ?_⟩
                      obtain rfl := Option.some.inj h
                      exact ⟨trivial, ⟨trivial, trivial⟩, rfl, rfl⟩
                  · rw [if_neg (of_decide_eq_false b74)] at h
                    refine ⟨b74, ?_⟩
                    refine ⟨b74, ?_⟩
                    refine ⟨b74, ?_⟩
                    refine ⟨b74, ?_⟩
                    refine ⟨rfl, ?_⟩
                    refine ⟨rfl, ?_⟩
                    refine ⟨rfl, ?_⟩
                    refine ⟨rfl, ?_⟩
                    refine ⟨rfl, ?_⟩
                    refine ⟨rfl, ?_⟩
                    refine ⟨rfl, ?_⟩
                    refine ⟨trivial, ?_⟩
                    refine ⟨trivial, ?_⟩
                    obtain rfl := Option.some.inj h
                    exact ⟨trivial, ⟨trivial, trivial⟩, rfl, rfl⟩
                · rw [if_neg (of_decide_eq_false b73)] at h
                  refine ⟨b73, ?_⟩
                  refine ⟨b73, ?_⟩
                  refine ⟨b73, ?_⟩
                  refine ⟨rfl, ?_⟩
                  refine ⟨rfl, ?_⟩
                  refine ⟨rfl, ?_⟩
                  refine ⟨rfl, ?_⟩
                  refine ⟨rfl, ?_⟩
                  refine ⟨rfl, ?_⟩
                  refine ⟨rfl, ?_⟩
                  refine ⟨rfl, ?_⟩
                  refine ⟨rfl, ?_⟩
                  refine ⟨rfl, ?_⟩
                  refine ⟨rfl, ?_⟩
                  refine ⟨rfl, ?_⟩
                  refine ⟨trivial, ?_⟩
                  refine ⟨trivial, ?_⟩
                  obtain rfl := Option.some.inj h
                  exact ⟨trivial, ⟨trivial, trivial⟩, rfl, rfl⟩
              · rw [if_neg (of_decide_eq_false b72)] at h
                refine ⟨b72, ?_⟩
                refine ⟨b72, ?_⟩
                refine ⟨b72, ?_⟩
                refine ⟨rfl, ?_⟩
                refine ⟨rfl, ?_⟩
                refine ⟨rfl, ?_⟩
                refine ⟨rfl, ?_⟩
                refine ⟨rfl, ?_⟩
                refine ⟨rfl, ?_⟩
                refine ⟨rfl, ?_⟩
                refine ⟨rfl, ?_⟩
                refine ⟨rfl, ?_⟩
                refine ⟨rfl, ?_⟩
                refine ⟨rfl, ?_⟩
                refine ⟨rfl, ?_⟩
                refine ⟨rfl, ?_⟩
                refine ⟨rfl, ?_⟩
                refine ⟨rfl, ?_⟩
                refine ⟨rfl, ?_⟩
                refine ⟨trivial, ?_⟩
                refine ⟨trivial, ?_⟩
                obtain rfl := Option.some.inj h
                exact ⟨trivial, ⟨trivial, trivial⟩, rfl, rfl⟩
            · rw [if_neg (of_decide_eq_false b71)] at h
              refine ⟨b71, ?_⟩
              refine ⟨b71, ?_⟩
              refine ⟨b71, ?_⟩
              refine ⟨rfl, ?_⟩
              refine ⟨rfl, ?_⟩
              refine ⟨rfl, ?_⟩
              refine ⟨rfl, ?_⟩
              refine ⟨rfl, ?_⟩
              refine ⟨rfl, ?_⟩
              refine ⟨rfl, ?_⟩
              refine ⟨rfl, ?_⟩
              refine ⟨rfl, ?_⟩
              refine ⟨rfl, ?_⟩
              refine ⟨rfl, ?_⟩
              refine ⟨rfl, ?_⟩
              refine ⟨rfl, ?_⟩
              refine ⟨rfl, ?_⟩
              refine ⟨rfl, ?_⟩
              refine ⟨rfl, ?_⟩
              refine ⟨rfl, ?_⟩
              refine ⟨rfl, ?_⟩
              refine ⟨rfl, ?_⟩
              refine ⟨rfl, ?_⟩
              refine ⟨trivial, ?_⟩
              refine ⟨trivial, ?_⟩
              obtain rfl := Option.some.inj h
              exact ⟨trivial, ⟨trivial, trivial⟩, rfl, rfl⟩
          · rw [if_neg (none_f b69)] at h
            refine ⟨b69, ?_⟩
            refine ⟨b69, ?_⟩
            refine ⟨b69, ?_⟩
            refine ⟨b69, ?_⟩
            refine ⟨trivial, ?_⟩
            refine ⟨trivial, ?_⟩
            refine ⟨fun b76 => ?_, fun b76 => ?_⟩
            · rw [if_pos (of_decide_eq_true b76)] at h
              refine ⟨b76, ?_⟩
              refine ⟨trivial, ?_⟩
              refine ⟨b76, ?_⟩
              refine ⟨trivial, ?_⟩
              refine ⟨b76, ?_⟩
              refine ⟨fun b77 => ?_, fun b77 => ?_⟩
              · rw [if_pos (of_decide_eq_true b77)] at h
                refine ⟨b77, ?_⟩
                refine ⟨trivial, ?_⟩
                refine ⟨b77, ?_⟩
                refine ⟨trivial, ?_⟩
                refine ⟨b77, ?_⟩
                refine ⟨fun b78 => ?_, fun b78 => ?_⟩
                · rw [if_pos (of_decide_eq_true b78)] at h
                  refine ⟨b78, ?_⟩
                  refine ⟨trivial, ?_⟩
                  refine ⟨b78, ?_⟩
                  refine ⟨trivial, ?_⟩
                  refine ⟨b78, ?_⟩
                  refine ⟨fun b79 => ?_, fun b79 => ?_⟩
                  · rw [if_pos (of_decide_eq_true b79)] at h
                    refine ⟨b79, ?_⟩
                    refine ⟨trivial, ?_⟩
                    refine ⟨b79, ?_⟩
                    refine ⟨fun b80 => ?_, fun b80 => ?_⟩
                    · rw [if_neg (ff b80)] at h
                      refine ⟨b80, ?_⟩
                      refine ⟨trivial, ?_⟩
                      refine ⟨b80, ?_⟩
                      refine ⟨b79, ?_⟩
                      refine ⟨b80, ?_⟩
                      refine ⟨b79, ?_⟩
                      refine ⟨rfl, ?_⟩
                      refine ⟨rfl, ?_⟩
                      refine ⟨rfl, ?_⟩
                      refine ⟨rfl, ?_⟩
                      refine ⟨rfl, ?_⟩
                      refine ⟨rfl, ?_⟩
                      refine ⟨rfl, ?_⟩
                      refine ⟨trivial, ?_⟩
                      refine ⟨trivial, ?_⟩
                      obtain rfl := Option.some.inj h
                      exact ⟨trivial, ⟨trivial, trivial⟩, rfl, rfl⟩
                    · rw [if_pos b80] at h
                      refine ⟨b80, ?_⟩
                      refine ⟨b80, ?_⟩
                      refine ⟨b79, ?_⟩
                      refine ⟨b80, ?_⟩
                      refine ⟨b79, ?_⟩
                      refine ⟨rfl, ?_⟩
                      refine ⟨rfl, ?_⟩
                      refine ⟨rfl, ?_⟩
                      refine ⟨rfl, ?_⟩
                      refine ⟨rfl, ?_⟩
                      refine ⟨rfl, ?_⟩
                      refine ⟨rfl, ?_⟩
                      refine ⟨trivial, ?_⟩
                      refine ⟨trivial, ?_⟩
                      obtain rfl := Option.some.inj h
                      exact ⟨trivial, ⟨trivial, trivial⟩, rfl, rfl⟩
                  · rw [if_neg (of_decide_eq_false b79)] at h
                    refine ⟨b79, ?_⟩
                    refine ⟨b79, ?_⟩
                    refine ⟨b79, ?_⟩
                    refine ⟨b79, ?_⟩
                    refine ⟨rfl, ?_⟩
                    refine ⟨rfl, ?_⟩
                    refine ⟨rfl, ?_⟩
                    refine ⟨rfl, ?_⟩
                    refine ⟨rfl, ?_⟩
                    refine ⟨rfl, ?_⟩
                    refine ⟨rfl, ?_⟩
                    refine ⟨trivial, ?_⟩
                    refine ⟨trivial, ?_⟩
                    obtain rfl := Option.some.inj h
                    exact ⟨trivial, ⟨trivial, trivial⟩, rfl, rfl⟩
                · rw [if_neg (of_decide_eq_false b78)] at h
                  refine ⟨b78, ?_⟩
                  refine ⟨b78, ?_⟩
                  refine ⟨b78, ?_⟩
                  refine ⟨rfl, ?_⟩
                  refine ⟨rfl, ?_⟩
                  refine ⟨rfl, ?_⟩
                  refine ⟨rfl, ?_⟩
                  refine ⟨rfl, ?_⟩
                  refine ⟨rfl, ?_⟩
                  refine ⟨rfl, ?_⟩
                  refine ⟨rfl, ?_⟩
                  refine ⟨rfl, ?_⟩
                  refine ⟨rfl, ?_⟩
                  refine ⟨rfl, ?_⟩
                  refine ⟨rfl, ?_⟩
                  refine ⟨trivial, ?_⟩
                  refine ⟨trivial, ?_⟩
                  obtain rfl := Option.some.inj h
                  exact ⟨trivial, ⟨trivial, trivial⟩, rfl, rfl⟩
              · rw [if_neg (of_decide_eq_false b77)] at h
                refine ⟨b77, ?_⟩
                refine ⟨b77, ?_⟩
                refine ⟨b77, ?_⟩
                refine ⟨rfl, ?_⟩
                refine ⟨rfl, ?_⟩
                refine ⟨rfl, ?_⟩
                refine ⟨rfl, ?_⟩
                refine ⟨rfl, ?_⟩
                refine ⟨rfl, ?_⟩
                refine ⟨rfl, ?_⟩
                refine ⟨rfl, ?_⟩
                refine ⟨rfl, ?_⟩
                refine ⟨rfl, ?_⟩
                refine ⟨rfl, ?_⟩
                refine ⟨rfl, ?_⟩
                refine ⟨rfl, ?_⟩
                refine ⟨rfl, ?_⟩
                refine ⟨rfl, ?_⟩
                refine ⟨rfl, ?_⟩
                refine ⟨trivial, ?_⟩
                refine ⟨trivial, ?_⟩
                obtain rfl := Option.some.inj h
                exact ⟨trivial, ⟨trivial, trivial⟩, rfl, rfl⟩
            · rw [if_neg (of_decide_eq_false b76)] at h
              refine ⟨b76, ?_⟩
              refine ⟨b76, ?_⟩
              refine ⟨b76, ?_⟩
              refine ⟨rfl, ?_⟩
              refine ⟨rfl, ?_⟩
              refine ⟨rfl, ?_⟩
              refine ⟨rfl, ?_⟩
              refine ⟨rfl, ?_⟩
              refine ⟨rfl, ?_⟩
              refine ⟨rfl, ?_⟩
              refine ⟨rfl, ?_⟩
              refine ⟨rfl, ?_⟩
              refine ⟨rfl, ?_⟩
              refine ⟨rfl, ?_⟩
              refine ⟨rfl, ?_⟩
              refine ⟨rfl, ?_⟩
              refine ⟨rfl, ?_⟩
              refine ⟨rfl, ?_⟩
              refine ⟨rfl, ?_⟩
              refine ⟨rfl, ?_⟩
              refine ⟨rfl, ?_⟩
              refine ⟨rfl, ?_⟩
              refine ⟨rfl, ?_⟩
              refine ⟨trivial, ?_⟩
              refine ⟨trivial, ?_⟩
              obtain rfl := Option.some.inj h
              exact ⟨trivial, ⟨trivial, trivial⟩, rfl, rfl⟩
        · rw [if_neg (none_f b67)] at h
          refine ⟨b67, ?_⟩
          refine ⟨b67, ?_⟩
          refine ⟨b67, ?_⟩
          refine ⟨b67, ?_⟩
          refine ⟨rfl, ?_⟩
          refine ⟨rfl, ?_⟩
          refine ⟨rfl, ?_⟩
          refine ⟨rfl, ?_⟩
          refine ⟨rfl, ?_⟩
          refine ⟨trivial, ?_⟩
          refine ⟨trivial, ?_⟩
          refine ⟨fun b81 => ?_, fun b81 => ?_⟩
          · rw [if_pos (of_decide_eq_true b81)] at h
            refine ⟨b81, ?_⟩
            refine ⟨trivial, ?_⟩
            refine ⟨b81, ?_⟩
            refine ⟨trivial, ?_⟩
            refine ⟨b81, ?_⟩
            refine ⟨fun b82 => ?_, fun b82 => ?_⟩
            · rw [if_pos (of_decide_eq_true b82)] at h
              refine ⟨b82, ?_⟩
              refine ⟨trivial, ?_⟩
              refine ⟨b82, ?_⟩
              refine ⟨trivial, ?_⟩
              refine ⟨b82, ?_⟩
              refine ⟨fun b83 => ?_, fun b83 => ?_⟩
              · rw [if_pos (of_decide_eq_true b83)] at h
                refine ⟨b83, ?_⟩
                refine ⟨trivial, ?_⟩
                refine ⟨b83, ?_⟩
                refine ⟨trivial, ?_⟩
                refine ⟨b83, ?_⟩
                refine ⟨fun b84 => ?_, fun b84 => ?_⟩
                · rw [if_pos (of_decide_eq_true b84)] at h
                  refine ⟨b84, ?_⟩
                  refine ⟨trivial, ?_⟩
                  refine ⟨b84, ?_⟩
                  refine ⟨fun b85 => ?_, fun b85 => ?_⟩
                  · rw [if_neg (ff b85)] at h
                    refine ⟨b85, ?_⟩
                    refine ⟨trivial, ?_⟩
                    refine ⟨b85, ?_⟩
                    refine ⟨b84, ?_⟩
                    refine ⟨b85, ?_⟩
                    refine ⟨b84, ?_⟩
                    refine ⟨rfl, ?_⟩
                    refine ⟨rfl, ?_⟩
                    refine ⟨rfl, ?_⟩
                    refine ⟨rfl, ?_⟩
                    refine ⟨rfl, ?_⟩
                    refine ⟨rfl, ?_⟩
                    refine ⟨rfl, ?_⟩
                    refine ⟨trivial, ?_⟩
                    refine ⟨trivial, ?_⟩
                    obtain rfl := Option.some.inj h
                    exact ⟨trivial, ⟨trivial, trivial⟩, rfl, rfl⟩
                  · rw [if_pos b85] at h
                    refine ⟨b85, ?_⟩
                    refine ⟨b85, ?_⟩
                    refine ⟨b84, ?_⟩
                    refine ⟨b85, ?_⟩
                    refine ⟨b84, ?_⟩
                    refine ⟨rfl, ?_⟩
                    refine ⟨rfl, ?_⟩
                    refine ⟨rfl, ?_⟩
                    refine ⟨rfl, ?_⟩
                    refine ⟨rfl, ?_⟩
                    refine ⟨rfl, ?_⟩
                    refine ⟨rfl, ?_⟩
                    refine ⟨trivial, ?_⟩
                    refine ⟨trivial, ?_⟩
                    obtain rfl := Option.some.inj h
                    exact ⟨trivial, ⟨trivial, trivial⟩, rfl, rfl⟩
                · rw [if_neg (of_decide_eq_false b84)] at h
                  refine ⟨b84, ?_⟩
                  refine ⟨b84, ?_⟩
                  refine ⟨b84, ?_⟩
                  refine ⟨b84, ?_⟩
                  refine ⟨rfl, ?_⟩
                  refine ⟨rfl, ?_⟩
                  refine ⟨rfl, ?_⟩
                  refine ⟨rfl, ?_⟩
                  refine ⟨rfl, ?_⟩
                  refine ⟨rfl, ?_⟩
                  refine ⟨rfl, ?_⟩
                  refine ⟨trivial, ?_⟩
                  refine ⟨trivial, ?_⟩
                  obtain rfl := Option.some.inj h
                  exact ⟨trivial, ⟨trivial, trivial⟩, rfl, rfl⟩
              · rw [if_neg (of_decide_eq_false b83)] at h
                refine ⟨b83, ?_⟩
                refine ⟨b83, ?_⟩
                refine ⟨b83, ?_⟩
                refine ⟨rfl, ?_⟩
                refine ⟨rfl, ?_⟩
                refine ⟨rfl, ?_⟩
                refine ⟨rfl, ?_⟩
                refine ⟨rfl, ?_⟩
                refine ⟨rfl, ?_⟩
                refine ⟨rfl, ?_⟩
                refine ⟨rfl, ?_⟩
                refine ⟨rfl, ?_⟩
                refine ⟨rfl, ?_⟩
                refine ⟨rfl, ?_⟩
                refine ⟨rfl, ?_⟩
                refine ⟨trivial, ?_⟩
                refine ⟨trivial, ?_⟩
                obtain rfl := Option.some.inj h
                exact ⟨trivial, ⟨trivial, trivial⟩, rfl, rfl⟩
            · rw [if_neg (of_decide_eq_false b82)] at h
              refine ⟨b82, ?_⟩
              refine ⟨b82, ?_⟩
              refine ⟨b82, ?_⟩
              refine ⟨rfl, ?_⟩
              refine ⟨rfl, ?_⟩
              refine ⟨rfl, ?_⟩
              refine ⟨rfl, ?_⟩
              refine ⟨rfl, ?_⟩
              refine ⟨rfl, ?_⟩
              refine ⟨rfl, ?_⟩
              refine ⟨rfl, ?_⟩
              refine ⟨rfl, ?_⟩
              refine ⟨rfl, ?_⟩
              refine ⟨rfl, ?_⟩
              refine ⟨rfl, ?_⟩
              refine ⟨rfl, ?_⟩
              refine ⟨rfl, ?_⟩
              refine ⟨rfl, ?_⟩
              refine ⟨rfl, ?_⟩
              refine ⟨trivial, ?_⟩
              refine ⟨trivial, ?_⟩
              obtain rfl := Option.some.inj h
              exact ⟨trivial, ⟨trivial, trivial⟩, rfl, rfl⟩
          · rw [if_neg (of_decide_eq_false b81)] at h
            refine ⟨b81, ?_⟩
            refine ⟨b81, ?_⟩
            refine ⟨b81, ?_⟩
            refine ⟨rfl, ?_⟩
            refine ⟨rfl, ?_⟩
            refine ⟨rfl, ?_⟩
            refine ⟨rfl, ?_⟩
            refine ⟨rfl, ?_⟩
            refine ⟨rfl, ?_⟩
            refine ⟨rfl, ?_⟩
            refine ⟨rfl, ?_⟩
            refine ⟨rfl, ?_⟩
            refine ⟨rfl, ?_⟩
            refine ⟨rfl, ?_⟩
            refine ⟨rfl, ?_⟩
            refine ⟨rfl, ?_⟩
            refine ⟨rfl, ?_⟩
            refine ⟨rfl, ?_⟩
            refine ⟨rfl, ?_⟩
            refine ⟨rfl, ?_⟩
            refine ⟨rfl, ?_⟩
            refine ⟨rfl, ?_⟩
            refine ⟨rfl, ?_⟩
            refine ⟨trivial, ?_⟩
            refine ⟨trivial, ?_⟩
            obtain rfl := Option.some.inj h
            exact ⟨trivial, ⟨trivial, trivial⟩, rfl, rfl⟩
      · rw [if_neg (none_f b65)] at h
        refine ⟨b65, ?_⟩
        refine ⟨b65, ?_⟩
        refine ⟨b65, ?_⟩
        refine ⟨b65, ?_⟩
        refine ⟨rfl, ?_⟩
        refine ⟨rfl, ?_⟩
        refine ⟨rfl, ?_⟩
        refine ⟨rfl, ?_⟩
        refine ⟨rfl, ?_⟩
        refine ⟨rfl, ?_⟩
        refine ⟨rfl, ?_⟩
        refine ⟨rfl, ?_⟩
        refine ⟨rfl, ?_⟩
        refine ⟨rfl, ?_⟩
        refine ⟨trivial, ?_⟩
        refine ⟨trivial, ?_⟩
        refine ⟨fun b86 => ?_, fun b86 => ?_⟩
        · rw [if_pos (of_decide_eq_true b86)] at h
          refine ⟨b86, ?_⟩
          refine ⟨trivial, ?_⟩
          refine ⟨b86, ?_⟩
          refine ⟨trivial, ?_⟩
          refine ⟨b86, ?_⟩
          refine ⟨fun b87 => ?_, fun b87 => ?_⟩
          · rw [if_pos (of_decide_eq_true b87)] at h
            refine ⟨b87, ?_⟩
            refine ⟨trivial, ?_⟩
            refine ⟨b87, ?_⟩
            refine ⟨trivial, ?_⟩
            refine ⟨b87, ?_⟩
            refine ⟨fun b88 => ?_, fun b88 => ?_⟩
            · rw [if_pos (of_decide_eq_true b88)] at h
              refine ⟨b88, ?_⟩
              refine ⟨trivial, ?_⟩
              refine ⟨b88, ?_⟩
              refine ⟨trivial, ?_⟩
              refine ⟨b88, ?_⟩
              refine ⟨fun b89 => ?_, fun b89 => ?_⟩
              · rw [if_pos (of_decide_eq_true b89)] at h
                refine ⟨b89, ?_⟩
                refine ⟨trivial, ?_⟩
                refine ⟨b89, ?_⟩
                refine ⟨fun b90 => ?_, fun b90 => ?_⟩
                · rw [if_neg (ff b90)] at h
                  refine ⟨b90, ?_⟩
                  refine ⟨trivial, ?_⟩
                  refine ⟨b90, ?_⟩
                  refine ⟨b89, ?_⟩
                  refine ⟨b90, ?_⟩
                  refine ⟨b89, ?_⟩
                  refine ⟨rfl, ?_⟩
                  refine ⟨rfl, ?_⟩
                  refine ⟨rfl, ?_⟩
                  refine ⟨rfl, ?_⟩
                  refine ⟨rfl, ?_⟩
                  refine ⟨rfl, ?_⟩
                  refine ⟨rfl, ?_⟩
                  refine ⟨trivial, ?_⟩
                  refine ⟨trivial, ?_⟩
                  obtain rfl := Option.some.inj h
                  exact ⟨trivial, ⟨trivial, trivial⟩, rfl, rfl⟩
                · rw [if_pos b90] at h
                  refine ⟨b90, ?_⟩
                  refine ⟨b90, ?_⟩
                  refine ⟨b89, ?_⟩
                  refine ⟨b90, ?_⟩
                  refine ⟨b89, ?_⟩
                  refine ⟨rfl, ?_⟩
                  refine ⟨rfl, ?_⟩
                  refine ⟨rfl, ?_⟩
                  refine ⟨rfl, ?_⟩
                  refine ⟨rfl, ?_⟩
                  refine ⟨rfl, ?_⟩
                  refine ⟨rfl, ?_⟩
                  refine ⟨trivial, ?_⟩
                  refine ⟨trivial, ?_⟩
                  obtain rfl := Option.some.inj h
                  exact ⟨trivial, ⟨trivial, trivial⟩, rfl, rfl⟩
              · rw [if_neg (of_decide_eq_false b89)] at h
                refine ⟨b89, ?_⟩
                refine ⟨b89, ?_⟩
                refine ⟨b89, ?_⟩
                refine ⟨b89, ?_⟩
                refine ⟨rfl, ?_⟩
                refine ⟨rfl, ?_⟩
                refine ⟨rfl, ?_⟩
                refine ⟨rfl, ?_⟩
                refine ⟨rfl, ?_⟩
                refine ⟨rfl, ?_⟩
                refine ⟨rfl, ?_⟩
                refine ⟨trivial, ?_⟩
                refine ⟨trivial, ?_⟩
                obtain rfl := Option.some.inj h
                exact ⟨trivial, ⟨trivial, trivial⟩, rfl, rfl⟩
            · rw [if_neg (of_decide_eq_false b88)] at h
              refine ⟨b88, ?_⟩
              refine ⟨b88, ?_⟩
              refine ⟨b88, ?_⟩
              refine ⟨rfl, ?_⟩
              refine ⟨rfl, ?_⟩
              refine ⟨rfl, ?_⟩
              refine ⟨rfl, ?_⟩
              refine ⟨rfl, ?_⟩
              refine ⟨rfl, ?_⟩
              refine ⟨rfl, ?_⟩
              refine ⟨rfl, ?_⟩
              refine ⟨rfl, ?_⟩
              refine ⟨rfl, ?_⟩
              refine ⟨rfl, ?_⟩
              refine ⟨rfl, ?_⟩
              refine ⟨trivial, ?_⟩
              refine ⟨trivial, ?_⟩
              obtain rfl := Option.some.inj h
              exact ⟨trivial, ⟨trivial, trivial⟩, rfl, rfl⟩
          · rw [if_neg (of_decide_eq_false b87)] at h
            refine ⟨b87, ?_⟩
            refine ⟨b87, ?_⟩
            refine ⟨b87, ?_⟩
            refine ⟨rfl, ?_⟩
            refine ⟨rfl, ?_⟩
            refine ⟨rfl, ?_⟩
            refine ⟨rfl, ?_⟩
            refine ⟨rfl, ?_⟩
            refine ⟨rfl, ?_⟩
            refine ⟨rfl, ?_⟩
            refine ⟨rfl, ?_⟩
            refine ⟨rfl, ?_⟩
            refine ⟨rfl, ?_⟩
            refine ⟨rfl, ?_⟩
            refine ⟨rfl, ?_⟩
            refine ⟨rfl, ?_⟩
            refine ⟨rfl, ?_⟩
            refine ⟨rfl, ?_⟩
            refine ⟨rfl, ?_⟩
            refine ⟨trivial, ?_⟩
            refine ⟨trivial, ?_⟩
            obtain rfl := Option.some.inj h
            exact ⟨trivial, ⟨trivial, trivial⟩, rfl, rfl⟩
        · rw [if_neg (of_decide_eq_false b86)] at h
          refine ⟨b86, ?_⟩
          refine ⟨b86, ?_⟩
          refine ⟨b86, ?_⟩
          refine ⟨rfl, ?_⟩
          refine ⟨rfl, ?_⟩
          refine ⟨rfl, ?_⟩
          refine ⟨rfl, ?_⟩
          refine ⟨rfl, ?_⟩
          refine ⟨rfl, ?_⟩
          refine ⟨rfl, ?_⟩
          refine ⟨rfl, ?_⟩
          refine ⟨rfl, ?_⟩
          refine ⟨rfl, ?_⟩
          refine ⟨rfl, ?_⟩
          refine ⟨rfl, ?_⟩
          refine ⟨rfl, ?_⟩
          refine ⟨rfl, ?_⟩
          refine ⟨rfl, ?_⟩
          refine ⟨rfl, ?_⟩
          refine ⟨rfl, ?_⟩
          refine ⟨rfl, ?_⟩
          refine ⟨rfl, ?_⟩
          refine ⟨rfl, ?_⟩
          refine ⟨trivial, ?_⟩
          refine ⟨trivial, ?_⟩
          obtain rfl := Option.some.inj h
          exact ⟨trivial, ⟨trivial, trivial⟩, rfl, rfl⟩
  · rw [if_neg (none_f b2)] at h
    refine ⟨b2, ?_⟩
    refine ⟨b2, ?_⟩
    refine ⟨b2, ?_⟩
    refine ⟨b2, ?_⟩
    refine ⟨rfl, ?_⟩
    refine ⟨rfl, ?_⟩
    refine ⟨rfl, ?_⟩
    refine ⟨rfl, ?_⟩
    refine ⟨rfl, ?_⟩
    refine ⟨trivial, ?_⟩
    obtain ⟨t91, ht91, h⟩ := of_bind h
    refine ⟨t91, ⟨regs_Check.fun_ ht91, trivial⟩, ?_⟩
    refine ⟨trivial, ?_⟩
    refine ⟨fun b92 => ?_, fun b92 => ?_⟩
    · rw [if_pos (none_t b92)] at h
      refine ⟨b92, ?_⟩
      refine ⟨trivial, ?_⟩
      refine ⟨b92, ?_⟩
      obtain ⟨t93, ht93, h⟩ := of_bind h
      refine ⟨t93, ⟨fds_Check.fun_ ht93, trivial⟩, ?_⟩
      refine ⟨b92, ?_⟩
      refine ⟨trivial, ?_⟩
      refine ⟨b92, ?_⟩
      refine ⟨fun b94 => ?_, fun b94 => ?_⟩
      · rw [if_pos (none_t b94)] at h
        refine ⟨b94, ?_⟩
        refine ⟨trivial, ?_⟩
        refine ⟨b94, ?_⟩
        obtain ⟨t95, ht95, h⟩ := of_bind h
        refine ⟨t95, ⟨sig_Check.fun_ ht95, trivial⟩, ?_⟩
        refine ⟨b94, ?_⟩
        refine ⟨trivial, ?_⟩
        refine ⟨b94, ?_⟩
        refine ⟨fun b96 => ?_, fun b96 => ?_⟩
        · rw [if_pos (none_t b96)] at h
          refine ⟨b96, ?_⟩
          refine ⟨trivial, ?_⟩
          refine ⟨b96, ?_⟩
          obtain ⟨t97, ht97, h⟩ := of_bind h
          refine ⟨t97, ⟨trace_Check.fun_ ht97, trivial⟩, ?_⟩
          refine ⟨b96, ?_⟩
          refine ⟨trivial, ?_⟩
          refine ⟨b96, ?_⟩
          refine ⟨trivial, ?_⟩
          refine ⟨trivial, ?_⟩
          refine ⟨fun b98 => ?_, fun b98 => ?_⟩
          · rw [if_pos (of_decide_eq_true b98)] at h
            refine ⟨b98, ?_⟩
            refine ⟨trivial, ?_⟩
            refine ⟨b98, ?_⟩
            refine ⟨trivial, ?_⟩
            refine ⟨b98, ?_⟩
            refine ⟨fun b99 => ?_, fun b99 => ?_⟩
            · rw [if_pos (of_decide_eq_true b99)] at h
              refine ⟨b99, ?_⟩
              refine ⟨trivial, ?_⟩
              refine ⟨b99, ?_⟩
              refine ⟨trivial, ?_⟩
              refine ⟨b99, ?_⟩
              refine ⟨fun b100 => ?_, fun b100 => ?_⟩
              · rw [if_pos (of_decide_eq_true b100)] at h
                refine ⟨b100, ?_⟩
                refine ⟨trivial, ?_⟩
                refine ⟨b100, ?_⟩
                refine ⟨trivial, ?_⟩
                refine ⟨b100, ?_⟩
                refine ⟨fun b101 => ?_, fun b101 => ?_⟩
                · rw [if_pos (of_decide_eq_true b101)] at h
                  refine ⟨b101, ?_⟩
                  refine ⟨trivial, ?_⟩
                  refine ⟨b101, ?_⟩
                  refine ⟨fun b102 => ?_, fun b102 => ?_⟩
                  · rw [if_neg (ff b102)] at h
                    refine ⟨b102, ?_⟩
                    refine ⟨trivial, ?_⟩
                    refine ⟨b102, ?_⟩
                    refine ⟨b101, ?_⟩
                    refine ⟨b102, ?_⟩
                    refine ⟨b101, ?_⟩
                    refine ⟨rfl, ?_⟩
                    refine ⟨rfl, ?_⟩
                    refine ⟨rfl, ?_⟩
                    refine ⟨rfl, ?_⟩
                    refine ⟨rfl, ?_⟩
                    refine ⟨rfl, ?_⟩
                    refine ⟨rfl, ?_⟩
                    refine ⟨trivial, ?_⟩
                    refine ⟨trivial, ?_⟩
                    obtain rfl := Option.some.inj h
                    exact ⟨trivial, ⟨trivial, trivial⟩, rfl, rfl⟩
                  · rw [if_pos b102] at h
                    refine ⟨b102, ?_⟩
                    refine ⟨b102, ?_⟩
                    refine ⟨b101, ?_⟩
                    refine ⟨b102, ?_⟩
                    refine ⟨b101, ?_⟩
                    refine ⟨rfl, ?_⟩
                    refine ⟨rfl, ?_⟩
                    refine ⟨rfl, ?_⟩
                    refine ⟨rfl, ?_⟩
                    refine ⟨rfl, ?_⟩
                    refine ⟨rfl, ?_⟩
                    refine ⟨rfl, ?_⟩
                    refine ⟨trivial, ?_⟩
                    refine ⟨trivial, ?_⟩
                    obtain rfl := Option.some.inj h
                    exact ⟨trivial, ⟨trivial, trivial⟩, rfl, rfl⟩
                · rw [if_neg (of_decide_eq_false b101)] at h
                  refine ⟨b101, ?_⟩
                  refine ⟨b101, ?_⟩
                  refine ⟨b101, ?_⟩
                  refine ⟨b101, ?_⟩
                  refine ⟨rfl, ?_⟩
                  refine ⟨rfl, ?_⟩
                  refine ⟨rfl, ?_⟩
                  refine ⟨rfl, ?_⟩
                  refine ⟨rfl, ?_⟩
                  refine ⟨rfl, ?_⟩
                  refine ⟨rfl, ?_⟩
                  refine ⟨trivial, ?_⟩
                  refine ⟨trivial, ?_⟩
                  obtain rfl := Option.some.inj h
                  exact ⟨trivial, ⟨trivial, trivial⟩, rfl, rfl⟩
              · rw [if_neg (of_decide_eq_false b100)] at h
                refine ⟨b100, ?_⟩
                refine ⟨b100, ?_⟩
                refine ⟨b100, ?_⟩
                refine ⟨rfl, ?_⟩
                refine ⟨rfl, ?_⟩
                refine ⟨rfl, ?_⟩
                refine ⟨rfl, ?_⟩
                refine ⟨rfl, ?_⟩
                refine ⟨rfl, ?_⟩
                refine ⟨rfl, ?_⟩
                refine ⟨rfl, ?_⟩
                refine ⟨rfl, ?_⟩
                refine ⟨rfl, ?_⟩
                refine ⟨rfl, ?_⟩
                refine ⟨rfl, ?_⟩
                refine ⟨trivial, ?_⟩
                refine ⟨trivial, ?_⟩
                obtain rfl := Option.some.inj h
                exact ⟨trivial, ⟨trivial, trivial⟩, rfl, rfl⟩
            · rw [if_neg (of_decide_eq_false b99)] at h
              refine ⟨b99, ?_⟩
              refine ⟨b99, ?_⟩
              refine ⟨b99, ?_⟩
              refine ⟨rfl, ?_⟩
              refine ⟨rfl, ?_⟩
              refine ⟨rfl, ?_⟩
              refine ⟨rfl, ?_⟩
              refine ⟨rfl, ?_⟩
              refine ⟨rfl, ?_⟩
              refine ⟨rfl, ?_⟩
              refine ⟨rfl, ?_⟩
              refine ⟨rfl, ?_⟩
              refine ⟨rfl, ?_⟩
              refine ⟨rfl, ?_⟩
              refine ⟨rfl, ?_⟩
              refine ⟨rfl, ?_⟩
              refine ⟨rfl, ?_⟩
              refine ⟨rfl, ?_⟩
              refine ⟨rfl, ?_⟩
              refine ⟨trivial, ?_⟩
              refine ⟨trivial, ?_⟩
              obtain rfl := Option.some.inj h
              exact ⟨trivial, ⟨trivial, trivial⟩, rfl, rfl⟩
          · rw [if_neg (of_decide_eq_false b98)] at h
            refine ⟨b98, ?_⟩
            refine ⟨b98, ?_⟩
            refine ⟨b98, ?_⟩
            refine ⟨rfl, ?_⟩
            refine ⟨rfl, ?_⟩
            refine ⟨rfl, ?_⟩
            refine ⟨rfl, ?_⟩
            refine ⟨rfl, ?_⟩
            refine ⟨rfl, ?_⟩
            refine ⟨rfl, ?_⟩
            refine ⟨rfl, ?_⟩
            refine ⟨rfl, ?_⟩
            refine ⟨rfl, ?_⟩
            refine ⟨rfl, ?_⟩
            refine ⟨rfl, ?_⟩
            refine ⟨rfl, ?_⟩
            refine ⟨rfl, ?_⟩
            refine ⟨rfl, ?_⟩
            refine ⟨rfl, ?_⟩
            refine ⟨rfl, ?_⟩
            refine ⟨rfl, ?_⟩
            refine ⟨rfl, ?_⟩
            refine ⟨rfl, ?_⟩
            refine ⟨trivial, ?_⟩
            refine ⟨trivial, ?_⟩
            obtain rfl := Option.some.inj h
            exact ⟨trivial, ⟨trivial, trivial⟩, rfl, rfl⟩
        · rw [if_neg (none_f b96)] at h
          refine ⟨b96, ?_⟩
          refine ⟨b96, ?_⟩
          refine ⟨b96, ?_⟩
          refine ⟨b96, ?_⟩
          refine ⟨trivial, ?_⟩
          refine ⟨trivial, ?_⟩
          refine ⟨fun b103 => ?_, fun b103 => ?_⟩
          · rw [if_pos (of_decide_eq_true b103)] at h
            refine ⟨b103, ?_⟩
            refine ⟨trivial, ?_⟩
            refine ⟨b103, ?_⟩
            refine ⟨trivial, ?_⟩
            refine ⟨b103, ?_⟩
            refine ⟨fun b104 => ?_, fun b104 => ?_⟩
            · rw [if_pos (of_decide_eq_true b104)] at h
              refine ⟨b104, ?_⟩
              refine ⟨trivial, ?_⟩
              refine ⟨b104, ?_⟩
              refine ⟨trivial, ?_⟩
              refine ⟨b104, ?_⟩
              refine ⟨fun b105 => ?_, fun b105 => ?_⟩
              · rw [if_pos (of_decide_eq_true b105)] at h
                refine ⟨b105, ?_⟩
                refine ⟨trivial, ?_⟩
                refine ⟨b105, ?_⟩
                refine ⟨trivial, ?_⟩
                refine ⟨b105, ?_⟩
                refine ⟨fun b106 => ?_, fun b106 => ?_⟩
                · rw [if_pos (of_decide_eq_true b106)] at h
                  refine ⟨b106, ?_⟩
                  refine ⟨trivial, ?_⟩
                  refine ⟨b106, ?_⟩
                  refine ⟨fun b107 => ?_, fun b107 => ?_⟩
                  · rw [if_neg (ff b107)] at h
                    refine ⟨b107, ?_⟩
                    refine ⟨trivial, ?_⟩
                    refine ⟨b107, ?_⟩
                    refine ⟨b106, ?_⟩
                    refine ⟨b107, ?_⟩
                    refine ⟨b106, ?_⟩
                    refine ⟨rfl, ?_⟩
                    refine ⟨rfl, ?_⟩
                    refine ⟨rfl, ?_⟩
                    refine ⟨rfl, ?_⟩
                    refine ⟨rfl, ?_⟩
                    refine ⟨rfl, ?_⟩
                    refine ⟨rfl, ?_⟩
                    refine ⟨trivial, ?_⟩
                    refine ⟨trivial, ?_⟩
                    obtain rfl := Option.some.inj h
                    exact ⟨trivial, ⟨trivial, trivial⟩, rfl, rfl⟩
                  · rw [if_pos b107] at h
                    refine ⟨b107, ?_⟩
                    refine ⟨b107, ?_⟩
                    refine ⟨b106, ?_⟩
                    refine ⟨b107, ?_⟩
                    refine ⟨b106, ?_⟩
                    refine ⟨rfl, ?_⟩
                    refine ⟨rfl, ?_⟩
                    refine ⟨rfl, ?_⟩
                    refine ⟨rfl, ?_⟩
                    refine ⟨rfl, ?_⟩
                    refine ⟨rfl, ?_⟩
                    refine ⟨rfl, ?_⟩
                    refine ⟨trivial, ?_⟩
                    refine ⟨trivial, ?_⟩
                    obtain rfl := Option.some.inj h
                    exact ⟨trivial, ⟨trivial, trivial⟩, rfl, rfl⟩
                · rw [if_neg (of_decide_eq_false b106)] at h
                  refine ⟨b106, ?_⟩
                  refine ⟨b106, ?_⟩
                  refine ⟨b106, ?_⟩
                  refine ⟨b106, ?_⟩
                  refine ⟨rfl, ?_⟩
                  refine ⟨rfl, ?_⟩
                  refine ⟨rfl, ?_⟩
                  refine ⟨rfl, ?_⟩
                  refine ⟨rfl, ?_⟩
                  refine ⟨rfl, ?_⟩
                  refine ⟨rfl, ?_⟩
                  refine ⟨trivial, ?_⟩
                  refine ⟨trivial, ?_⟩
                  obtain rfl := Option.some.inj h
                  exact ⟨trivial, ⟨trivial, trivial⟩, rfl, rfl⟩
              · rw [if_neg (of_decide_eq_false b105)] at h
                refine ⟨b105, ?_⟩
                refine ⟨b105, ?_⟩
                refine ⟨b105, ?_⟩
                refine ⟨rfl, ?_⟩
                refine ⟨rfl, ?_⟩
                refine ⟨rfl, ?_⟩
                refine ⟨rfl, ?_⟩
                refine ⟨rfl, ?_⟩
                refine ⟨rfl, ?_⟩
                refine ⟨rfl, ?_⟩
                refine ⟨rfl, ?_⟩
                refine ⟨rfl, ?_⟩
                refine ⟨rfl, ?_⟩
                refine ⟨rfl, ?_⟩
                refine ⟨rfl, ?_⟩
                refine ⟨trivial, ?_⟩
                refine ⟨trivial, ?_⟩
                obtain rfl := Option.some.inj h
                exact ⟨trivial, ⟨trivial, trivial⟩, rfl, rfl⟩
            · rw [if_neg (of_decide_eq_false b104)] at h
              refine ⟨b104, ?_⟩
              refine ⟨b104, ?_⟩
              refine ⟨b104, ?_⟩
              refine ⟨rfl, ?_⟩
              refine ⟨rfl, ?_⟩
              refine ⟨rfl, ?_⟩
              refine ⟨rfl, ?_⟩
              refine ⟨rfl, ?_⟩
              refine ⟨rfl, ?_⟩
              refine ⟨rfl, ?_⟩
              refine ⟨rfl, ?_⟩
              refine ⟨rfl, ?_⟩
              refine ⟨rfl, ?_⟩
              refine ⟨rfl, ?_⟩
              refine ⟨rfl, ?_⟩
              refine ⟨rfl, ?_⟩
              refine ⟨rfl, ?_⟩
              refine ⟨rfl, ?_⟩
              refine ⟨rfl, ?_⟩
              refine ⟨trivial, ?_⟩
              refine ⟨trivial, ?_⟩
              obtain rfl := Option.some.inj h
              exact ⟨trivial, ⟨trivial, trivial⟩, rfl, rfl⟩
          · rw [if_neg (of_decide_eq_false b103)] at h
            refine ⟨b103, ?_⟩
            refine ⟨b103, ?_⟩
            refine ⟨b103, ?_⟩
            refine ⟨rfl, ?_⟩
            refine ⟨rfl, ?_⟩
            refine ⟨rfl, ?_⟩
            refine ⟨rfl, ?_⟩
            refine ⟨rfl, ?_⟩
            refine ⟨rfl, ?_⟩
            refine ⟨rfl, ?_⟩
            refine ⟨rfl, ?_⟩
            refine ⟨rfl, ?_⟩
            refine ⟨rfl, ?_⟩
            refine ⟨rfl, ?_⟩
            refine ⟨rfl, ?_⟩
            refine ⟨rfl, ?_⟩
            refine ⟨rfl, ?_⟩
            refine ⟨rfl, ?_⟩
            refine ⟨rfl, ?_⟩
            refine ⟨rfl, ?_⟩
            refine ⟨rfl, ?_⟩
            refine ⟨rfl, ?_⟩
            refine ⟨rfl, ?_⟩
            refine ⟨trivial, ?_⟩
            refine ⟨trivial, ?_⟩
            obtain rfl := Option.some.inj h
            exact ⟨trivial, ⟨trivial, trivial⟩, rfl, rfl⟩
      · rw [if_neg (none_f b94)] at h
        refine ⟨b94, ?_⟩
        refine ⟨b94, ?_⟩
        refine ⟨b94, ?_⟩
        refine ⟨b94, ?_⟩
        refine ⟨rfl, ?_⟩
        refine ⟨rfl, ?_⟩
        refine ⟨rfl, ?_⟩
        refine ⟨rfl, ?_⟩
        refine ⟨rfl, ?_⟩
        refine ⟨trivial, ?_⟩
        refine ⟨trivial, ?_⟩
        refine ⟨fun b108 => ?_, fun b108 => ?_⟩
        · rw [if_pos (of_decide_eq_true b108)] at h
          refine ⟨b108, ?_⟩
          refine ⟨trivial, ?_⟩
          refine ⟨b108, ?_⟩
          refine ⟨trivial, ?_⟩
          refine ⟨b108, ?_⟩
          refine ⟨fun b109 => ?_, fun b109 => ?_⟩
          · rw [if_pos (of_decide_eq_true b109)] at h
            refine ⟨b109, ?_⟩
            refine ⟨trivial, ?_⟩
            refine ⟨b109, ?_⟩
            refine ⟨trivial, ?_⟩
            refine ⟨b109, ?_⟩
            refine ⟨fun b110 => ?_, fun b110 => ?_⟩
            · rw [if_pos (of_decide_eq_true b110)] at h
              refine ⟨b110, ?_⟩
              refine ⟨trivial, ?_⟩
              refine ⟨b110, ?_⟩
              refine ⟨trivial, ?_⟩
              refine ⟨b110, ?_⟩
              refine ⟨fun b111 => ?_, fun b111 => ?_⟩
              · rw [if_pos (of_decide_eq_true b111)] at h
                refine ⟨b111, ?_⟩
                refine ⟨trivial, ?_⟩
                refine ⟨b111, ?_⟩
                refine ⟨fun b112 => ?_, fun b112 => ?_⟩
                · rw [if_neg (ff b112)] at h
                  refine ⟨b112, ?_⟩
                  refine ⟨trivial, ?_⟩
                  refine ⟨b112, ?_⟩
                  refine ⟨b111, ?_⟩
                  refine ⟨b112, ?_⟩
                  refine ⟨b111, ?_⟩
                  refine ⟨rfl, ?_⟩
                  refine ⟨rfl, ?_⟩
                  refine ⟨rfl, ?_⟩
                  refine ⟨rfl, ?_⟩
                  refine ⟨rfl, ?_⟩
                  refine ⟨rfl, ?_⟩
                  refine ⟨rfl, ?_⟩
                  refine ⟨trivial, ?_⟩
                  refine ⟨trivial, ?_⟩
                  obtain rfl := Option.some.inj h
                  exact ⟨trivial, ⟨trivial, trivial⟩, rfl, rfl⟩
                · rw [if_pos b112] at h
                  refine ⟨b112, ?_⟩
                  refine ⟨b112, ?_⟩
                  refine ⟨b111, ?_⟩
                  refine ⟨b112, ?_⟩
                  refine ⟨b111, ?_⟩
                  refine ⟨rfl, ?_⟩
                  refine ⟨rfl, ?_⟩
                  refine ⟨rfl, ?_⟩
                  refine ⟨rfl, ?_⟩
                  refine ⟨rfl, ?_⟩
                  refine ⟨rfl, ?_⟩
                  refine ⟨rfl, ?_⟩
                  refine ⟨trivial, ?_⟩
                  refine ⟨trivial, ?_⟩
                  obtain rfl := Option.some.inj h
                  exact ⟨trivial, ⟨trivial, trivial⟩, rfl, rfl⟩
              · rw [if_neg (of_decide_eq_false b111)] at h
                refine ⟨b111, ?_⟩
                refine ⟨b111, ?_⟩
                refine ⟨b111, ?_⟩
                refine ⟨b111, ?_⟩
                refine ⟨rfl, ?_⟩
                refine ⟨rfl, ?_⟩
                refine ⟨rfl, ?_⟩
                refine ⟨rfl, ?_⟩
                refine ⟨rfl, ?_⟩
                refine ⟨rfl, ?_⟩
                refine ⟨rfl, ?_⟩
                refine ⟨trivial, ?_⟩
                refine ⟨trivial, ?_⟩
                obtain rfl := Option.some.inj h
                exact ⟨trivial, ⟨trivial, trivial⟩, rfl, rfl⟩
            · rw [if_neg (of_decide_eq_false b110)] at h
              refine ⟨b110, ?_⟩
              refine ⟨b110, ?_⟩
              refine ⟨b110, ?_⟩
              refine ⟨rfl, ?_⟩
              refine ⟨rfl, ?_⟩
              refine ⟨rfl, ?_⟩
              refine ⟨rfl, ?_⟩
              refine ⟨rfl, ?_⟩
              refine ⟨rfl, ?_⟩
              refine ⟨rfl, ?_⟩
              refine ⟨rfl, ?_⟩
              refine ⟨rfl, ?_⟩
              refine ⟨rfl, ?_⟩
              refine ⟨rfl, ?_⟩
              refine ⟨rfl, ?_⟩
              refine ⟨trivial, ?_⟩
              refine ⟨trivial, ?_⟩
              obtain rfl := Option.some.inj h
              exact ⟨trivial, ⟨trivial, trivial⟩, rfl, rfl⟩
          · rw [if_neg (of_decide_eq_false b109)] at h
            refine ⟨b109, ?_⟩
            refine ⟨b109, ?_⟩
            refine ⟨b109, ?_⟩
            refine ⟨rfl, ?_⟩
            refine ⟨rfl, ?_⟩
            refine ⟨rfl, ?_⟩
            refine ⟨rfl, ?_⟩
            refine ⟨rfl, ?_⟩
            refine ⟨rfl, ?_⟩
            refine ⟨rfl, ?_⟩
            refine ⟨rfl, ?_⟩
            refine ⟨rfl, ?_⟩
            refine ⟨rfl, ?_⟩
            refine ⟨rfl, ?_⟩
            refine ⟨rfl, ?_⟩
            refine ⟨rfl, ?_⟩
            refine ⟨rfl, ?_⟩
            refine ⟨rfl, ?_⟩
            refine ⟨rfl, ?_⟩
            refine ⟨trivial, ?_⟩
            refine ⟨trivial, ?_⟩
            obtain rfl := Option.some.inj h
            exact ⟨trivial, ⟨trivial, trivial⟩, rfl, rfl⟩
        · rw [if_neg (of_decide_eq_false b108)] at h
          refine ⟨b108, ?_⟩
          refine ⟨b108, ?_⟩
          refine ⟨b108, ?_⟩
          refine ⟨rfl, ?_⟩
          refine ⟨rfl, ?_⟩
          refine ⟨rfl, ?_⟩
          refine ⟨rfl, ?_⟩
          refine ⟨rfl, ?_⟩
          refine ⟨rfl, ?_⟩
          refine ⟨rfl, ?_⟩
          refine ⟨rfl, ?_⟩
          refine ⟨rfl, ?_⟩
          refine ⟨rfl, ?_⟩
          refine ⟨rfl, ?_⟩
          refine ⟨rfl, ?_⟩
          refine ⟨rfl, ?_⟩
          refine ⟨rfl, ?_⟩
          refine ⟨rfl, ?_⟩
          refine ⟨rfl, ?_⟩
          refine ⟨rfl, ?_⟩
          refine ⟨rfl, ?_⟩
          refine ⟨rfl, ?_⟩
          refine ⟨rfl, ?_⟩
          refine ⟨trivial, ?_⟩
          refine ⟨trivial, ?_⟩
          obtain rfl := Option.some.inj h
          exact ⟨trivial, ⟨trivial, trivial⟩, rfl, rfl⟩
    · rw [if_neg (none_f b92)] at h
      refine ⟨b92, ?_⟩
      refine ⟨b92, ?_⟩
      refine ⟨b92, ?_⟩
      refine ⟨b92, ?_⟩
      refine ⟨rfl, ?_⟩
      refine ⟨rfl, ?_⟩
      refine ⟨rfl, ?_⟩
      refine ⟨rfl, ?_⟩
      refine ⟨rfl, ?_⟩
      refine ⟨rfl, ?_⟩
      refine ⟨rfl, ?_⟩
      refine ⟨rfl, ?_⟩
      refine ⟨rfl, ?_⟩
      refine ⟨rfl, ?_⟩
      refine ⟨trivial, ?_⟩
      refine ⟨trivial, ?_⟩
      refine ⟨fun b113 => ?_, fun b113 => ?_⟩
      · rw [if_pos (of_decide_eq_true b113)] at h
        refine ⟨b113, ?_⟩
        refine ⟨trivial, ?_⟩
        refine ⟨b113, ?_⟩
        refine ⟨trivial, ?_⟩
        refine ⟨b113, ?_⟩
        refine ⟨fun b114 => ?_, fun b114 => ?_⟩
        · rw [if_pos (of_decide_eq_true b114)] at h
          refine ⟨b114, ?_⟩
          refine ⟨trivial, ?_⟩
          refine ⟨b114, ?_⟩
          refine ⟨trivial, ?_⟩
          refine ⟨b114, ?_⟩
          refine ⟨fun b115 => ?_, fun b115 => ?_⟩
          · rw [if_pos (of_decide_eq_true b115)] at h
            refine ⟨b115, ?_⟩
            refine ⟨trivial, ?_⟩
            refine ⟨b115, ?_⟩
            refine ⟨trivial, ?_⟩
            refine ⟨b115, ?_⟩
            refine ⟨fun b116 => ?_, fun b116 => ?_⟩
            · rw [if_pos (of_decide_eq_true b116)] at h
              refine ⟨b116, ?_⟩
              refine ⟨trivial, ?_⟩
              refine ⟨b116, ?_⟩
              refine ⟨fun b117 => ?_, fun b117 => ?_⟩
              · rw [if_neg (ff b117)] at h
                refine ⟨b117, ?_⟩
                refine ⟨trivial, ?_⟩
                refine ⟨b117, ?_⟩
                refine ⟨b116, ?_⟩
                refine ⟨b117, ?_⟩
                refine ⟨b116, ?_⟩
                refine ⟨rfl, ?_⟩
                refine ⟨rfl, ?_⟩
                refine ⟨rfl, ?_⟩
                refine ⟨rfl, ?_⟩
                refine ⟨rfl, ?_⟩
                refine ⟨rfl, ?_⟩
                refine ⟨rfl, ?_⟩
                refine ⟨trivial, ?_⟩
                refine ⟨trivial, ?_⟩
                obtain rfl := Option.some.inj h
                exact ⟨trivial, ⟨trivial, trivial⟩, rfl, rfl⟩
              · rw [if_pos b117] at h
                refine ⟨b117, ?_⟩
                refine ⟨b117, ?_⟩
                refine ⟨b116, ?_⟩
                refine ⟨b117, ?_⟩
                refine ⟨b116, ?_⟩
                refine ⟨rfl, ?_⟩
                refine ⟨rfl, ?_⟩
                refine ⟨rfl, ?_⟩
                refine ⟨rfl, ?_⟩
                refine ⟨rfl, ?_⟩
                refine ⟨rfl, ?_⟩
                refine ⟨rfl, ?_⟩
                refine ⟨trivial, ?_⟩
                refine ⟨trivial, ?_⟩
                obtain rfl := Option.some.inj h
                exact ⟨trivial, ⟨trivial, trivial⟩, rfl, rfl⟩
            · rw [if_neg (of_decide_eq_false b116)] at h
              refine ⟨b116, ?_⟩
              refine ⟨b116, ?_⟩
              refine ⟨b116, ?_⟩
              refine ⟨b116, ?_⟩
              refine ⟨rfl, ?_⟩
              refine ⟨rfl, ?_⟩
              refine ⟨rfl, ?_⟩
              refine ⟨rfl, ?_⟩
              refine ⟨rfl, ?_⟩
              refine ⟨rfl, ?_⟩
              refine ⟨rfl, ?_⟩
              refine ⟨trivial, ?_⟩
              refine ⟨trivial, ?_⟩
              obtain rfl := Option.some.inj h
              exact ⟨trivial, ⟨trivial, trivial⟩, rfl, rfl⟩
          · rw [if_neg (of_decide_eq_false b115)] at h
            refine ⟨b115, ?_⟩
            refine ⟨b115, ?_⟩
            refine ⟨b115, ?_⟩
            refine ⟨rfl, ?_⟩
            refine ⟨rfl, ?_⟩
            refine ⟨rfl, ?_⟩
            refine ⟨rfl, ?_⟩
            refine ⟨rfl, ?_⟩
            refine ⟨rfl, ?_⟩
            refine ⟨rfl, ?_⟩
            refine ⟨rfl, ?_⟩
            refine ⟨rfl, ?_⟩
            refine ⟨rfl, ?_⟩
            refine ⟨rfl, ?_⟩
            refine ⟨rfl, ?_⟩
            refine ⟨trivial, ?_⟩
            refine ⟨trivial, ?_⟩
            obtain rfl := Option.some.inj h
            exact ⟨trivial, ⟨trivial, trivial⟩, rfl, rfl⟩
        · rw [if_neg (of_decide_eq_false b114)] at h
          refine ⟨b114, ?_⟩
          refine ⟨b114, ?_⟩
          refine ⟨b114, ?_⟩
          refine ⟨rfl, ?_⟩
          refine ⟨rfl, ?_⟩
          refine ⟨rfl, ?_⟩
          refine ⟨rfl, ?_⟩
          refine ⟨rfl, ?_⟩
          refine ⟨rfl, ?_⟩
          refine ⟨rfl, ?_⟩
          refine ⟨rfl, ?_⟩
          refine ⟨rfl, ?_⟩
          refine ⟨rfl, ?_⟩
          refine ⟨rfl, ?_⟩
          refine ⟨rfl, ?_⟩
          refine ⟨rfl, ?_⟩
          refine ⟨rfl, ?_⟩
          refine ⟨rfl, ?_⟩
          refine ⟨rfl, ?_⟩
          refine ⟨trivial, ?_⟩
          refine ⟨trivial, ?_⟩
          obtain rfl := Option.some.inj h
          exact ⟨trivial, ⟨trivial, trivial⟩, rfl, rfl⟩
      · rw [if_neg (of_decide_eq_false b113)] at h
        refine ⟨b113, ?_⟩
        refine ⟨b113, ?_⟩
        refine ⟨b113, ?_⟩
        refine ⟨rfl, ?_⟩
        refine ⟨rfl, ?_⟩
        refine ⟨rfl, ?_⟩
        refine ⟨rfl, ?_⟩
        refine ⟨rfl, ?_⟩
        refine ⟨rfl, ?_⟩
        refine ⟨rfl, ?_⟩
        refine ⟨rfl, ?_⟩
        refine ⟨rfl, ?_⟩
        refine ⟨rfl, ?_⟩
        refine ⟨rfl, ?_⟩
        refine ⟨rfl, ?_⟩
        refine ⟨rfl, ?_⟩
        refine ⟨rfl, ?_⟩
        refine ⟨rfl, ?_⟩
        refine ⟨rfl, ?_⟩
        refine ⟨rfl, ?_⟩
        refine ⟨rfl, ?_⟩
        refine ⟨rfl, ?_⟩
        refine ⟨rfl, ?_⟩
        refine ⟨trivial, ?_⟩
        refine ⟨trivial, ?_⟩
        obtain rfl := Option.some.inj h
        exact ⟨trivial, ⟨trivial, trivial⟩, rfl, rfl⟩
/-! halter/proc.begun -/
def proc_begun.f (a0 : Int) : Option ((List Int) × Int × Int × (List Int)) :=
  some ((List.set (List.replicate 16 (0 : Int)) 13 (1048576 : Int)), a0, (0 : Int), (List.replicate 4 (0 : Int)))
def proc_begun.R (r : (List Int) × Int × Int × (List Int)) : Tm := .v (.agg [.row 16 (.int .u32) r.1, .c (.sc (.int .u32 r.2.1)), .c (.sc (.int .u32 r.2.2.1)), .row 4 (.int .u64) r.2.2.2])
theorem proc_begun.fun_ {a0 : Int} {r : (List Int) × Int × Int × (List Int)} (h : proc_begun.f a0 = some r) : Fun cfg 27 [.one (.sc (.int .u32 a0))] [] (proc_begun.R r) [] := by
  unfold proc_begun.f at h
  refine fun_of_run cfg_ok (f := 27) (fn := Tryd.f27) Tryd.func27 rfl (by kernel_rfl) (rs := [.cell 2 36]) rfl (nt := 9) rfl (l := fin) (k := (.adj [] (.adj [] (.adj [] (.adj [] (.adj [] (.adj [.drop 0] .nil))))))) (to_goal (q := (True ∧ (True ∧ (True) ∧ (True ∧ (0 ≤ (13 : Int) ∧ (13 : Int) < ((16 : Nat) : Int)) ∧ (13 < 16) ∧ (True ∧ (True) ∧ (True) ∧ (True ∧ (((True) ∧ True) ∧ ((True) ∧ True) ∧ (.v (.agg [.row 16 (.int .u32) (List.set (List.replicate 16 (0 : Int)) 13 (1048576 : Int)), .c (.sc (.int .u32 a0)), .c (.sc (.int .u32 (0 : Int))), .row 4 (.int .u64) (List.replicate 4 (0 : Int))]) : Tm) = proc_begun.R r ∧ ([] : List Box) = []))))))) (by kernel_rfl) ?_)
  refine ⟨trivial, ?_⟩
  refine ⟨trivial, ?_⟩
  refine ⟨trivial, ?_⟩
  refine ⟨trivial, ?_⟩
  refine ⟨(by decide), ?_⟩
  refine ⟨(by decide), ?_⟩
  refine ⟨trivial, ?_⟩
  refine ⟨trivial, ?_⟩
  refine ⟨trivial, ?_⟩
  refine ⟨trivial, ?_⟩
  obtain rfl := Option.some.inj h
  exact ⟨⟨trivial, trivial⟩, ⟨trivial, trivial⟩, rfl, rfl⟩
/-! halter/proc.First -/
def proc_First.f (a0 : Int) (a1 : ByteArray) (a2 : Int) : Option (Int × Int × ByteArray × (List Int) × Int × Int × (List Int) × (List Int) × Int × Int × (List Int) × Int × Bool × Int × Int × Int × Bool × Bool × Bool × Int × Int × (Option Int)) :=
  (proc_begun.f a2).bind fun t1 =>
  (proc_Check.f a0 (0 : Int) a1 t1.1 t1.2.1 t1.2.2.1 t1.2.2.2 (List.replicate 8 (0 : Int)) (0 : Int) (0 : Int) (List.replicate 32 (0 : Int)) (0 : Int) false (0 : Int) (0 : Int) (0 : Int) false false false (0 : Int) (0 : Int)).bind fun t2 =>
  if ¬ (t2 = none) then
    some ((0 : Int), (0 : Int), ByteArray.empty, (List.replicate 16 (0 : Int)), (0 : Int), (0 : Int), (List.replicate 4 (0 : Int)), (List.replicate 8 (0 : Int)), (0 : Int), (0 : Int), (List.replicate 32 (0 : Int)), (0 : Int), false, (0 : Int), (0 : Int), (0 : Int), false, false, false, (0 : Int), (0 : Int), t2)
  else
    some (a0, (0 : Int), a1, t1.1, t1.2.1, t1.2.2.1, t1.2.2.2, (List.replicate 8 (0 : Int)), (0 : Int), (0 : Int), (List.replicate 32 (0 : Int)), (0 : Int), false, (0 : Int), (0 : Int), (0 : Int), false, false, false, (0 : Int), (0 : Int), none)
def proc_First.R (r : Int × Int × ByteArray × (List Int) × Int × Int × (List Int) × (List Int) × Int × Int × (List Int) × Int × Bool × Int × Int × Int × Bool × Bool × Bool × Int × Int × (Option Int)) : Tm := .tup [.agg [.c (.sc (.int .i64 r.1)), .c (.sc (.int .i64 r.2.1)), .c (.sc (.string r.2.2.1)), .row 16 (.int .u32) r.2.2.2.1, .c (.sc (.int .u32 r.2.2.2.2.1)), .c (.sc (.int .u32 r.2.2.2.2.2.1)), .row 4 (.int .u64) r.2.2.2.2.2.2.1, .row 8 (.int .i64) r.2.2.2.2.2.2.2.1, .c (.sc (.int .u32 r.2.2.2.2.2.2.2.2.1)), .c (.sc (.int .u32 r.2.2.2.2.2.2.2.2.2.1)), .row 32 (.int .u32) r.2.2.2.2.2.2.2.2.2.2.1, .c (.sc (.int .i64 r.2.2.2.2.2.2.2.2.2.2.2.1)), .c (.sc (.bool r.2.2.2.2.2.2.2.2.2.2.2.2.1)), .c (.sc (.int .u32 r.2.2.2.2.2.2.2.2.2.2.2.2.2.1)), .c (.sc (.int .i64 r.2.2.2.2.2.2.2.2.2.2.2.2.2.2.1)), .c (.sc (.int .i64 r.2.2.2.2.2.2.2.2.2.2.2.2.2.2.2.1)), .c (.sc (.bool r.2.2.2.2.2.2.2.2.2.2.2.2.2.2.2.2.1)), .c (.sc (.bool r.2.2.2.2.2.2.2.2.2.2.2.2.2.2.2.2.2.1)), .c (.sc (.bool r.2.2.2.2.2.2.2.2.2.2.2.2.2.2.2.2.2.2.1)), .c (.sc (.int .i64 r.2.2.2.2.2.2.2.2.2.2.2.2.2.2.2.2.2.2.2.1)), .c (.sc (.int .i64 r.2.2.2.2.2.2.2.2.2.2.2.2.2.2.2.2.2.2.2.2.1))], .one (.err r.2.2.2.2.2.2.2.2.2.2.2.2.2.2.2.2.2.2.2.2.2)]
theorem proc_First.fun_ {a0 : Int} {a1 : ByteArray} {a2 : Int} {r : Int × Int × ByteArray × (List Int) × Int × Int × (List Int) × (List Int) × Int × Int × (List Int) × Int × Bool × Int × Int × Int × Bool × Bool × Bool × Int × Int × (Option Int)} (h : proc_First.f a0 a1 a2 = some r) : Fun cfg 23 [.one (.sc (.int .i64 a0)), .one (.sc (.string a1)), .one (.sc (.int .u32 a2))] [] (proc_First.R r) [] := by
  unfold proc_First.f at h
  refine fun_of_run cfg_ok (f := 23) (fn := Tryd.f23) Tryd.func23 rfl (by kernel_rfl) (rs := [.cell 6 44, .tmp 7]) rfl (nt := 22) rfl (l := fin) (k := (.call true [] ((List Int) × Int × Int × (List Int)) (fun t1 => proc_begun.R t1) (fun t1 => (.call true [] ((Option Int)) (fun t2 => proc_Check.R t2) (fun t2 => (.br (.adj [] (.adj [] (.adj [.drop 0] .nil))) (.adj [] (.adj [] (.adj [] (.adj [.drop 0] .nil)))))))))) (to_goal (q := (∃ t1 : (List Int) × Int × Int × (List Int), (Fun cfg 27 [.one (.sc (.int .u32 a2))] [] (proc_begun.R t1) [] ∧ True) ∧ (True) ∧ (True) ∧ (∃ t2 : (Option Int), (Fun cfg 9 [.agg [.c (.sc (.int .i64 a0)), .c (.sc (.int .i64 (0 : Int))), .c (.sc (.string a1)), .row 16 (.int .u32) t1.1, .c (.sc (.int .u32 t1.2.1)), .c (.sc (.int .u32 t1.2.2.1)), .row 4 (.int .u64) t1.2.2.2, .row 8 (.int .i64) (List.replicate 8 (0 : Int)), .c (.sc (.int .u32 (0 : Int))), .c (.sc (.int .u32 (0 : Int))), .row 32 (.int .u32) (List.replicate 32 (0 : Int)), .c (.sc (.int .i64 (0 : Int))), .c (.sc (.bool false)), .c (.sc (.int .u32 (0 : Int))), .c (.sc (.int .i64 (0 : Int))), .c (.sc (.int .i64 (0 : Int))), .c (.sc (.bool false)), .c (.sc (.bool false)), .c (.sc (.bool false)), .c (.sc (.int .i64 (0 : Int))), .c (.sc (.int .i64 (0 : Int)))]] [] (proc_Check.R t2) [] ∧ True) ∧ (True) ∧ (((!(Option.isNone t2)) = true → (True ∧ (True) ∧ (True ∧ (((True) ∧ True) ∧ ((True) ∧ True) ∧ (.tup [.agg [.c (.sc (.int .i64 (0 : Int))), .c (.sc (.int .i64 (0 : Int))), .c (.sc (.string ByteArray.empty)), .row 16 (.int .u32) (List.replicate 16 (0 : Int)), .c (.sc (.int .u32 (0 : Int))), .c (.sc (.int .u32 (0 : Int))), .row 4 (.int .u64) (List.replicate 4 (0 : Int)), .row 8 (.int .i64) (List.replicate 8 (0 : Int)), .c (.sc (.int .u32 (0 : Int))), .c (.sc (.int .u32 (0 : Int))), .row 32 (.int .u32) (List.replicate 32 (0 : Int)), .c (.sc (.int .i64 (0 : Int))), .c (.sc (.bool false)), .c (.sc (.int .u32 (0 : Int))), .c (.sc (.int .i64 (0 : Int))), .c (.sc (.int .i64 (0 : Int))), .c (.sc (.bool false)), .c (.sc (.bool false)), .c (.sc (.bool false)), .c (.sc (.int .i64 (0 : Int))), .c (.sc (.int .i64 (0 : Int)))], .one (.err t2)] : Tm) = proc_First.R r ∧ ([] : List Box) = [])))) ∧ ((!(Option.isNone t2)) = false → (True ∧ (True ∧ (True) ∧ (True) ∧ (True ∧ (((True) ∧ True) ∧ ((True) ∧ True) ∧ (.tup [.agg [.c (.sc (.int .i64 a0)), .c (.sc (.int .i64 (0 : Int))), .c (.sc (.string a1)), .row 16 (.int .u32) t1.1, .c (.sc (.int .u32 t1.2.1)), .c (.sc (.int .u32 t1.2.2.1)), .row 4 (.int .u64) t1.2.2.2, .row 8 (.int .i64) (List.replicate 8 (0 : Int)), .c (.sc (.int .u32 (0 : Int))), .c (.sc (.int .u32 (0 : Int))), .row 32 (.int .u32) (List.replicate 32 (0 : Int)), .c (.sc (.int .i64 (0 : Int))), .c (.sc (.bool false)), .c (.sc (.int .u32 (0 : Int))), .c (.sc (.int .i64 (0 : Int))), .c (.sc (.int .i64 (0 : Int))), .c (.sc (.bool false)), .c (.sc (.bool false)), .c (.sc (.bool false)), .c (.sc (.int .i64 (0 : Int))), .c (.sc (.int .i64 (0 : Int)))], .one (.err none)] : Tm) = proc_First.R r ∧ ([] : List Box) = []))))))))) (by kernel_rfl) ?_)
  obtain ⟨t1, ht1, h⟩ := of_bind h
  refine ⟨t1, ⟨proc_begun.fun_ ht1, trivial⟩, ?_⟩
  refine ⟨trivial, ?_⟩
  refine ⟨trivial, ?_⟩
  obtain ⟨t2, ht2, h⟩ := of_bind h
  refine ⟨t2, ⟨proc_Check.fun_ ht2, trivial⟩, ?_⟩
  refine ⟨trivial, ?_⟩
  refine ⟨fun b3 => ?_, fun b3 => ?_⟩
  · rw [if_pos (none_f (not_t b3))] at h
    refine ⟨trivial, ?_⟩
    refine ⟨trivial, ?_⟩
    refine ⟨trivial, ?_⟩
    obtain rfl := Option.some.inj h
    exact ⟨⟨trivial, trivial⟩, ⟨trivial, trivial⟩, rfl, rfl⟩
  · rw [if_neg (not_not_intro (none_t (not_f b3)))] at h
    refine ⟨trivial, ?_⟩
    refine ⟨trivial, ?_⟩
    refine ⟨trivial, ?_⟩
    refine ⟨trivial, ?_⟩
    refine ⟨trivial, ?_⟩
    obtain rfl := Option.some.inj h
    exact ⟨⟨trivial, trivial⟩, ⟨trivial, trivial⟩, rfl, rfl⟩
/-! halter/sig.Fork -/
def sig_Fork.f (a0 : Int) (a1 : Int) (a2 : (List Int)) : Option (Int × Int × (List Int)) :=
  some ((0 : Int), a1, a2)
def sig_Fork.R (r : Int × Int × (List Int)) : Tm := .v (.agg [.c (.sc (.int .u32 r.1)), .c (.sc (.int .u32 r.2.1)), .row 32 (.int .u32) r.2.2])
theorem sig_Fork.fun_ {a0 : Int} {a1 : Int} {a2 : (List Int)} {r : Int × Int × (List Int)} (h : sig_Fork.f a0 a1 a2 = some r) : Fun cfg 26 [.agg [.c (.sc (.int .u32 a0)), .c (.sc (.int .u32 a1)), .row 32 (.int .u32) a2]] [] (sig_Fork.R r) [] := by
  unfold sig_Fork.f at h
  refine fun_of_run cfg_ok (f := 26) (fn := Tryd.f26) Tryd.func26 rfl (by kernel_rfl) (rs := [.cell 2 41]) rfl (nt := 5) rfl (l := fin) (k := (.adj [] (.adj [] (.adj [] (.adj [] (.adj [.drop 0] .nil)))))) (to_goal (q := (True ∧ (True ∧ (True) ∧ (True ∧ (True) ∧ (True) ∧ (True ∧ (((True) ∧ True) ∧ ((True) ∧ True) ∧ (.v (.agg [.c (.sc (.int .u32 (0 : Int))), .c (.sc (.int .u32 a1)), .row 32 (.int .u32) a2]) : Tm) = sig_Fork.R r ∧ ([] : List Box) = [])))))) (by kernel_rfl) ?_)
  refine ⟨trivial, ?_⟩
  refine ⟨trivial, ?_⟩
  refine ⟨trivial, ?_⟩
  refine ⟨trivial, ?_⟩
  refine ⟨trivial, ?_⟩
  refine ⟨trivial, ?_⟩
  refine ⟨trivial, ?_⟩
  obtain rfl := Option.some.inj h
  exact ⟨⟨trivial, trivial⟩, ⟨trivial, trivial⟩, rfl, rfl⟩
/-! halter/proc.Child -/
def proc_Child.f (a0 : Int) (a1 : Int) (a2 : ByteArray) (a3 : (List Int)) (a4 : Int) (a5 : Int) (a6 : (List Int)) (a7 : (List Int)) (a8 : Int) (a9 : Int) (a10 : (List Int)) (a11 : Int) (a12 : Bool) (a13 : Int) (a14 : Int) (a15 : Int) (a16 : Bool) (a17 : Bool) (a18 : Bool) (a19 : Int) (a20 : Int) (a21 : Int) : Option (Int × Int × ByteArray × (List Int) × Int × Int × (List Int) × (List Int) × Int × Int × (List Int) × Int × Bool × Int × Int × Int × Bool × Bool × Bool × Int × Int × (Option Int)) :=
  (proc_Check.f a0 a1 a2 a3 a4 a5 a6 a7 a8 a9 a10 a11 a12 a13 a14 a15 a16 a17 a18 a19 a20).bind fun t1 =>
  if ¬ (t1 = none) then
    some ((0 : Int), (0 : Int), ByteArray.empty, (List.replicate 16 (0 : Int)), (0 : Int), (0 : Int), (List.replicate 4 (0 : Int)), (List.replicate 8 (0 : Int)), (0 : Int), (0 : Int), (List.replicate 32 (0 : Int)), (0 : Int), false, (0 : Int), (0 : Int), (0 : Int), false, false, false, (0 : Int), (0 : Int), (some (22 : Int)))
  else
    (pids_Check.f a21).bind fun t3 =>
    if ¬ (t3 = none) then
      some ((0 : Int), (0 : Int), ByteArray.empty, (List.replicate 16 (0 : Int)), (0 : Int), (0 : Int), (List.replicate 4 (0 : Int)), (List.replicate 8 (0 : Int)), (0 : Int), (0 : Int), (List.replicate 32 (0 : Int)), (0 : Int), false, (0 : Int), (0 : Int), (0 : Int), false, false, false, (0 : Int), (0 : Int), (some (22 : Int)))
    else
      (sig_Fork.f a8 a9 a10).bind fun t5 =>
      some (a21, a1, a2, (List.set a3 0 (0 : Int)), a4, a5, a6, a7, t5.1, t5.2.1, t5.2.2, (0 : Int), false, (0 : Int), (0 : Int), (0 : Int), false, false, false, (0 : Int), a20, none)
def proc_Child.R (r : Int × Int × ByteArray × (List Int) × Int × Int × (List Int) × (List Int) × Int × Int × (List Int) × Int × Bool × Int × Int × Int × Bool × Bool × Bool × Int × Int × (Option Int)) : Tm := .tup [.agg [.c (.sc (.int .i64 r.1)), .c (.sc (.int .i64 r.2.1)), .c (.sc (.string r.2.2.1)), .row 16 (.int .u32) r.2.2.2.1, .c (.sc (.int .u32 r.2.2.2.2.1)), .c (.sc (.int .u32 r.2.2.2.2.2.1)), .row 4 (.int .u64) r.2.2.2.2.2.2.1, .row 8 (.int .i64) r.2.2.2.2.2.2.2.1, .c (.sc (.int .u32 r.2.2.2.2.2.2.2.2.1)), .c (.sc (.int .u32 r.2.2.2.2.2.2.2.2.2.1)), .row 32 (.int .u32) r.2.2.2.2.2.2.2.2.2.2.1, .c (.sc (.int .i64 r.2.2.2.2.2.2.2.2.2.2.2.1)), .c (.sc (.bool r.2.2.2.2.2.2.2.2.2.2.2.2.1)), .c (.sc (.int .u32 r.2.2.2.2.2.2.2.2.2.2.2.2.2.1)), .c (.sc (.int .i64 r.2.2.2.2.2.2.2.2.2.2.2.2.2.2.1)), .c (.sc (.int .i64 r.2.2.2.2.2.2.2.2.2.2.2.2.2.2.2.1)), .c (.sc (.bool r.2.2.2.2.2.2.2.2.2.2.2.2.2.2.2.2.1)), .c (.sc (.bool r.2.2.2.2.2.2.2.2.2.2.2.2.2.2.2.2.2.1)), .c (.sc (.bool r.2.2.2.2.2.2.2.2.2.2.2.2.2.2.2.2.2.2.1)), .c (.sc (.int .i64 r.2.2.2.2.2.2.2.2.2.2.2.2.2.2.2.2.2.2.2.1)), .c (.sc (.int .i64 r.2.2.2.2.2.2.2.2.2.2.2.2.2.2.2.2.2.2.2.2.1))], .one (.err r.2.2.2.2.2.2.2.2.2.2.2.2.2.2.2.2.2.2.2.2.2)]
theorem proc_Child.fun_ {a0 : Int} {a1 : Int} {a2 : ByteArray} {a3 : (List Int)} {a4 : Int} {a5 : Int} {a6 : (List Int)} {a7 : (List Int)} {a8 : Int} {a9 : Int} {a10 : (List Int)} {a11 : Int} {a12 : Bool} {a13 : Int} {a14 : Int} {a15 : Int} {a16 : Bool} {a17 : Bool} {a18 : Bool} {a19 : Int} {a20 : Int} {a21 : Int} {r : Int × Int × ByteArray × (List Int) × Int × Int × (List Int) × (List Int) × Int × Int × (List Int) × Int × Bool × Int × Int × Int × Bool × Bool × Bool × Int × Int × (Option Int)} (h : proc_Child.f a0 a1 a2 a3 a4 a5 a6 a7 a8 a9 a10 a11 a12 a13 a14 a15 a16 a17 a18 a19 a20 a21 = some r) : Fun cfg 12 [.agg [.c (.sc (.int .i64 a0)), .c (.sc (.int .i64 a1)), .c (.sc (.string a2)), .row 16 (.int .u32) a3, .c (.sc (.int .u32 a4)), .c (.sc (.int .u32 a5)), .row 4 (.int .u64) a6, .row 8 (.int .i64) a7, .c (.sc (.int .u32 a8)), .c (.sc (.int .u32 a9)), .row 32 (.int .u32) a10, .c (.sc (.int .i64 a11)), .c (.sc (.bool a12)), .c (.sc (.int .u32 a13)), .c (.sc (.int .i64 a14)), .c (.sc (.int .i64 a15)), .c (.sc (.bool a16)), .c (.sc (.bool a17)), .c (.sc (.bool a18)), .c (.sc (.int .i64 a19)), .c (.sc (.int .i64 a20))], .one (.sc (.int .i64 a21))] [] (proc_Child.R r) [] := by
  unfold proc_Child.f at h
  refine fun_of_run cfg_ok (f := 12) (fn := Tryd.f12) Tryd.func12 rfl (by kernel_rfl) (rs := [.cell 4 44, .tmp 5]) rfl (nt := 31) rfl (l := fin) (k := (.call true [] ((Option Int)) (fun t1 => proc_Check.R t1) (fun t1 => (.br (.one true (.one true (.one true (.one true (.adj [] (.adj [] (.adj [.drop 0] .nil))))))) (.one false (.call true [] ((Option Int)) (fun t3 => pids_Check.R t3) (fun t3 => (.one false (.one false (.br (.adj [] (.adj [] (.adj [.drop 0] .nil))) (.call true [] (Int × Int × (List Int)) (fun t5 => sig_Fork.R t5) (fun t5 => (.adj [] (.adj [] (.adj [] (.adj [.drop 0] .nil)))))))))))))))) (to_goal (q := (True) ∧ (∃ t1 : (Option Int), (Fun cfg 9 [.agg [.c (.sc (.int .i64 a0)), .c (.sc (.int .i64 a1)), .c (.sc (.string a2)), .row 16 (.int .u32) a3, .c (.sc (.int .u32 a4)), .c (.sc (.int .u32 a5)), .row 4 (.int .u64) a6, .row 8 (.int .i64) a7, .c (.sc (.int .u32 a8)), .c (.sc (.int .u32 a9)), .row 32 (.int .u32) a10, .c (.sc (.int .i64 a11)), .c (.sc (.bool a12)), .c (.sc (.int .u32 a13)), .c (.sc (.int .i64 a14)), .c (.sc (.int .i64 a15)), .c (.sc (.bool a16)), .c (.sc (.bool a17)), .c (.sc (.bool a18)), .c (.sc (.int .i64 a19)), .c (.sc (.int .i64 a20))]] [] (proc_Check.R t1) [] ∧ True) ∧ (True) ∧ (((!(Option.isNone t1)) = false → ((!(Option.isNone t1)) = false ∧ (∃ t3 : (Option Int), (Fun cfg 16 [.one (.sc (.int .i64 a21))] [] (pids_Check.R t3) [] ∧ True) ∧ ((!(Option.isNone t1)) = false ∧ (True) ∧ ((!(Option.isNone t1)) = false ∧ (((!(Option.isNone t3)) = true → (True ∧ (True) ∧ (True ∧ (((True) ∧ True) ∧ ((True) ∧ True) ∧ (.tup [.agg [.c (.sc (.int .i64 (0 : Int))), .c (.sc (.int .i64 (0 : Int))), .c (.sc (.string ByteArray.empty)), .row 16 (.int .u32) (List.replicate 16 (0 : Int)), .c (.sc (.int .u32 (0 : Int))), .c (.sc (.int .u32 (0 : Int))), .row 4 (.int .u64) (List.replicate 4 (0 : Int)), .row 8 (.int .i64) (List.replicate 8 (0 : Int)), .c (.sc (.int .u32 (0 : Int))), .c (.sc (.int .u32 (0 : Int))), .row 32 (.int .u32) (List.replicate 32 (0 : Int)), .c (.sc (.int .i64 (0 : Int))), .c (.sc (.bool false)), .c (.sc (.int .u32 (0 : Int))), .c (.sc (.int .i64 (0 : Int))), .c (.sc (.int .i64 (0 : Int))), .c (.sc (.bool false)), .c (.sc (.bool false)), .c (.sc (.bool false)), .c (.sc (.int .i64 (0 : Int))), .c (.sc (.int .i64 (0 : Int)))], .one (.err (some (22 : Int)))] : Tm) = proc_Child.R r ∧ ([] : List Box) = [])))) ∧ ((!(Option.isNone t3)) = false → (True) ∧ (∃ t5 : Int × Int × (List Int), (Fun cfg 26 [.agg [.c (.sc (.int .u32 a8)), .c (.sc (.int .u32 a9)), .row 32 (.int .u32) a10]] [] (sig_Fork.R t5) [] ∧ True) ∧ (True) ∧ (0 ≤ (0 : Int) ∧ (0 : Int) < ((16 : Nat) : Int)) ∧ (0 < 16) ∧ (True) ∧ (True) ∧ (True ∧ (True) ∧ (True) ∧ (True) ∧ (True ∧ (True) ∧ (True) ∧ (True ∧ (((True) ∧ True) ∧ ((True) ∧ True) ∧ (.tup [.agg [.c (.sc (.int .i64 a21)), .c (.sc (.int .i64 a1)), .c (.sc (.string a2)), .row 16 (.int .u32) (List.set a3 0 (0 : Int)), .c (.sc (.int .u32 a4)), .c (.sc (.int .u32 a5)), .row 4 (.int .u64) a6, .row 8 (.int .i64) a7, .c (.sc (.int .u32 t5.1)), .c (.sc (.int .u32 t5.2.1)), .row 32 (.int .u32) t5.2.2, .c (.sc (.int .i64 (0 : Int))), .c (.sc (.bool false)), .c (.sc (.int .u32 (0 : Int))), .c (.sc (.int .i64 (0 : Int))), .c (.sc (.int .i64 (0 : Int))), .c (.sc (.bool false)), .c (.sc (.bool false)), .c (.sc (.bool false)), .c (.sc (.int .i64 (0 : Int))), .c (.sc (.int .i64 a20))], .one (.err none)] : Tm) = proc_Child.R r ∧ ([] : List Box) = [])))))))))))) ∧ ((!(Option.isNone t1)) = true → ((!(Option.isNone t1)) = true ∧ ((!(Option.isNone t1)) = true ∧ ((!(Option.isNone t1)) = true ∧ (true = true ∧ (True ∧ (True) ∧ (True ∧ (((True) ∧ True) ∧ ((True) ∧ True) ∧ (.tup [.agg [.c (.sc (.int .i64 (0 : Int))), .c (.sc (.int .i64 (0 : Int))), .c (.sc (.string ByteArray.empty)), .row 16 (.int .u32) (List.replicate 16 (0 : Int)), .c (.sc (.int .u32 (0 : Int))), .c (.sc (.int .u32 (0 : Int))), .row 4 (.int .u64) (List.replicate 4 (0 : Int)), .row 8 (.int .i64) (List.replicate 8 (0 : Int)), .c (.sc (.int .u32 (0 : Int))), .c (.sc (.int .u32 (0 : Int))), .row 32 (.int .u32) (List.replicate 32 (0 : Int)), .c (.sc (.int .i64 (0 : Int))), .c (.sc (.bool false)), .c (.sc (.int .u32 (0 : Int))), .c (.sc (.int .i64 (0 : Int))), .c (.sc (.int .i64 (0 : Int))), .c (.sc (.bool false)), .c (.sc (.bool false)), .c (.sc (.bool false)), .c (.sc (.int .i64 (0 : Int))), .c (.sc (.int .i64 (0 : Int)))], .one (.err (some (22 : Int)))] : Tm) = proc_Child.R r ∧ ([] : List Box) = []))))))))))) (by kernel_rfl) ?_)
  refine ⟨trivial, ?_⟩
  obtain ⟨t1, ht1, h⟩ := of_bind h
  refine ⟨t1, ⟨proc_Check.fun_ ht1, trivial⟩, ?_⟩
  refine ⟨trivial, ?_⟩
  refine ⟨fun b2 => ?_, fun b2 => ?_⟩
  · rw [if_neg (not_not_intro (none_t (not_f b2)))] at h
    refine ⟨b2, ?_⟩
    obtain ⟨t3, ht3, h⟩ := of_bind h
    refine ⟨t3, ⟨pids_Check.fun_ ht3, trivial⟩, ?_⟩
    refine ⟨b2, ?_⟩
    refine ⟨trivial, ?_⟩
    refine ⟨b2, ?_⟩
    refine ⟨fun b4 => ?_, fun b4 => ?_⟩
    · rw [if_pos (none_f (not_t b4))] at h
      refine ⟨trivial, ?_⟩
      refine ⟨trivial, ?_⟩
      refine ⟨trivial, ?_⟩
      obtain rfl := Option.some.inj h
      exact ⟨⟨trivial, trivial⟩, ⟨trivial, trivial⟩, rfl, rfl⟩
    · rw [if_neg (not_not_intro (none_t (not_f b4)))] at h
      refine ⟨trivial, ?_⟩
      obtain ⟨t5, ht5, h⟩ := of_bind h
      refine ⟨t5, ⟨sig_Fork.fun_ ht5, trivial⟩, ?_⟩
      refine ⟨trivial, ?_⟩
      refine ⟨(by decide), ?_⟩
      refine ⟨(by decide), ?_⟩
      refine ⟨trivial, ?_⟩
      refine ⟨trivial, ?_⟩
      refine ⟨trivial, ?_⟩
      refine ⟨trivial, ?_⟩
      refine ⟨trivial, ?_⟩
      refine ⟨trivial, ?_⟩
      refine ⟨trivial, ?_⟩
      refine ⟨trivial, ?_⟩
      refine ⟨trivial, ?_⟩
      refine ⟨trivial, ?_⟩
      obtain rfl := Option.some.inj h
      exact ⟨⟨trivial, trivial⟩, ⟨trivial, trivial⟩, rfl, rfl⟩
  · rw [if_pos (none_f (not_t b2))] at h
    refine ⟨b2, ?_⟩
    refine ⟨b2, ?_⟩
    refine ⟨b2, ?_⟩
    refine ⟨rfl, ?_⟩
    refine ⟨trivial, ?_⟩
    refine ⟨trivial, ?_⟩
    refine ⟨trivial, ?_⟩
    obtain rfl := Option.some.inj h
    exact ⟨⟨trivial, trivial⟩, ⟨trivial, trivial⟩, rfl, rfl⟩
/-! halter/sig.signal -/
def sig_signal.f (a0 : Int) : Option Bool :=
  if a0 ≥ (1 : Int) then
    some (decide (a0 ≤ (31 : Int)))
  else
    some false
def sig_signal.R (r : Bool) : Tm := .v (.one (.sc (.bool r)))
theorem sig_signal.fun_ {a0 : Int} {r : Bool} (h : sig_signal.f a0 = some r) : Fun cfg 36 [.one (.sc (.int .i64 a0))] [] (sig_signal.R r) [] := by
  unfold sig_signal.f at h
  refine fun_of_run cfg_ok (f := 36) (fn := Tryd.f36) Tryd.func36 rfl (by kernel_rfl) (rs := [.tmp 2]) rfl (nt := 9) rfl (l := fin) (k := (.br (.one true (.one true (.adj [] (.adj [] .nil)))) (.one false (.one false (.adj [] (.adj [] .nil)))))) (to_goal (q := (True) ∧ (((decide (a0 ≥ (1 : Int))) = true → ((decide (a0 ≥ (1 : Int))) = true ∧ (True) ∧ ((decide (a0 ≥ (1 : Int))) = true ∧ (True ∧ ((True) ∧ (True) ∧ (.v (.one (.sc (.bool (decide (a0 ≤ (31 : Int)))))) : Tm) = sig_signal.R r ∧ ([] : List Box) = []))))) ∧ ((decide (a0 ≥ (1 : Int))) = false → ((decide (a0 ≥ (1 : Int))) = false ∧ ((decide (a0 ≥ (1 : Int))) = false ∧ (True ∧ ((True) ∧ (True) ∧ (.v (.one (.sc (.bool false))) : Tm) = sig_signal.R r ∧ ([] : List Box) = []))))))) (by kernel_rfl) ?_)
  refine ⟨trivial, ?_⟩
  refine ⟨fun b1 => ?_, fun b1 => ?_⟩
  · rw [if_pos (of_decide_eq_true b1)] at h
    refine ⟨b1, ?_⟩
    refine ⟨trivial, ?_⟩
    refine ⟨b1, ?_⟩
    refine ⟨trivial, ?_⟩
    obtain rfl := Option.some.inj h
    exact ⟨trivial, trivial, rfl, rfl⟩
  · rw [if_neg (of_decide_eq_false b1)] at h
    refine ⟨b1, ?_⟩
    refine ⟨b1, ?_⟩
    refine ⟨trivial, ?_⟩
    obtain rfl := Option.some.inj h
    exact ⟨trivial, trivial, rfl, rfl⟩
/-! halter/sigset.One -/
def sigset_One.f (a0 : Int) : Option Int :=
  if a0 < (1 : Int) then
    some (0 : Int)
  else
    if a0 > (31 : Int) then
      some (0 : Int)
    else
      if 0 ≤ (IntKind.wrap .i64 (a0 - (1 : Int))) then
        some (shl .u32 (1 : Int) (IntKind.wrap .i64 (a0 - (1 : Int))))
      else none
def sigset_One.R (r : Int) : Tm := .v (.one (.sc (.int .u32 r)))
theorem sigset_One.fun_ {a0 : Int} {r : Int} (h : sigset_One.f a0 = some r) : Fun cfg 40 [.one (.sc (.int .i64 a0))] [] (sigset_One.R r) [] := by
  unfold sigset_One.f at h
  refine fun_of_run cfg_ok (f := 40) (fn := Tryd.f40) Tryd.func40 rfl (by kernel_rfl) (rs := [.tmp 2]) rfl (nt := 12) rfl (l := fin) (k := (.br (.one true (.one true (.one true (.adj [] (.adj [] (.adj [] .nil)))))) (.one false (.one false (.br (.adj [] (.adj [] (.adj [] .nil))) (.adj [] (.adj [] (.adj [] (.adj [] .nil))))))))) (to_goal (q := (True) ∧ (((decide (a0 < (1 : Int))) = false → ((decide (a0 < (1 : Int))) = false ∧ (True) ∧ ((decide (a0 < (1 : Int))) = false ∧ (((decide (a0 > (31 : Int))) = true → (True ∧ (True ∧ ((True) ∧ (True) ∧ (.v (.one (.sc (.int .u32 (0 : Int)))) : Tm) = sigset_One.R r ∧ ([] : List Box) = [])))) ∧ ((decide (a0 > (31 : Int))) = false → (True ∧ (True ∧ (True) ∧ (0 ≤ (IntKind.wrap .i64 (a0 - (1 : Int)))) ∧ (True ∧ ((True) ∧ (True) ∧ (.v (.one (.sc (.int .u32 (shl .u32 (1 : Int) (IntKind.wrap .i64 (a0 - (1 : Int))))))) : Tm) = sigset_One.R r ∧ ([] : List Box) = []))))))))) ∧ ((decide (a0 < (1 : Int))) = true → ((decide (a0 < (1 : Int))) = true ∧ ((decide (a0 < (1 : Int))) = true ∧ (true = true ∧ (True ∧ (True ∧ ((True) ∧ (True) ∧ (.v (.one (.sc (.int .u32 (0 : Int)))) : Tm) = sigset_One.R r ∧ ([] : List Box) = []))))))))) (by kernel_rfl) ?_)
  refine ⟨trivial, ?_⟩
  refine ⟨fun b1 => ?_, fun b1 => ?_⟩
  · rw [if_neg (of_decide_eq_false b1)] at h
    refine ⟨b1, ?_⟩
    refine ⟨trivial, ?_⟩
    refine ⟨b1, ?_⟩
    refine ⟨fun b2 => ?_, fun b2 => ?_⟩
    · rw [if_pos (of_decide_eq_true b2)] at h
      refine ⟨trivial, ?_⟩
      refine ⟨trivial, ?_⟩
      obtain rfl := Option.some.inj h
      exact ⟨trivial, trivial, rfl, rfl⟩
    · rw [if_neg (of_decide_eq_false b2)] at h
      refine ⟨trivial, ?_⟩
      refine ⟨trivial, ?_⟩
      refine ⟨trivial, ?_⟩
      obtain ⟨g3, h⟩ := of_guard h
      refine ⟨g3, ?_⟩
      refine ⟨trivial, ?_⟩
      obtain rfl := Option.some.inj h
      exact ⟨trivial, trivial, rfl, rfl⟩
  · rw [if_pos (of_decide_eq_true b1)] at h
    refine ⟨b1, ?_⟩
    refine ⟨b1, ?_⟩
    refine ⟨rfl, ?_⟩
    refine ⟨trivial, ?_⟩
    refine ⟨trivial, ?_⟩
    obtain rfl := Option.some.inj h
    exact ⟨trivial, trivial, rfl, rfl⟩
/-! halter/sigset.Add -/
def sigset_Add.f (a0 : Int) (a1 : Int) : Option Int :=
  (sigset_One.f a1).bind fun t1 =>
  some (bits .or .u32 (bits .and .u32 a0 (2147483647 : Int)) t1)
def sigset_Add.R (r : Int) : Tm := .v (.one (.sc (.int .u32 r)))
theorem sigset_Add.fun_ {a0 : Int} {a1 : Int} {r : Int} (h : sigset_Add.f a0 a1 = some r) : Fun cfg 39 [.one (.sc (.int .u32 a0)), .one (.sc (.int .i64 a1))] [] (sigset_Add.R r) [] := by
  unfold sigset_Add.f at h
  refine fun_of_run cfg_ok (f := 39) (fn := Tryd.f39) Tryd.func39 rfl (by kernel_rfl) (rs := [.tmp 4]) rfl (nt := 10) rfl (l := fin) (k := (.call true [] (Int) (fun t1 => sigset_One.R t1) (fun t1 => (.adj [] (.adj [] .nil))))) (to_goal (q := (True) ∧ (∃ t1 : Int, (Fun cfg 40 [.one (.sc (.int .i64 a1))] [] (sigset_One.R t1) [] ∧ True) ∧ (True) ∧ (True ∧ ((True) ∧ (True) ∧ (.v (.one (.sc (.int .u32 (bits .or .u32 (bits .and .u32 a0 (2147483647 : Int)) t1)))) : Tm) = sigset_Add.R r ∧ ([] : List Box) = [])))) (by kernel_rfl) ?_)
  refine ⟨trivial, ?_⟩
  obtain ⟨t1, ht1, h⟩ := of_bind h
  refine ⟨t1, ⟨sigset_One.fun_ ht1, trivial⟩, ?_⟩
  refine ⟨trivial, ?_⟩
  refine ⟨trivial, ?_⟩
  obtain rfl := Option.some.inj h
  exact ⟨trivial, trivial, rfl, rfl⟩
/-! halter/sig.against -/
def sig_against.f (a0 : Int) : Option Int :=
  if a0 = (18 : Int) then
    (sigset_One.f (19 : Int)).bind fun t2 =>
    (sigset_Add.f t2 (20 : Int)).bind fun t3 =>
    some t3
  else
    if a0 = (19 : Int) then
      (sigset_One.f (18 : Int)).bind fun t5 =>
      some t5
    else
      if a0 = (20 : Int) then
        (sigset_One.f (18 : Int)).bind fun t7 =>
        some t7
      else
        some (0 : Int)
def sig_against.R (r : Int) : Tm := .v (.one (.sc (.int .u32 r)))
theorem sig_against.fun_ {a0 : Int} {r : Int} (h : sig_against.f a0 = some r) : Fun cfg 37 [.one (.sc (.int .i64 a0))] [] (sig_against.R r) [] := by
  unfold sig_against.f at h
  refine fun_of_run cfg_ok (f := 37) (fn := Tryd.f37) Tryd.func37 rfl (by kernel_rfl) (rs := [.tmp 2]) rfl (nt := 12) rfl (l := fin) (k := (.br (.call true [] (Int) (fun t2 => sigset_One.R t2) (fun t2 => (.call true [] (Int) (fun t3 => sigset_Add.R t3) (fun t3 => (.adj [] (.adj [] .nil)))))) (.br (.one true (.call true [] (Int) (fun t5 => sigset_One.R t5) (fun t5 => (.adj [] (.adj [] .nil))))) (.br (.call true [] (Int) (fun t7 => sigset_One.R t7) (fun t7 => (.adj [] (.adj [] .nil)))) (.adj [] (.adj [] (.adj [] (.adj [] .nil)))))))) (to_goal (q := (True) ∧ (((a0 == (18 : Int)) = true → (∃ t2 : Int, (Fun cfg 40 [.one (.sc (.int .i64 (19 : Int)))] [] (sigset_One.R t2) [] ∧ True) ∧ (∃ t3 : Int, (Fun cfg 39 [.one (.sc (.int .u32 t2)), .one (.sc (.int .i64 (20 : Int)))] [] (sigset_Add.R t3) [] ∧ True) ∧ (True ∧ ((True) ∧ (True) ∧ (.v (.one (.sc (.int .u32 t3))) : Tm) = sig_against.R r ∧ ([] : List Box) = []))))) ∧ ((a0 == (18 : Int)) = false → (True) ∧ (((a0 == (19 : Int)) = true → ((a0 == (19 : Int)) = true ∧ (∃ t5 : Int, (Fun cfg 40 [.one (.sc (.int .i64 (18 : Int)))] [] (sigset_One.R t5) [] ∧ True) ∧ (True ∧ ((True) ∧ (True) ∧ (.v (.one (.sc (.int .u32 t5))) : Tm) = sig_against.R r ∧ ([] : List Box) = []))))) ∧ ((a0 == (19 : Int)) = false → (True) ∧ (((a0 == (20 : Int)) = true → (∃ t7 : Int, (Fun cfg 40 [.one (.sc (.int .i64 (18 : Int)))] [] (sigset_One.R t7) [] ∧ True) ∧ (True ∧ ((True) ∧ (True) ∧ (.v (.one (.sc (.int .u32 t7))) : Tm) = sig_against.R r ∧ ([] : List Box) = [])))) ∧ ((a0 == (20 : Int)) = false → (True ∧ (True ∧ (True ∧ ((True) ∧ (True) ∧ (.v (.one (.sc (.int .u32 (0 : Int)))) : Tm) = sig_against.R r ∧ ([] : List Box) = []))))))))))) (by kernel_rfl) ?_)
  refine ⟨trivial, ?_⟩
  refine ⟨fun b1 => ?_, fun b1 => ?_⟩
  · rw [if_pos (beq_t b1)] at h
    obtain ⟨t2, ht2, h⟩ := of_bind h
    refine ⟨t2, ⟨sigset_One.fun_ ht2, trivial⟩, ?_⟩
    obtain ⟨t3, ht3, h⟩ := of_bind h
    refine ⟨t3, ⟨sigset_Add.fun_ ht3, trivial⟩, ?_⟩
    refine ⟨trivial, ?_⟩
    obtain rfl := Option.some.inj h
    exact ⟨trivial, trivial, rfl, rfl⟩
  · rw [if_neg (beq_f b1)] at h
    refine ⟨trivial, ?_⟩
    refine ⟨fun b4 => ?_, fun b4 => ?_⟩
    · rw [if_pos (beq_t b4)] at h
      refine ⟨b4, ?_⟩
      obtain ⟨t5, ht5, h⟩ := of_bind h
      refine ⟨t5, ⟨sigset_One.fun_ ht5, trivial⟩, ?_⟩
      refine ⟨trivial, ?_⟩
      obtain rfl := Option.some.inj h
      exact ⟨trivial, trivial, rfl, rfl⟩
    · rw [if_neg (beq_f b4)] at h
      refine ⟨trivial, ?_⟩
      refine ⟨fun b6 => ?_, fun b6 => ?_⟩
      · rw [if_pos (beq_t b6)] at h
        obtain ⟨t7, ht7, h⟩ := of_bind h
        refine ⟨t7, ⟨sigset_One.fun_ ht7, trivial⟩, ?_⟩
        refine ⟨trivial, ?_⟩
        obtain rfl := Option.some.inj h
        exact ⟨trivial, trivial, rfl, rfl⟩
      · rw [if_neg (beq_f b6)] at h
        refine ⟨trivial, ?_⟩
        refine ⟨trivial, ?_⟩
        refine ⟨trivial, ?_⟩
        obtain rfl := Option.some.inj h
        exact ⟨trivial, trivial, rfl, rfl⟩
/-! halter/sigset.Has -/
def sigset_Has.f (a0 : Int) (a1 : Int) : Option Bool :=
  (sigset_One.f a1).bind fun t1 =>
  some ((bits .and .u32 a0 t1) != (0 : Int))
def sigset_Has.R (r : Bool) : Tm := .v (.one (.sc (.bool r)))
theorem sigset_Has.fun_ {a0 : Int} {a1 : Int} {r : Bool} (h : sigset_Has.f a0 a1 = some r) : Fun cfg 29 [.one (.sc (.int .u32 a0)), .one (.sc (.int .i64 a1))] [] (sigset_Has.R r) [] := by
  unfold sigset_Has.f at h
  refine fun_of_run cfg_ok (f := 29) (fn := Tryd.f29) Tryd.func29 rfl (by kernel_rfl) (rs := [.tmp 4]) rfl (nt := 10) rfl (l := fin) (k := (.call true [] (Int) (fun t1 => sigset_One.R t1) (fun t1 => (.adj [] (.adj [] .nil))))) (to_goal (q := (∃ t1 : Int, (Fun cfg 40 [.one (.sc (.int .i64 a1))] [] (sigset_One.R t1) [] ∧ True) ∧ (True) ∧ (True) ∧ (True ∧ ((True) ∧ (True) ∧ (.v (.one (.sc (.bool ((bits .and .u32 a0 t1) != (0 : Int))))) : Tm) = sigset_Has.R r ∧ ([] : List Box) = [])))) (by kernel_rfl) ?_)
  obtain ⟨t1, ht1, h⟩ := of_bind h
  refine ⟨t1, ⟨sigset_One.fun_ ht1, trivial⟩, ?_⟩
  refine ⟨trivial, ?_⟩
  refine ⟨trivial, ?_⟩
  refine ⟨trivial, ?_⟩
  obtain rfl := Option.some.inj h
  exact ⟨trivial, trivial, rfl, rfl⟩
/-! halter/sig.plain -/
def sig_plain.f (a0 : Int) : Option Int :=
  if a0 = (17 : Int) then
    some (0 : Int)
  else
    if a0 = (18 : Int) then
      some (3 : Int)
    else
      if a0 = (19 : Int) then
        some (2 : Int)
      else
        if a0 = (20 : Int) then
          some (2 : Int)
        else
          some (1 : Int)
def sig_plain.R (r : Int) : Tm := .v (.one (.sc (.int .i64 r)))
theorem sig_plain.fun_ {a0 : Int} {r : Int} (h : sig_plain.f a0 = some r) : Fun cfg 51 [.one (.sc (.int .i64 a0))] [] (sig_plain.R r) [] := by
  unfold sig_plain.f at h
  refine fun_of_run cfg_ok (f := 51) (fn := Tryd.f51) Tryd.func51 rfl (by kernel_rfl) (rs := [.tmp 2]) rfl (nt := 11) rfl (l := fin) (k := (.br (.adj [] (.adj [] (.adj [] .nil))) (.br (.adj [] (.adj [] (.adj [] .nil))) (.br (.one true (.adj [] (.adj [] (.adj [] .nil)))) (.br (.adj [] (.adj [] (.adj [] .nil))) (.adj [] (.adj [] (.adj [] (.adj [] .nil))))))))) (to_goal (q := (True) ∧ (((a0 == (17 : Int)) = true → (True ∧ (True ∧ ((True) ∧ (True) ∧ (.v (.one (.sc (.int .i64 (0 : Int)))) : Tm) = sig_plain.R r ∧ ([] : List Box) = [])))) ∧ ((a0 == (17 : Int)) = false → (True) ∧ (((a0 == (18 : Int)) = true → (True ∧ (True ∧ ((True) ∧ (True) ∧ (.v (.one (.sc (.int .i64 (3 : Int)))) : Tm) = sig_plain.R r ∧ ([] : List Box) = [])))) ∧ ((a0 == (18 : Int)) = false → (True) ∧ (((a0 == (19 : Int)) = true → ((a0 == (19 : Int)) = true ∧ (True ∧ (True ∧ ((True) ∧ (True) ∧ (.v (.one (.sc (.int .i64 (2 : Int)))) : Tm) = sig_plain.R r ∧ ([] : List Box) = []))))) ∧ ((a0 == (19 : Int)) = false → (True) ∧ (((a0 == (20 : Int)) = true → (True ∧ (True ∧ ((True) ∧ (True) ∧ (.v (.one (.sc (.int .i64 (2 : Int)))) : Tm) = sig_plain.R r ∧ ([] : List Box) = [])))) ∧ ((a0 == (20 : Int)) = false → (True ∧ (True ∧ (True ∧ ((True) ∧ (True) ∧ (.v (.one (.sc (.int .i64 (1 : Int)))) : Tm) = sig_plain.R r ∧ ([] : List Box) = []))))))))))))) (by kernel_rfl) ?_)
  refine ⟨trivial, ?_⟩
  refine ⟨fun b1 => ?_, fun b1 => ?_⟩
  · rw [if_pos (beq_t b1)] at h
    refine ⟨trivial, ?_⟩
    refine ⟨trivial, ?_⟩
    obtain rfl := Option.some.inj h
    exact ⟨trivial, trivial, rfl, rfl⟩
  · rw [if_neg (beq_f b1)] at h
    refine ⟨trivial, ?_⟩
    refine ⟨fun b2 => ?_, fun b2 => ?_⟩
    · rw [if_pos (beq_t b2)] at h
      refine ⟨trivial, ?_⟩
      refine ⟨trivial, ?_⟩
      obtain rfl := Option.some.inj h
      exact ⟨trivial, trivial, rfl, rfl⟩
    · rw [if_neg (beq_f b2)] at h
      refine ⟨trivial, ?_⟩
      refine ⟨fun b3 => ?_, fun b3 => ?_⟩
      · rw [if_pos (beq_t b3)] at h
        refine ⟨b3, ?_⟩
        refine ⟨trivial, ?_⟩
        refine ⟨trivial, ?_⟩
        obtain rfl := Option.some.inj h
        exact ⟨trivial, trivial, rfl, rfl⟩
      · rw [if_neg (beq_f b3)] at h
        refine ⟨trivial, ?_⟩
        refine ⟨fun b4 => ?_, fun b4 => ?_⟩
        · rw [if_pos (beq_t b4)] at h
          refine ⟨trivial, ?_⟩
          refine ⟨trivial, ?_⟩
          obtain rfl := Option.some.inj h
          exact ⟨trivial, trivial, rfl, rfl⟩
        · rw [if_neg (beq_f b4)] at h
          refine ⟨trivial, ?_⟩
          refine ⟨trivial, ?_⟩
          refine ⟨trivial, ?_⟩
          obtain rfl := Option.some.inj h
          exact ⟨trivial, trivial, rfl, rfl⟩
/-! halter/sig.What -/
def sig_What.f (a0 : Int) (a1 : Int) (a2 : (List Int)) (a3 : Int) : Option Int :=
  (sig_signal.f a3).bind fun t1 =>
  if ¬ (t1 = true) then
    some (0 : Int)
  else
    if a3 = (9 : Int) then
      (sig_plain.f a3).bind fun t4 =>
      some t4
    else
      if a3 = (19 : Int) then
        (sig_plain.f a3).bind fun t6 =>
        some t6
      else
        if 0 ≤ a3 ∧ a3 < ((32 : Nat) : Int) then
          if (Int.toNat a3) < 32 then
            if (List.getD a2 (Int.toNat a3) (0 : Int)) = (0 : Int) then
              (sig_plain.f a3).bind fun t8 =>
              some t8
            else
              if 0 ≤ a3 ∧ a3 < ((32 : Nat) : Int) then
                if (Int.toNat a3) < 32 then
                  if (List.getD a2 (Int.toNat a3) (0 : Int)) > (1 : Int) then
                    some (4 : Int)
                  else
                    if a3 = (18 : Int) then
                      some (3 : Int)
                    else
                      some (0 : Int)
                else none
              else none
          else none
        else none
def sig_What.R (r : Int) : Tm := .v (.one (.sc (.int .i64 r)))
theorem sig_What.fun_ {a0 : Int} {a1 : Int} {a2 : (List Int)} {a3 : Int} {r : Int} (h : sig_What.f a0 a1 a2 a3 = some r) : Fun cfg 38 [.agg [.c (.sc (.int .u32 a0)), .c (.sc (.int .u32 a1)), .row 32 (.int .u32) a2], .one (.sc (.int .i64 a3))] [] (sig_What.R r) [] := by
  unfold sig_What.f at h
  refine fun_of_run cfg_ok (f := 38) (fn := Tryd.f38) Tryd.func38 rfl (by kernel_rfl) (rs := [.tmp 4]) rfl (nt := 34) rfl (l := fin) (k := (.call true [] (Bool) (fun t1 => sig_signal.R t1) (fun t1 => (.br (.adj [] (.adj [] (.adj [.drop 0] .nil))) (.br (.one true (.one true (.one true (.one true (.one true (.one true (.one true (.one true (.one true (.call true [] (Int) (fun t4 => sig_plain.R t4) (fun t4 => (.adj [] (.adj [.drop 0] .nil))))))))))))) (.one false (.one false (.br (.one true (.one true (.one true (.one true (.one true (.one true (.call true [] (Int) (fun t6 => sig_plain.R t6) (fun t6 => (.adj [] (.adj [.drop 0] .nil)))))))))) (.one false (.one false (.one false (.one false (.one false (.br (.call true [] (Int) (fun t8 => sig_plain.R t8) (fun t8 => (.adj [] (.adj [.drop 0] .nil)))) (.br (.adj [] (.adj [] (.adj [.drop 0] .nil))) (.br (.adj [] (.adj [] (.adj [.drop 0] .nil))) (.adj [] (.adj [] (.adj [] (.adj [.drop 0] .nil)))))))))))))))))))) (to_goal (q := (∃ t1 : Bool, (Fun cfg 36 [.one (.sc (.int .i64 a3))] [] (sig_signal.R t1) [] ∧ True) ∧ (((!t1) = true → (True ∧ (True ∧ ((True) ∧ ((True) ∧ True) ∧ (.v (.one (.sc (.int .i64 (0 : Int)))) : Tm) = sig_What.R r ∧ ([] : List Box) = [])))) ∧ ((!t1) = false → (True) ∧ (((a3 == (9 : Int)) = false → ((a3 == (9 : Int)) = false ∧ (True) ∧ ((a3 == (9 : Int)) = false ∧ (((a3 == (19 : Int)) = false → ((a3 == (19 : Int)) = false ∧ ((a3 == (19 : Int)) = false ∧ (0 ≤ a3 ∧ a3 < ((32 : Nat) : Int)) ∧ ((a3 == (19 : Int)) = false ∧ ((Int.toNat a3) < 32) ∧ ((a3 == (19 : Int)) = false ∧ (True) ∧ ((a3 == (19 : Int)) = false ∧ ((((List.getD a2 (Int.toNat a3) (0 : Int)) == (0 : Int)) = true → (∃ t8 : Int, (Fun cfg 51 [.one (.sc (.int .i64 a3))] [] (sig_plain.R t8) [] ∧ True) ∧ (True ∧ ((True) ∧ ((True) ∧ True) ∧ (.v (.one (.sc (.int .i64 t8))) : Tm) = sig_What.R r ∧ ([] : List Box) = [])))) ∧ (((List.getD a2 (Int.toNat a3) (0 : Int)) == (0 : Int)) = false → (0 ≤ a3 ∧ a3 < ((32 : Nat) : Int)) ∧ ((Int.toNat a3) < 32) ∧ (True) ∧ (((decide ((List.getD a2 (Int.toNat a3) (0 : Int)) > (1 : Int))) = true → (True ∧ (True ∧ ((True) ∧ ((True) ∧ True) ∧ (.v (.one (.sc (.int .i64 (4 : Int)))) : Tm) = sig_What.R r ∧ ([] : List Box) = [])))) ∧ ((decide ((List.getD a2 (Int.toNat a3) (0 : Int)) > (1 : Int))) = false → (True) ∧ (((a3 == (18 : Int)) = true → (True ∧ (True ∧ ((True) ∧ ((True) ∧ True) ∧ (.v (.one (.sc (.int .i64 (3 : Int)))) : Tm) = sig_What.R r ∧ ([] : List Box) = [])))) ∧ ((a3 == (18 : Int)) = false → (True ∧ (True ∧ (True ∧ ((True) ∧ ((True) ∧ True) ∧ (.v (.one (.sc (.int .i64 (0 : Int)))) : Tm) = sig_What.R r ∧ ([] : List Box) = [])))))))))))))))) ∧ ((a3 == (19 : Int)) = true → ((a3 == (19 : Int)) = true ∧ ((a3 == (19 : Int)) = true ∧ ((a3 == (19 : Int)) = true ∧ ((a3 == (19 : Int)) = true ∧ ((a3 == (19 : Int)) = true ∧ (true = true ∧ (∃ t6 : Int, (Fun cfg 51 [.one (.sc (.int .i64 a3))] [] (sig_plain.R t6) [] ∧ True) ∧ (True ∧ ((True) ∧ ((True) ∧ True) ∧ (.v (.one (.sc (.int .i64 t6))) : Tm) = sig_What.R r ∧ ([] : List Box) = [])))))))))))))) ∧ ((a3 == (9 : Int)) = true → ((a3 == (9 : Int)) = true ∧ ((a3 == (9 : Int)) = true ∧ (true = true ∧ (true = true ∧ (true = true ∧ (true = true ∧ (true = true ∧ (true = true ∧ (true = true ∧ (∃ t4 : Int, (Fun cfg 51 [.one (.sc (.int .i64 a3))] [] (sig_plain.R t4) [] ∧ True) ∧ (True ∧ ((True) ∧ ((True) ∧ True) ∧ (.v (.one (.sc (.int .i64 t4))) : Tm) = sig_What.R r ∧ ([] : List Box) = [])))))))))))))))))) (by kernel_rfl) ?_)
  obtain ⟨t1, ht1, h⟩ := of_bind h
  refine ⟨t1, ⟨sig_signal.fun_ ht1, trivial⟩, ?_⟩
  refine ⟨fun b2 => ?_, fun b2 => ?_⟩
  · rw [if_pos (ff (not_t b2))] at h
    refine ⟨trivial, ?_⟩
    refine ⟨trivial, ?_⟩
    obtain rfl := Option.some.inj h
    exact ⟨trivial, ⟨trivial, trivial⟩, rfl, rfl⟩
  · rw [if_neg (not_not_intro (not_f b2))] at h
    refine ⟨trivial, ?_⟩
    refine ⟨fun b3 => ?_, fun b3 => ?_⟩
    · rw [if_neg (beq_f b3)] at h
      refine ⟨b3, ?_⟩
      refine ⟨trivial, ?_⟩
      refine ⟨b3, ?_⟩
      refine ⟨fun b5 => ?_, fun b5 => ?_⟩
      · rw [if_neg (beq_f b5)] at h
        refine ⟨b5, ?_⟩
        refine ⟨b5, ?_⟩
        obtain ⟨g14, h⟩ := of_guard h
        refine ⟨g14, ?_⟩
        refine ⟨b5, ?_⟩
        obtain ⟨g13, h⟩ := of_guard h
        refine ⟨g13, ?_⟩
        refine ⟨b5, ?_⟩
        refine ⟨trivial, ?_⟩
        refine ⟨b5, ?_⟩
        refine ⟨fun b7 => ?_, fun b7 => ?_⟩
        · rw [if_pos (beq_t b7)] at h
          obtain ⟨t8, ht8, h⟩ := of_bind h
          refine ⟨t8, ⟨sig_plain.fun_ ht8, trivial⟩, ?_⟩
          refine ⟨trivial, ?_⟩
          obtain rfl := Option.some.inj h
          exact ⟨trivial, ⟨trivial, trivial⟩, rfl, rfl⟩
        · rw [if_neg (beq_f b7)] at h
          obtain ⟨g12, h⟩ := of_guard h
          refine ⟨g12, ?_⟩
          obtain ⟨g11, h⟩ := of_guard h
          refine ⟨g11, ?_⟩
          refine ⟨trivial, ?_⟩
          refine ⟨fun b9 => ?_, fun b9 => ?_⟩
          · rw [if_pos (of_decide_eq_true b9)] at h
            refine ⟨trivial, ?_⟩
            refine ⟨trivial, ?_⟩
            obtain rfl := Option.some.inj h
            exact ⟨trivial, ⟨trivial, trivial⟩, rfl, rfl⟩
          · rw [if_neg (of_decide_eq_false b9)] at h
            refine ⟨trivial, ?_⟩
            refine ⟨fun b10 => ?_, fun b10 => ?_⟩
            · rw [if_pos (beq_t b10)] at h
              refine ⟨trivial, ?_⟩
              refine ⟨trivial, ?_⟩
              obtain rfl := Option.some.inj h
              exact ⟨trivial, ⟨trivial, trivial⟩, rfl, rfl⟩
            · rw [if_neg (beq_f b10)] at h
              refine ⟨trivial, ?_⟩
              refine ⟨trivial, ?_⟩
              refine ⟨trivial, ?_⟩
              obtain rfl := Option.some.inj h
              exact ⟨trivial, ⟨trivial, trivial⟩, rfl, rfl⟩
      · rw [if_pos (beq_t b5)] at h
        refine ⟨b5, ?_⟩
        refine ⟨b5, ?_⟩
        refine ⟨b5, ?_⟩
        refine ⟨b5, ?_⟩
        refine ⟨b5, ?_⟩
        refine ⟨rfl, ?_⟩
        obtain ⟨t6, ht6, h⟩ := of_bind h
        refine ⟨t6, ⟨sig_plain.fun_ ht6, trivial⟩, ?_⟩
        refine ⟨trivial, ?_⟩
        obtain rfl := Option.some.inj h
        exact ⟨trivial, ⟨trivial, trivial⟩, rfl, rfl⟩
    · rw [if_pos (beq_t b3)] at h
      refine ⟨b3, ?_⟩
      refine ⟨b3, ?_⟩
      refine ⟨rfl, ?_⟩
      refine ⟨rfl, ?_⟩
      refine ⟨rfl, ?_⟩
      refine ⟨rfl, ?_⟩
      refine ⟨rfl, ?_⟩
      refine ⟨rfl, ?_⟩
      refine ⟨rfl, ?_⟩
      obtain ⟨t4, ht4, h⟩ := of_bind h
      refine ⟨t4, ⟨sig_plain.fun_ ht4, trivial⟩, ?_⟩
      refine ⟨trivial, ?_⟩
      obtain rfl := Option.some.inj h
      exact ⟨trivial, ⟨trivial, trivial⟩, rfl, rfl⟩
/-! halter/sig.Post -/
def sig_Post.f (a0 : Int) (a1 : Int) (a2 : (List Int)) (a3 : Int) : Option (Int × Int × (List Int) × (Option Int)) :=
  (sig_Check.f a0 a1 a2).bind fun t1 =>
  if ¬ (t1 = none) then
    some ((0 : Int), (0 : Int), (List.replicate 32 (0 : Int)), (some (22 : Int)))
  else
    (sig_signal.f a3).bind fun t3 =>
    if ¬ (t3 = true) then
      some ((0 : Int), (0 : Int), (List.replicate 32 (0 : Int)), (some (22 : Int)))
    else
      (sig_against.f a3).bind fun t5 =>
      (sigset_Has.f a1 a3).bind fun t6 =>
      if t6 = true then
        (sigset_Add.f (bits .andNot .u32 a0 t5) a3).bind fun t8 =>
        some (t8, a1, a2, none)
      else
        (sig_What.f (bits .andNot .u32 a0 t5) a1 a2 a3).bind fun t9 =>
        if ¬ t9 = (0 : Int) then
          (sigset_Add.f (bits .andNot .u32 a0 t5) a3).bind fun t11 =>
          some (t11, a1, a2, none)
        else
          some ((bits .andNot .u32 a0 t5), a1, a2, none)
def sig_Post.R (r : Int × Int × (List Int) × (Option Int)) : Tm := .tup [.agg [.c (.sc (.int .u32 r.1)), .c (.sc (.int .u32 r.2.1)), .row 32 (.int .u32) r.2.2.1], .one (.err r.2.2.2)]
theorem sig_Post.fun_ {a0 : Int} {a1 : Int} {a2 : (List Int)} {a3 : Int} {r : Int × Int × (List Int) × (Option Int)} (h : sig_Post.f a0 a1 a2 a3 = some r) : Fun cfg 25 [.agg [.c (.sc (.int .u32 a0)), .c (.sc (.int .u32 a1)), .row 32 (.int .u32) a2], .one (.sc (.int .i64 a3))] [] (sig_Post.R r) [] := by
  unfold sig_Post.f at h
  refine fun_of_run cfg_ok (f := 25) (fn := Tryd.f25) Tryd.func25 rfl (by kernel_rfl) (rs := [.cell 4 41, .tmp 5]) rfl (nt := 38) rfl (l := fin) (k := (.call true [] ((Option Int)) (fun t1 => sig_Check.R t1) (fun t1 => (.br (.one true (.one true (.one true (.one true (.adj [] (.adj [] (.adj [.drop 0] .nil))))))) (.one false (.call true [] (Bool) (fun t3 => sig_signal.R t3) (fun t3 => (.one false (.one false (.br (.adj [] (.adj [] (.adj [.drop 0] .nil))) (.ex (Int) (fun t5 => (.dr [(0, ⟨none, .no, false⟩), (2, ⟨none, .no, false⟩), (3, ⟨none, .callP true [] (sig_against.R t5), false⟩), (1, ⟨none, .no, false⟩), (4, ⟨none, .no, false⟩), (5, ⟨none, .no, false⟩), (6, ⟨none, .no, false⟩)] (.call true [] (Bool) (fun t6 => sigset_Has.R t6) (fun t6 => (.br (.one true (.one true (.one true (.one true (.one true (.call true [] (Int) (fun t8 => sigset_Add.R t8) (fun t8 => (.adj [] (.adj [] (.adj [.drop 0] .nil)))))))))) (.one false (.one false (.call true [] (Int) (fun t9 => sig_What.R t9) (fun t9 => (.one false (.one false (.br (.call true [] (Int) (fun t11 => sigset_Add.R t11) (fun t11 => (.adj [] (.adj [] (.adj [.drop 0] .nil))))) (.adj [] (.adj [] (.adj [] (.adj [.drop 0] .nil))))))))))))))))))))))))))) (to_goal (q := (True) ∧ (∃ t1 : (Option Int), (Fun cfg 21 [.agg [.c (.sc (.int .u32 a0)), .c (.sc (.int .u32 a1)), .row 32 (.int .u32) a2]] [] (sig_Check.R t1) [] ∧ True) ∧ (True) ∧ (((!(Option.isNone t1)) = false → ((!(Option.isNone t1)) = false ∧ (∃ t3 : Bool, (Fun cfg 36 [.one (.sc (.int .i64 a3))] [] (sig_signal.R t3) [] ∧ True) ∧ ((!(Option.isNone t1)) = false ∧ ((!(Option.isNone t1)) = false ∧ (((!t3) = true → (True ∧ (True) ∧ (True ∧ (((True) ∧ True) ∧ ((True) ∧ True) ∧ (.tup [.agg [.c (.sc (.int .u32 (0 : Int))), .c (.sc (.int .u32 (0 : Int))), .row 32 (.int .u32) (List.replicate 32 (0 : Int))], .one (.err (some (22 : Int)))] : Tm) = sig_Post.R r ∧ ([] : List Box) = [])))) ∧ ((!t3) = false → (∃ t5 : Int, (Fun cfg 37 [.one (.sc (.int .i64 a3))] [] (sig_against.R t5) [] ∧ True) ∧ (True) ∧ (True) ∧ (True) ∧ (True) ∧ (∃ t6 : Bool, (Fun cfg 29 [.one (.sc (.int .u32 a1)), .one (.sc (.int .i64 a3))] [] (sigset_Has.R t6) [] ∧ True) ∧ ((t6 = false → (True) ∧ (t6 = false ∧ (t6 = false ∧ (∃ t9 : Int, (Fun cfg 38 [.agg [.c (.sc (.int .u32 (bits .andNot .u32 a0 t5))), .c (.sc (.int .u32 a1)), .row 32 (.int .u32) a2], .one (.sc (.int .i64 a3))] [] (sig_What.R t9) [] ∧ True) ∧ (t6 = false ∧ (True) ∧ (t6 = false ∧ (((t9 != (0 : Int)) = true → (True) ∧ (∃ t11 : Int, (Fun cfg 39 [.one (.sc (.int .u32 (bits .andNot .u32 a0 t5))), .one (.sc (.int .i64 a3))] [] (sigset_Add.R t11) [] ∧ True) ∧ (True) ∧ (True ∧ (True) ∧ (True) ∧ (True ∧ (((True) ∧ True) ∧ ((True) ∧ True) ∧ (.tup [.agg [.c (.sc (.int .u32 t11)), .c (.sc (.int .u32 a1)), .row 32 (.int .u32) a2], .one (.err none)] : Tm) = sig_Post.R r ∧ ([] : List Box) = []))))) ∧ ((t9 != (0 : Int)) = false → (True ∧ (True ∧ (True) ∧ (True) ∧ (True ∧ (((True) ∧ True) ∧ ((True) ∧ True) ∧ (.tup [.agg [.c (.sc (.int .u32 (bits .andNot .u32 a0 t5))), .c (.sc (.int .u32 a1)), .row 32 (.int .u32) a2], .one (.err none)] : Tm) = sig_Post.R r ∧ ([] : List Box) = [])))))))))))) ∧ (t6 = true → (t6 = true ∧ (t6 = true ∧ (t6 = true ∧ (t6 = true ∧ (true = true ∧ (True) ∧ (∃ t8 : Int, (Fun cfg 39 [.one (.sc (.int .u32 (bits .andNot .u32 a0 t5))), .one (.sc (.int .i64 a3))] [] (sigset_Add.R t8) [] ∧ True) ∧ (True) ∧ (True ∧ (True) ∧ (True) ∧ (True ∧ (((True) ∧ True) ∧ ((True) ∧ True) ∧ (.tup [.agg [.c (.sc (.int .u32 t8)), .c (.sc (.int .u32 a1)), .row 32 (.int .u32) a2], .one (.err none)] : Tm) = sig_Post.R r ∧ ([] : List Box) = [])))))))))))))))))))) ∧ ((!(Option.isNone t1)) = true → ((!(Option.isNone t1)) = true ∧ ((!(Option.isNone t1)) = true ∧ ((!(Option.isNone t1)) = true ∧ (true = true ∧ (True ∧ (True) ∧ (True ∧ (((True) ∧ True) ∧ ((True) ∧ True) ∧ (.tup [.agg [.c (.sc (.int .u32 (0 : Int))), .c (.sc (.int .u32 (0 : Int))), .row 32 (.int .u32) (List.replicate 32 (0 : Int))], .one (.err (some (22 : Int)))] : Tm) = sig_Post.R r ∧ ([] : List Box) = []))))))))))) (by kernel_rfl) ?_)
  refine ⟨trivial, ?_⟩
  obtain ⟨t1, ht1, h⟩ := of_bind h
  refine ⟨t1, ⟨sig_Check.fun_ ht1, trivial⟩, ?_⟩
  refine ⟨trivial, ?_⟩
  refine ⟨fun b2 => ?_, fun b2 => ?_⟩
  · rw [if_neg (not_not_intro (none_t (not_f b2)))] at h
    refine ⟨b2, ?_⟩
    obtain ⟨t3, ht3, h⟩ := of_bind h
    refine ⟨t3, ⟨sig_signal.fun_ ht3, trivial⟩, ?_⟩
    refine ⟨b2, ?_⟩
    refine ⟨b2, ?_⟩
    refine ⟨fun b4 => ?_, fun b4 => ?_⟩
    · rw [if_pos (ff (not_t b4))] at h
      refine ⟨trivial, ?_⟩
      refine ⟨trivial, ?_⟩
      refine ⟨trivial, ?_⟩
      obtain rfl := Option.some.inj h
      exact ⟨⟨trivial, trivial⟩, ⟨trivial, trivial⟩, rfl, rfl⟩
    · rw [if_neg (not_not_intro (not_f b4))] at h
      obtain ⟨t5, ht5, h⟩ := of_bind h
      refine ⟨t5, ?_⟩
      refine ⟨⟨sig_against.fun_ ht5, trivial⟩, trivial, trivial, trivial, ?_⟩
      refine ⟨trivial, ?_⟩
      obtain ⟨t6, ht6, h⟩ := of_bind h
      refine ⟨t6, ⟨sigset_Has.fun_ ht6, trivial⟩, ?_⟩
      refine ⟨fun b7 => ?_, fun b7 => ?_⟩
      · rw [if_neg (ff b7)] at h
        refine ⟨trivial, ?_⟩
        refine ⟨b7, ?_⟩
        refine ⟨b7, ?_⟩
        obtain ⟨t9, ht9, h⟩ := of_bind h
        refine ⟨t9, ⟨sig_What.fun_ ht9, trivial⟩, ?_⟩
        refine ⟨b7, ?_⟩
        refine ⟨trivial, ?_⟩
        refine ⟨b7, ?_⟩
        refine ⟨fun b10 => ?_, fun b10 => ?_⟩
        · rw [if_pos (bne_t b10)] at h
          refine ⟨trivial, ?_⟩
          obtain ⟨t11, ht11, h⟩ := of_bind h
          refine ⟨t11, ⟨sigset_Add.fun_ ht11, trivial⟩, ?_⟩
          refine ⟨trivial, ?_⟩
          refine ⟨trivial, ?_⟩
          refine ⟨trivial, ?_⟩
          refine ⟨trivial, ?_⟩
          refine ⟨trivial, ?_⟩
          obtain rfl := Option.some.inj h
          exact ⟨⟨trivial, trivial⟩, ⟨trivial, trivial⟩, rfl, rfl⟩
        · rw [if_neg (not_not_intro (bne_f b10))] at h
          refine ⟨trivial, ?_⟩
          refine ⟨trivial, ?_⟩
          refine ⟨trivial, ?_⟩
          refine ⟨trivial, ?_⟩
          refine ⟨trivial, ?_⟩
          obtain rfl := Option.some.inj h
          exact ⟨⟨trivial, trivial⟩, ⟨trivial, trivial⟩, rfl, rfl⟩
      · rw [if_pos b7] at h
        refine ⟨b7, ?_⟩
        refine ⟨b7, ?_⟩
        refine ⟨b7, ?_⟩
        refine ⟨b7, ?_⟩
        refine ⟨rfl, ?_⟩
        refine ⟨trivial, ?_⟩
        obtain ⟨t8, ht8, h⟩ := of_bind h
        refine ⟨t8, ⟨sigset_Add.fun_ ht8, trivial⟩, ?_⟩
        refine ⟨trivial, ?_⟩
        refine ⟨trivial, ?_⟩
        refine ⟨trivial, ?_⟩
        refine ⟨trivial, ?_⟩
        refine ⟨trivial, ?_⟩
        obtain rfl := Option.some.inj h
        exact ⟨⟨trivial, trivial⟩, ⟨trivial, trivial⟩, rfl, rfl⟩
  · rw [if_pos (none_f (not_t b2))] at h
    refine ⟨b2, ?_⟩
    refine ⟨b2, ?_⟩
    refine ⟨b2, ?_⟩
    refine ⟨rfl, ?_⟩
    refine ⟨trivial, ?_⟩
    refine ⟨trivial, ?_⟩
    refine ⟨trivial, ?_⟩
    obtain rfl := Option.some.inj h
    exact ⟨⟨trivial, trivial⟩, ⟨trivial, trivial⟩, rfl, rfl⟩
/-! halter/proc.Post -/
def proc_Post.f (a0 : Int) (a1 : Int) (a2 : ByteArray) (a3 : (List Int)) (a4 : Int) (a5 : Int) (a6 : (List Int)) (a7 : (List Int)) (a8 : Int) (a9 : Int) (a10 : (List Int)) (a11 : Int) (a12 : Bool) (a13 : Int) (a14 : Int) (a15 : Int) (a16 : Bool) (a17 : Bool) (a18 : Bool) (a19 : Int) (a20 : Int) (a21 : Int) : Option (Int × Int × ByteArray × (List Int) × Int × Int × (List Int) × (List Int) × Int × Int × (List Int) × Int × Bool × Int × Int × Int × Bool × Bool × Bool × Int × Int × (Option Int)) :=
  (proc_Check.f a0 a1 a2 a3 a4 a5 a6 a7 a8 a9 a10 a11 a12 a13 a14 a15 a16 a17 a18 a19 a20).bind fun t1 =>
  if ¬ (t1 = none) then
    some ((0 : Int), (0 : Int), ByteArray.empty, (List.replicate 16 (0 : Int)), (0 : Int), (0 : Int), (List.replicate 4 (0 : Int)), (List.replicate 8 (0 : Int)), (0 : Int), (0 : Int), (List.replicate 32 (0 : Int)), (0 : Int), false, (0 : Int), (0 : Int), (0 : Int), false, false, false, (0 : Int), (0 : Int), (some (22 : Int)))
  else
    (sig_Post.f a8 a9 a10 a21).bind fun t3 =>
    if ¬ (t3.2.2.2 = none) then
      some ((0 : Int), (0 : Int), ByteArray.empty, (List.replicate 16 (0 : Int)), (0 : Int), (0 : Int), (List.replicate 4 (0 : Int)), (List.replicate 8 (0 : Int)), (0 : Int), (0 : Int), (List.replicate 32 (0 : Int)), (0 : Int), false, (0 : Int), (0 : Int), (0 : Int), false, false, false, (0 : Int), (0 : Int), t3.2.2.2)
    else
      if a21 = (18 : Int) then
        some (a0, a1, a2, a3, a4, a5, a6, a7, t3.1, t3.2.1, t3.2.2.1, a11, a12, a13, a14, a15, a16, false, false, a19, a20, none)
      else
        if a21 = (9 : Int) then
          some (a0, a1, a2, a3, a4, a5, a6, a7, t3.1, t3.2.1, t3.2.2.1, a11, a12, a13, a14, a15, a16, false, false, a19, a20, none)
        else
          some (a0, a1, a2, a3, a4, a5, a6, a7, t3.1, t3.2.1, t3.2.2.1, a11, a12, a13, a14, a15, a16, a17, a18, a19, a20, none)
def proc_Post.R (r : Int × Int × ByteArray × (List Int) × Int × Int × (List Int) × (List Int) × Int × Int × (List Int) × Int × Bool × Int × Int × Int × Bool × Bool × Bool × Int × Int × (Option Int)) : Tm := .tup [.agg [.c (.sc (.int .i64 r.1)), .c (.sc (.int .i64 r.2.1)), .c (.sc (.string r.2.2.1)), .row 16 (.int .u32) r.2.2.2.1, .c (.sc (.int .u32 r.2.2.2.2.1)), .c (.sc (.int .u32 r.2.2.2.2.2.1)), .row 4 (.int .u64) r.2.2.2.2.2.2.1, .row 8 (.int .i64) r.2.2.2.2.2.2.2.1, .c (.sc (.int .u32 r.2.2.2.2.2.2.2.2.1)), .c (.sc (.int .u32 r.2.2.2.2.2.2.2.2.2.1)), .row 32 (.int .u32) r.2.2.2.2.2.2.2.2.2.2.1, .c (.sc (.int .i64 r.2.2.2.2.2.2.2.2.2.2.2.1)), .c (.sc (.bool r.2.2.2.2.2.2.2.2.2.2.2.2.1)), .c (.sc (.int .u32 r.2.2.2.2.2.2.2.2.2.2.2.2.2.1)), .c (.sc (.int .i64 r.2.2.2.2.2.2.2.2.2.2.2.2.2.2.1)), .c (.sc (.int .i64 r.2.2.2.2.2.2.2.2.2.2.2.2.2.2.2.1)), .c (.sc (.bool r.2.2.2.2.2.2.2.2.2.2.2.2.2.2.2.2.1)), .c (.sc (.bool r.2.2.2.2.2.2.2.2.2.2.2.2.2.2.2.2.2.1)), .c (.sc (.bool r.2.2.2.2.2.2.2.2.2.2.2.2.2.2.2.2.2.2.1)), .c (.sc (.int .i64 r.2.2.2.2.2.2.2.2.2.2.2.2.2.2.2.2.2.2.2.1)), .c (.sc (.int .i64 r.2.2.2.2.2.2.2.2.2.2.2.2.2.2.2.2.2.2.2.2.1))], .one (.err r.2.2.2.2.2.2.2.2.2.2.2.2.2.2.2.2.2.2.2.2.2)]
theorem proc_Post.fun_ {a0 : Int} {a1 : Int} {a2 : ByteArray} {a3 : (List Int)} {a4 : Int} {a5 : Int} {a6 : (List Int)} {a7 : (List Int)} {a8 : Int} {a9 : Int} {a10 : (List Int)} {a11 : Int} {a12 : Bool} {a13 : Int} {a14 : Int} {a15 : Int} {a16 : Bool} {a17 : Bool} {a18 : Bool} {a19 : Int} {a20 : Int} {a21 : Int} {r : Int × Int × ByteArray × (List Int) × Int × Int × (List Int) × (List Int) × Int × Int × (List Int) × Int × Bool × Int × Int × Int × Bool × Bool × Bool × Int × Int × (Option Int)} (h : proc_Post.f a0 a1 a2 a3 a4 a5 a6 a7 a8 a9 a10 a11 a12 a13 a14 a15 a16 a17 a18 a19 a20 a21 = some r) : Fun cfg 11 [.agg [.c (.sc (.int .i64 a0)), .c (.sc (.int .i64 a1)), .c (.sc (.string a2)), .row 16 (.int .u32) a3, .c (.sc (.int .u32 a4)), .c (.sc (.int .u32 a5)), .row 4 (.int .u64) a6, .row 8 (.int .i64) a7, .c (.sc (.int .u32 a8)), .c (.sc (.int .u32 a9)), .row 32 (.int .u32) a10, .c (.sc (.int .i64 a11)), .c (.sc (.bool a12)), .c (.sc (.int .u32 a13)), .c (.sc (.int .i64 a14)), .c (.sc (.int .i64 a15)), .c (.sc (.bool a16)), .c (.sc (.bool a17)), .c (.sc (.bool a18)), .c (.sc (.int .i64 a19)), .c (.sc (.int .i64 a20))], .one (.sc (.int .i64 a21))] [] (proc_Post.R r) [] := by
  unfold proc_Post.f at h
  refine fun_of_run cfg_ok (f := 11) (fn := Tryd.f11) Tryd.func11 rfl (by kernel_rfl) (rs := [.cell 4 44, .tmp 5]) rfl (nt := 35) rfl (l := fin) (k := (.call true [] ((Option Int)) (fun t1 => proc_Check.R t1) (fun t1 => (.br (.adj [] (.adj [] (.adj [.drop 0] .nil))) (.call true [] (Int × Int × (List Int) × (Option Int)) (fun t3 => sig_Post.R t3) (fun t3 => (.br (.adj [] (.adj [] (.adj [.drop 0] .nil))) (.br (.one true (.one true (.one true (.adj [] (.adj [] (.adj [] (.adj [.drop 0] .nil))))))) (.one false (.one false (.br (.adj [] (.adj [] (.adj [] (.adj [.drop 0] .nil)))) (.adj [] (.adj [] (.adj [] (.adj [.drop 0] .nil))))))))))))))) (to_goal (q := (True) ∧ (∃ t1 : (Option Int), (Fun cfg 9 [.agg [.c (.sc (.int .i64 a0)), .c (.sc (.int .i64 a1)), .c (.sc (.string a2)), .row 16 (.int .u32) a3, .c (.sc (.int .u32 a4)), .c (.sc (.int .u32 a5)), .row 4 (.int .u64) a6, .row 8 (.int .i64) a7, .c (.sc (.int .u32 a8)), .c (.sc (.int .u32 a9)), .row 32 (.int .u32) a10, .c (.sc (.int .i64 a11)), .c (.sc (.bool a12)), .c (.sc (.int .u32 a13)), .c (.sc (.int .i64 a14)), .c (.sc (.int .i64 a15)), .c (.sc (.bool a16)), .c (.sc (.bool a17)), .c (.sc (.bool a18)), .c (.sc (.int .i64 a19)), .c (.sc (.int .i64 a20))]] [] (proc_Check.R t1) [] ∧ True) ∧ (True) ∧ (((!(Option.isNone t1)) = true → (True ∧ (True) ∧ (True ∧ (((True) ∧ True) ∧ ((True) ∧ True) ∧ (.tup [.agg [.c (.sc (.int .i64 (0 : Int))), .c (.sc (.int .i64 (0 : Int))), .c (.sc (.string ByteArray.empty)), .row 16 (.int .u32) (List.replicate 16 (0 : Int)), .c (.sc (.int .u32 (0 : Int))), .c (.sc (.int .u32 (0 : Int))), .row 4 (.int .u64) (List.replicate 4 (0 : Int)), .row 8 (.int .i64) (List.replicate 8 (0 : Int)), .c (.sc (.int .u32 (0 : Int))), .c (.sc (.int .u32 (0 : Int))), .row 32 (.int .u32) (List.replicate 32 (0 : Int)), .c (.sc (.int .i64 (0 : Int))), .c (.sc (.bool false)), .c (.sc (.int .u32 (0 : Int))), .c (.sc (.int .i64 (0 : Int))), .c (.sc (.int .i64 (0 : Int))), .c (.sc (.bool false)), .c (.sc (.bool false)), .c (.sc (.bool false)), .c (.sc (.int .i64 (0 : Int))), .c (.sc (.int .i64 (0 : Int)))], .one (.err (some (22 : Int)))] : Tm) = proc_Post.R r ∧ ([] : List Box) = [])))) ∧ ((!(Option.isNone t1)) = false → (True) ∧ (∃ t3 : Int × Int × (List Int) × (Option Int), (Fun cfg 25 [.agg [.c (.sc (.int .u32 a8)), .c (.sc (.int .u32 a9)), .row 32 (.int .u32) a10], .one (.sc (.int .i64 a21))] [] (sig_Post.R t3) [] ∧ True) ∧ (True) ∧ (True) ∧ (((!(Option.isNone t3.2.2.2)) = true → (True ∧ (True) ∧ (True ∧ (((True) ∧ True) ∧ ((True) ∧ True) ∧ (.tup [.agg [.c (.sc (.int .i64 (0 : Int))), .c (.sc (.int .i64 (0 : Int))), .c (.sc (.string ByteArray.empty)), .row 16 (.int .u32) (List.replicate 16 (0 : Int)), .c (.sc (.int .u32 (0 : Int))), .c (.sc (.int .u32 (0 : Int))), .row 4 (.int .u64) (List.replicate 4 (0 : Int)), .row 8 (.int .i64) (List.replicate 8 (0 : Int)), .c (.sc (.int .u32 (0 : Int))), .c (.sc (.int .u32 (0 : Int))), .row 32 (.int .u32) (List.replicate 32 (0 : Int)), .c (.sc (.int .i64 (0 : Int))), .c (.sc (.bool false)), .c (.sc (.int .u32 (0 : Int))), .c (.sc (.int .i64 (0 : Int))), .c (.sc (.int .i64 (0 : Int))), .c (.sc (.bool false)), .c (.sc (.bool false)), .c (.sc (.bool false)), .c (.sc (.int .i64 (0 : Int))), .c (.sc (.int .i64 (0 : Int)))], .one (.err t3.2.2.2)] : Tm) = proc_Post.R r ∧ ([] : List Box) = [])))) ∧ ((!(Option.isNone t3.2.2.2)) = false → (True) ∧ (True) ∧ (True) ∧ (((a21 == (18 : Int)) = false → ((a21 == (18 : Int)) = false ∧ (True) ∧ ((a21 == (18 : Int)) = false ∧ (((a21 == (9 : Int)) = true → (True ∧ (True) ∧ (True) ∧ (True ∧ (True) ∧ (True) ∧ (True ∧ (((True) ∧ True) ∧ ((True) ∧ True) ∧ (.tup [.agg [.c (.sc (.int .i64 a0)), .c (.sc (.int .i64 a1)), .c (.sc (.string a2)), .row 16 (.int .u32) a3, .c (.sc (.int .u32 a4)), .c (.sc (.int .u32 a5)), .row 4 (.int .u64) a6, .row 8 (.int .i64) a7, .c (.sc (.int .u32 t3.1)), .c (.sc (.int .u32 t3.2.1)), .row 32 (.int .u32) t3.2.2.1, .c (.sc (.int .i64 a11)), .c (.sc (.bool a12)), .c (.sc (.int .u32 a13)), .c (.sc (.int .i64 a14)), .c (.sc (.int .i64 a15)), .c (.sc (.bool a16)), .c (.sc (.bool false)), .c (.sc (.bool false)), .c (.sc (.int .i64 a19)), .c (.sc (.int .i64 a20))], .one (.err none)] : Tm) = proc_Post.R r ∧ ([] : List Box) = []))))) ∧ ((a21 == (9 : Int)) = false → (True ∧ (True ∧ (True) ∧ (True) ∧ (True ∧ (((True) ∧ True) ∧ ((True) ∧ True) ∧ (.tup [.agg [.c (.sc (.int .i64 a0)), .c (.sc (.int .i64 a1)), .c (.sc (.string a2)), .row 16 (.int .u32) a3, .c (.sc (.int .u32 a4)), .c (.sc (.int .u32 a5)), .row 4 (.int .u64) a6, .row 8 (.int .i64) a7, .c (.sc (.int .u32 t3.1)), .c (.sc (.int .u32 t3.2.1)), .row 32 (.int .u32) t3.2.2.1, .c (.sc (.int .i64 a11)), .c (.sc (.bool a12)), .c (.sc (.int .u32 a13)), .c (.sc (.int .i64 a14)), .c (.sc (.int .i64 a15)), .c (.sc (.bool a16)), .c (.sc (.bool a17)), .c (.sc (.bool a18)), .c (.sc (.int .i64 a19)), .c (.sc (.int .i64 a20))], .one (.err none)] : Tm) = proc_Post.R r ∧ ([] : List Box) = []))))))))) ∧ ((a21 == (18 : Int)) = true → ((a21 == (18 : Int)) = true ∧ ((a21 == (18 : Int)) = true ∧ (true = true ∧ (True ∧ (True) ∧ (True) ∧ (True ∧ (True) ∧ (True) ∧ (True ∧ (((True) ∧ True) ∧ ((True) ∧ True) ∧ (.tup [.agg [.c (.sc (.int .i64 a0)), .c (.sc (.int .i64 a1)), .c (.sc (.string a2)), .row 16 (.int .u32) a3, .c (.sc (.int .u32 a4)), .c (.sc (.int .u32 a5)), .row 4 (.int .u64) a6, .row 8 (.int .i64) a7, .c (.sc (.int .u32 t3.1)), .c (.sc (.int .u32 t3.2.1)), .row 32 (.int .u32) t3.2.2.1, .c (.sc (.int .i64 a11)), .c (.sc (.bool a12)), .c (.sc (.int .u32 a13)), .c (.sc (.int .i64 a14)), .c (.sc (.int .i64 a15)), .c (.sc (.bool a16)), .c (.sc (.bool false)), .c (.sc (.bool false)), .c (.sc (.int .i64 a19)), .c (.sc (.int .i64 a20))], .one (.err none)] : Tm) = proc_Post.R r ∧ ([] : List Box) = [])))))))))))))))) (by kernel_rfl) ?_)
  refine ⟨trivial, ?_⟩
  obtain ⟨t1, ht1, h⟩ := of_bind h
  refine ⟨t1, ⟨proc_Check.fun_ ht1, trivial⟩, ?_⟩
  refine ⟨trivial, ?_⟩
  refine ⟨fun b2 => ?_, fun b2 => ?_⟩
  · rw [if_pos (none_f (not_t b2))] at h
    refine ⟨trivial, ?_⟩
    refine ⟨trivial, ?_⟩
    refine ⟨trivial, ?_⟩
    obtain rfl := Option.some.inj h
    exact ⟨⟨trivial, trivial⟩, ⟨trivial, trivial⟩, rfl, rfl⟩
  · rw [if_neg (not_not_intro (none_t (not_f b2)))] at h
    refine ⟨trivial, ?_⟩
    obtain ⟨t3, ht3, h⟩ := of_bind h
    refine ⟨t3, ⟨sig_Post.fun_ ht3, trivial⟩, ?_⟩
    refine ⟨trivial, ?_⟩
    refine ⟨trivial, ?_⟩
    refine ⟨fun b4 => ?_, fun b4 => ?_⟩
    · rw [if_pos (none_f (not_t b4))] at h
      refine ⟨trivial, ?_⟩
      refine ⟨trivial, ?_⟩
      refine ⟨trivial, ?_⟩
      obtain rfl := Option.some.inj h
      exact ⟨⟨trivial, trivial⟩, ⟨trivial, trivial⟩, rfl, rfl⟩
    · rw [if_neg (not_not_intro (none_t (not_f b4)))] at h
      refine ⟨trivial, ?_⟩
      refine ⟨trivial, ?_⟩
      refine ⟨trivial, ?_⟩
      refine ⟨fun b5 => ?_, fun b5 => ?_⟩
      · rw [if_neg (beq_f b5)] at h
        refine ⟨b5, ?_⟩
        refine ⟨trivial, ?_⟩
        refine ⟨b5, ?_⟩
        refine ⟨fun b6 => ?_, fun b6 => ?_⟩
        · rw [if_pos (beq_t b6)] at h
          refine ⟨trivial, ?_⟩
          refine ⟨trivial, ?_⟩
          refine ⟨trivial, ?_⟩
          refine ⟨trivial, ?_⟩
          refine ⟨trivial, ?_⟩
          refine ⟨trivial, ?_⟩
          refine ⟨trivial, ?_⟩
          obtain rfl := Option.some.inj h
          exact ⟨⟨trivial, trivial⟩, ⟨trivial, trivial⟩, rfl, rfl⟩
        · rw [if_neg (beq_f b6)] at h
          refine ⟨trivial, ?_⟩
          refine ⟨trivial, ?_⟩
          refine ⟨trivial, ?_⟩
          refine ⟨trivial, ?_⟩
          refine ⟨trivial, ?_⟩
          obtain rfl := Option.some.inj h
          exact ⟨⟨trivial, trivial⟩, ⟨trivial, trivial⟩, rfl, rfl⟩
      · rw [if_pos (beq_t b5)] at h
        refine ⟨b5, ?_⟩
        refine ⟨b5, ?_⟩
        refine ⟨rfl, ?_⟩
        refine ⟨trivial, ?_⟩
        refine ⟨trivial, ?_⟩
        refine ⟨trivial, ?_⟩
        refine ⟨trivial, ?_⟩
        refine ⟨trivial, ?_⟩
        refine ⟨trivial, ?_⟩
        refine ⟨trivial, ?_⟩
        obtain rfl := Option.some.inj h
        exact ⟨⟨trivial, trivial⟩, ⟨trivial, trivial⟩, rfl, rfl⟩
/-! math/bits.TrailingZeros32 -/
def math_bits_TrailingZeros32.f (a0 : Int) : Option Int :=
  if a0 = (0 : Int) then
    some (32 : Int)
  else
    if 0 ≤ (shr .u32 (IntKind.wrap .u32 ((bits .and .u32 a0 (IntKind.wrap .u32 (0 - a0))) * (125613361 : Int))) (27 : Int)) ∧ (shr .u32 (IntKind.wrap .u32 ((bits .and .u32 a0 (IntKind.wrap .u32 (0 - a0))) * (125613361 : Int))) (27 : Int)) < ((32 : Nat) : Int) then
      some (IntKind.wrap .i64 ((List.getD tab1 (Int.toNat (shr .u32 (IntKind.wrap .u32 ((bits .and .u32 a0 (IntKind.wrap .u32 (0 - a0))) * (125613361 : Int))) (27 : Int))) (0 : Int))))
    else none
def math_bits_TrailingZeros32.R (r : Int) : Tm := .v (.one (.sc (.int .i64 r)))
theorem math_bits_TrailingZeros32.fun_ {a0 : Int} {r : Int} (h : math_bits_TrailingZeros32.f a0 = some r) : Fun cfg 41 [.one (.sc (.int .u32 a0))] [] (math_bits_TrailingZeros32.R r) [] := by
  unfold math_bits_TrailingZeros32.f at h
  refine fun_of_run cfg_ok (f := 41) (fn := Tryd.f41) Tryd.func41 rfl (by kernel_rfl) (rs := [.tmp 2]) rfl (nt := 14) rfl (l := fin) (k := (.br (.adj [] (.adj [] (.adj [] .nil))) (.adj [] (.adj [] (.adj [] (.adj [] .nil)))))) (to_goal (q := (True) ∧ (((a0 == (0 : Int)) = true → (True ∧ (True ∧ ((True) ∧ (True) ∧ (.v (.one (.sc (.int .i64 (32 : Int)))) : Tm) = math_bits_TrailingZeros32.R r ∧ ([] : List Box) = [])))) ∧ ((a0 == (0 : Int)) = false → (True ∧ (True ∧ (True) ∧ (True) ∧ (0 ≤ (27 : Int)) ∧ (0 ≤ (shr .u32 (IntKind.wrap .u32 ((bits .and .u32 a0 (IntKind.wrap .u32 (0 - a0))) * (125613361 : Int))) (27 : Int)) ∧ (shr .u32 (IntKind.wrap .u32 ((bits .and .u32 a0 (IntKind.wrap .u32 (0 - a0))) * (125613361 : Int))) (27 : Int)) < ((32 : Nat) : Int)) ∧ (True) ∧ (True) ∧ (True ∧ ((True) ∧ (True) ∧ (.v (.one (.sc (.int .i64 (IntKind.wrap .i64 ((List.getD tab1 (Int.toNat (shr .u32 (IntKind.wrap .u32 ((bits .and .u32 a0 (IntKind.wrap .u32 (0 - a0))) * (125613361 : Int))) (27 : Int))) (0 : Int))))))) : Tm) = math_bits_TrailingZeros32.R r ∧ ([] : List Box) = []))))))) (by kernel_rfl) ?_)
  refine ⟨trivial, ?_⟩
  refine ⟨fun b1 => ?_, fun b1 => ?_⟩
  · rw [if_pos (beq_t b1)] at h
    refine ⟨trivial, ?_⟩
    refine ⟨trivial, ?_⟩
    obtain rfl := Option.some.inj h
    exact ⟨trivial, trivial, rfl, rfl⟩
  · rw [if_neg (beq_f b1)] at h
    refine ⟨trivial, ?_⟩
    refine ⟨trivial, ?_⟩
    refine ⟨trivial, ?_⟩
    refine ⟨trivial, ?_⟩
    refine ⟨(by decide), ?_⟩
    obtain ⟨g2, h⟩ := of_guard h
    refine ⟨g2, ?_⟩
    refine ⟨trivial, ?_⟩
    refine ⟨trivial, ?_⟩
    refine ⟨trivial, ?_⟩
    obtain rfl := Option.some.inj h
    exact ⟨trivial, trivial, rfl, rfl⟩
/-! halter/sigset.First -/
def sigset_First.f (a0 : Int) : Option Int :=
  if (bits .and .u32 a0 (2147483647 : Int)) = (0 : Int) then
    some (0 : Int)
  else
    (math_bits_TrailingZeros32.f a0).bind fun t2 =>
    some (IntKind.wrap .i64 (t2 + (1 : Int)))
def sigset_First.R (r : Int) : Tm := .v (.one (.sc (.int .i64 r)))
theorem sigset_First.fun_ {a0 : Int} {r : Int} (h : sigset_First.f a0 = some r) : Fun cfg 30 [.one (.sc (.int .u32 a0))] [] (sigset_First.R r) [] := by
  unfold sigset_First.f at h
  refine fun_of_run cfg_ok (f := 30) (fn := Tryd.f30) Tryd.func30 rfl (by kernel_rfl) (rs := [.tmp 2]) rfl (nt := 9) rfl (l := fin) (k := (.br (.adj [] (.adj [] (.adj [] .nil))) (.call true [] (Int) (fun t2 => math_bits_TrailingZeros32.R t2) (fun t2 => (.adj [] (.adj [] .nil)))))) (to_goal (q := (True) ∧ (True) ∧ ((((bits .and .u32 a0 (2147483647 : Int)) == (0 : Int)) = true → (True ∧ (True ∧ ((True) ∧ (True) ∧ (.v (.one (.sc (.int .i64 (0 : Int)))) : Tm) = sigset_First.R r ∧ ([] : List Box) = [])))) ∧ (((bits .and .u32 a0 (2147483647 : Int)) == (0 : Int)) = false → (∃ t2 : Int, (Fun cfg 41 [.one (.sc (.int .u32 a0))] [] (math_bits_TrailingZeros32.R t2) [] ∧ True) ∧ (True) ∧ (True ∧ ((True) ∧ (True) ∧ (.v (.one (.sc (.int .i64 (IntKind.wrap .i64 (t2 + (1 : Int)))))) : Tm) = sigset_First.R r ∧ ([] : List Box) = [])))))) (by kernel_rfl) ?_)
  refine ⟨trivial, ?_⟩
  refine ⟨trivial, ?_⟩
  refine ⟨fun b1 => ?_, fun b1 => ?_⟩
  · rw [if_pos (beq_t b1)] at h
    refine ⟨trivial, ?_⟩
    refine ⟨trivial, ?_⟩
    obtain rfl := Option.some.inj h
    exact ⟨trivial, trivial, rfl, rfl⟩
  · rw [if_neg (beq_f b1)] at h
    obtain ⟨t2, ht2, h⟩ := of_bind h
    refine ⟨t2, ⟨math_bits_TrailingZeros32.fun_ ht2, trivial⟩, ?_⟩
    refine ⟨trivial, ?_⟩
    refine ⟨trivial, ?_⟩
    obtain rfl := Option.some.inj h
    exact ⟨trivial, trivial, rfl, rfl⟩
/-! halter/sig.Next -/
def sig_Next.l0 (a0 : Int) (a1 : Int) (a2 : (List Int)) : Nat → Int → Option ((Unit) ⊕ (Int))
  | 0, _ => none
  | n + 1, x1 =>
    if x1 < (2 : Int) then
      if 0 ≤ x1 ∧ x1 < ((2 : Nat) : Int) then
        (sigset_Has.f a0 (List.getD [(9 : Int), (19 : Int)] (Int.toNat x1) (0 : Int))).bind fun t9 =>
        if t9 = true then
          some (.inr (List.getD [(9 : Int), (19 : Int)] (Int.toNat x1) (0 : Int)))
        else
          sig_Next.l0 a0 a1 a2 n (IntKind.wrap .i64 (x1 + (1 : Int)))
      else none
    else
      some (.inl ())
def sig_Next.l0_S (a0 : Int) (a1 : Int) (a2 : (List Int)) (x1 : Int) : St := ⟨[.any, .v (.one (.ptr 0 ⟨0, 0, 0, 0⟩)), .any, .any, .any, .v (.agg [.row 2 (.int .i64) [(9 : Int), (19 : Int)]]), .v (.one (.sc (.int .i64 x1))), .any, .any, .any, .any, .any, .any, .any, .any, .any, .any, .any, .any, .any, .any], [.ex false [.c (.sc (.int .u32 a0)), .c (.sc (.int .u32 a1)), .row 32 (.int .u32) a2] 41], 0⟩
def sig_Next.l0_Q (a0 : Int) (a1 : Int) (a2 : (List Int)) : (Unit) ⊕ (Int) → Exit → St → Prop
  | .inl t => fun e s => e = (.exit 0) ∧ s = ⟨[.any, .v (.one (.ptr 0 ⟨0, 0, 0, 0⟩)), .any, .any, .any, .any, .any, .any, .any, .any, .any, .any, .any, .any, .any, .any, .any, .any, .any, .any, .any], [.ex false [.c (.sc (.int .u32 a0)), .c (.sc (.int .u32 a1)), .row 32 (.int .u32) a2] 41], 0⟩
  | .inr t => fun e s => e = .ret ∧ s = ⟨[.any, .any, .v (.one (.sc (.int .i64 t))), .any, .any, .any, .any, .any, .any, .any, .any, .any, .any, .any, .any, .any, .any, .any, .any, .any, .any], [.ex false [.c (.sc (.int .u32 a0)), .c (.sc (.int .u32 a1)), .row 32 (.int .u32) a2] 41], 0⟩
theorem sig_Next.l0_ok (a0 : Int) (a1 : Int) (a2 : (List Int)) : ∀ (n : Nat) (x1 : Int) (r : (Unit) ⊕ (Int)), sig_Next.l0 a0 a1 a2 n x1 = some r → TripN cfg (cpath (Tryd.f14.body.getD .skip) [1, 0, 1, 0, 0]) n (sig_Next.l0_S a0 a1 a2 x1) (sig_Next.l0_Q a0 a1 a2 r) := by
  intro n
  induction n with
  | zero => intro x1 r h; cases h
  | succ n ih =>
    intro x1 r h
    rw [sig_Next.l0] at h
    refine TripN.of_run cfg_ok (k := (.br (.call true [] (Bool) (fun t9 => sigset_Has.R t9) (fun t9 => (.br (.adj [] (.adj [.keep [2], .drop 1] .nil)) (.adj [] (.adj [] (.adj [.keep [1, 5, 6], .drop 1] .nil)))))) (.adj [.keep [1], .drop 1] .nil))) (to_goal (q := (True) ∧ (((decide (x1 < (2 : Int))) = true → (0 ≤ x1 ∧ x1 < ((2 : Nat) : Int)) ∧ (True) ∧ (∃ t9 : Bool, (Fun cfg 29 [.one (.sc (.int .u32 a0)), .one (.sc (.int .i64 (List.getD [(9 : Int), (19 : Int)] (Int.toNat x1) (0 : Int))))] [] (sigset_Has.R t9) [] ∧ True) ∧ ((t9 = true → (True ∧ (((True) ∧ (True) ∧ True) ∧ sig_Next.l0_Q a0 a1 a2 r .ret ⟨[.any, .any, .v (.one (.sc (.int .i64 (List.getD [(9 : Int), (19 : Int)] (Int.toNat x1) (0 : Int))))), .any, .any, .any, .any, .any, .any, .any, .any, .any, .any, .any, .any, .any, .any, .any, .any, .any, .any], [.ex false [.c (.sc (.int .u32 a0)), .c (.sc (.int .u32 a1)), .row 32 (.int .u32) a2] 41], 0⟩))) ∧ (t9 = false → (True ∧ (True ∧ (True) ∧ (((True) ∧ (True) ∧ True) ∧ TripN cfg (cpath (Tryd.f14.body.getD .skip) [1, 0, 1, 0, 0]) n (sig_Next.l0_S a0 a1 a2 (IntKind.wrap .i64 (x1 + (1 : Int)))) (sig_Next.l0_Q a0 a1 a2 r)))))))) ∧ ((decide (x1 < (2 : Int))) = false → (((True) ∧ (True) ∧ True) ∧ sig_Next.l0_Q a0 a1 a2 r (.exit 0) ⟨[.any, .v (.one (.ptr 0 ⟨0, 0, 0, 0⟩)), .any, .any, .any, .any, .any, .any, .any, .any, .any, .any, .any, .any, .any, .any, .any, .any, .any, .any, .any], [.ex false [.c (.sc (.int .u32 a0)), .c (.sc (.int .u32 a1)), .row 32 (.int .u32) a2] 41], 0⟩)))) (by kernel_rfl) ?_)
    refine ⟨trivial, ?_⟩
    refine ⟨fun b8 => ?_, fun b8 => ?_⟩
    · rw [if_pos (of_decide_eq_true b8)] at h
      obtain ⟨g11, h⟩ := of_guard h
      refine ⟨g11, ?_⟩
      refine ⟨trivial, ?_⟩
      obtain ⟨t9, ht9, h⟩ := of_bind h
      refine ⟨t9, ⟨sigset_Has.fun_ ht9, trivial⟩, ?_⟩
      refine ⟨fun b10 => ?_, fun b10 => ?_⟩
      · rw [if_pos b10] at h
        refine ⟨trivial, ?_⟩
        obtain rfl := Option.some.inj h
        exact ⟨⟨trivial, trivial, trivial⟩, rfl, rfl⟩
      · rw [if_neg (ff b10)] at h
        refine ⟨trivial, ?_⟩
        refine ⟨trivial, ?_⟩
        refine ⟨trivial, ?_⟩
        exact ⟨⟨trivial, trivial, trivial⟩, ih (IntKind.wrap .i64 (x1 + (1 : Int))) r h⟩
    · rw [if_neg (of_decide_eq_false b8)] at h
      obtain rfl := Option.some.inj h
      exact ⟨⟨trivial, trivial, trivial⟩, rfl, rfl⟩
def sig_Next.f (a0 : Int) (a1 : Int) (a2 : (List Int)) : Option Int :=
  (sig_Next.l0 a0 a1 a2 FUEL (0 : Int)).bind fun t7 =>
  match t7 with
  | .inl t13 =>
    (sigset_First.f (bits .andNot .u32 a0 a1)).bind fun t14 =>
    some t14
  | .inr t15 =>
    some t15
def sig_Next.R (r : Int) : Tm := .v (.one (.sc (.int .i64 r)))
end Go.Proofs.YtbnlochgbhcfnaaDoorGProcLetters
