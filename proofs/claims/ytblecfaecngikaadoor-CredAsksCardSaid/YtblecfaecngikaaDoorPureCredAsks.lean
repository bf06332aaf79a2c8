/- For every pair of numbers cred's answers are those of the reference: who may reach whom, and become whom, or the errors. No condition. -/
import Derived.Test.YtblecfaecngikaaDoorPCredAsksx2
namespace Go.Proofs.YtblecfaecngikaaDoor.Pure
open Go.RowKit Go.Proofs.YtblecfaecngikaaDoor.PCredAsks Go.Proofs.YtblecfaecngikaaDoorW.PrintWords Go.Proofs.YtblecfaecngikaaDoorW.PrintLast

theorem CredAsks : halterlaw22_CredAsks.Pure := by
  intro a b _ _
  refine ⟨4, ?_⟩
  have hs : halterlaw22_sure.f 2 = some true := by rfl
  have e1 : ∀ x : Int, cred_Check.f x = some (if 0 ≤ x ∧ x ≤ 65535 then none else some 22) := by
    intro x
    unfold cred_Check.f
    by_cases h1 : x < 0
    · rw [if_pos h1, if_neg (by omega)]
    · by_cases h2 : x > 65535
      · rw [if_neg h1, if_pos h2, if_neg (by omega)]
      · rw [if_neg h1, if_neg h2, if_pos (by omega)]
  have e2 : ∀ x : Int, halterref22_Is.f x = some (decide (0 ≤ x ∧ x ≤ 65535)) := by
    intro x
    unfold halterref22_Is.f
    by_cases h1 : 0 ≤ x <;> by_cases h2 : x ≤ 65535 <;> simp [h1, h2]
  by_cases h1 : 0 ≤ a ∧ a ≤ 65535 <;> by_cases h2 : 0 ≤ b ∧ b ≤ 65535 <;> by_cases h3 : a = 0 <;> by_cases h4 : a = b
  all_goals simp [halterlaw22_CredAsks.f, halterlaw22_CredAsks.j0, halterlaw22_CredAsks.j1, cred_Become.f, cred_Become.j0, cred_May.f, halterref22_May.f, halterref22_May.j0, halterlaw22_num.f, e1, e2, h1, h2, h3, h4, hs]
end Go.Proofs.YtblecfaecngikaaDoor.Pure
