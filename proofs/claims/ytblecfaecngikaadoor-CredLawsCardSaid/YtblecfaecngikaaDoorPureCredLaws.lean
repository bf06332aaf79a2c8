/- For every three numbers: who may reach one that may reach a third may reach that one, too; each may reach itself; Root may all, and nobody else may reach Root; what one has become it could reach. No condition. -/
import Derived.Test.YtblecfaecngikaaDoorPCredLawsx2
namespace Go.Proofs.YtblecfaecngikaaDoor.Pure
open Go.RowKit Go.Proofs.YtblecfaecngikaaDoor.PCredLaws Go.Proofs.YtblecfaecngikaaDoorW.PrintWords Go.Proofs.YtblecfaecngikaaDoorW.PrintLast

theorem modded (a : Int) : ∃ x : Int, wrap64 (Int.tmod (IntKind.u64.wrap a) 65536) = x ∧ 0 ≤ x ∧ x ≤ 65535 := by
  refine ⟨_, rfl, ?_⟩
  have h0 : 0 ≤ IntKind.u64.wrap a := by simp [IntKind.wrap, IntKind.bits, IntKind.signed]; omega
  have h1 : Int.tmod (IntKind.u64.wrap a) 65536 = IntKind.u64.wrap a % 65536 := Int.tmod_eq_emod_of_nonneg h0
  rw [h1]
  unfold wrap64
  omega

theorem CredLaws : halterlaw22_CredLaws.Pure := by
  intro a b c _ _ _
  refine ⟨4, ?_⟩
  obtain ⟨x, hx, hx0, hx1⟩ := modded a
  obtain ⟨y, hy, hy0, hy1⟩ := modded b
  obtain ⟨z, hz, hz0, hz1⟩ := modded c
  have hs : halterlaw22_sure.f 3 = some true := by rfl
  have e1 : ∀ x : Int, cred_Check.f x = some (if 0 ≤ x ∧ x ≤ 65535 then none else some 22) := by
    intro x
    unfold cred_Check.f
    by_cases h1 : x < 0
    · rw [if_pos h1, if_neg (by omega)]
    · by_cases h2 : x > 65535
      · rw [if_neg h1, if_pos h2, if_neg (by omega)]
      · rw [if_neg h1, if_neg h2, if_pos (by omega)]
  simp only [halterlaw22_CredLaws.f, hx, hy, hz]
  have c0 : cred_Check.f 0 = some none := rfl
  have cx : cred_Check.f x = some none := by rw [e1, if_pos ⟨hx0, hx1⟩]
  have cy : cred_Check.f y = some none := by rw [e1, if_pos ⟨hy0, hy1⟩]
  have cz : cred_Check.f z = some none := by rw [e1, if_pos ⟨hz0, hz1⟩]
  have m : ∀ u v : Int, cred_Check.f u = some none → cred_Check.f v = some none → cred_May.f u v = some (decide (u = 0 ∨ u = v)) := by
    intro u v hu hv
    unfold cred_May.f
    rw [hu, hv]
    by_cases h : u = 0 <;> by_cases h' : u = v <;> simp [h, h']
  have mxy := m x y cx cy
  have myz := m y z cy cz
  have mxz := m x z cx cz
  have mxx := m x x cx cx
  have m0x := m 0 x c0 cx
  have mx0 := m x 0 cx c0
  have hb : cred_Become.f 3 x y = some (if x = 0 ∨ x = y then (y, none) else (0, some 1)) := by
    simp only [cred_Become.f, cred_Become.j0, cx, cy, mxy, Option.bind_some]
    by_cases h : x = 0 ∨ x = y <;> simp [h]
  clear e1 hx hy hz m c0 cx cy cz
  simp only [halterlaw22_CredLaws.j0, mxy, myz, mxz, mxx, m0x, mx0, hb, hs, Option.bind_some]
  by_cases h3 : x = 0
  · simp [h3]
  · by_cases h4 : x = y
    · subst h4
      simp [h3]
    · simp [h3, h4]
end Go.Proofs.YtblecfaecngikaaDoor.Pure
