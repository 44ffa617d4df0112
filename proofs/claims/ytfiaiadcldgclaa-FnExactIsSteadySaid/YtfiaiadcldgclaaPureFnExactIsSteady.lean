/-
  IsSteady answers as the reference's, for every beam.
  Conditions: none.
-/
import Derived.Test.YtfiaiadcldgclaaPFnExactIsSteadyx
import Derived.Test.YtfiaiadcldgclaaEv
namespace Go.Proofs.Ytfiaiadcldgclaa.Pure
open Go.RowKit Go.Proofs.Ytfiaiadcldgclaa.PFnExactIsSteady Go.Proofs.YtfiaiadcldgclaaW.PrintWords Go.Proofs.YtfiaiadcldgclaaW.PrintLast Go.Proofs.Ytfiaiadcldgclaa.EvW

theorem l01In_eq (a b c : Int) : spec_l01In.f a b c = some (decide (b ≤ a ∧ a ≤ c)) := by
  simp only [spec_l01In.f, ite_and, ge_iff_le]
theorem isSpot_eq (a : Int) : impl_isSpot.f a = some (decide (-1000 ≤ a ∧ a ≤ 1000)) := by
  simp only [impl_isSpot.f, ite_and, ge_iff_le]
theorem isLimit_eq (a : Int) : impl_isLimit.f a = some (decide (0 ≤ a ∧ a ≤ 1000)) := by
  simp only [impl_isLimit.f, ite_and, ge_iff_le]

theorem FnExactIsSteady (a0 a1 a2 a3 a4 : Int) (_ : (Lit.int .i64 a0).wf = true ∧ (Lit.int .i64 a1).wf = true ∧ (Lit.int .i64 a2).wf = true ∧ (Lit.int .i64 a3).wf = true ∧ (Lit.int .i64 a4).wf = true) : laws_FnExactIsSteady.f a0 a1 a2 a3 a4 = some true := by
  have e : spec_IsSteady.f a0 a1 a2 a3 a4 = impl_IsSteady.f a0 a1 a2 a3 a4 := by
    simp only [spec_IsSteady.f, impl_IsSteady.f, spec_BeamOk.f, impl_BeamOk.f, l01In_eq, isSpot_eq, isLimit_eq, Option.bind_some, decide_eq_true_eq, ite_and, ite_or, ge_iff_le]
  have t : ∃ b, impl_IsSteady.f a0 a1 a2 a3 a4 = some b := by
    simp only [impl_IsSteady.f, impl_BeamOk.f, isSpot_eq, isLimit_eq, Option.bind_some, decide_eq_true_eq, ite_and, ite_or]
    exact ⟨_, rfl⟩
  obtain ⟨b, hb⟩ := t
  simp only [laws_FnExactIsSteady.f, laws_toBeam.f, Option.bind_some, e, hb]
  simp

end Go.Proofs.Ytfiaiadcldgclaa.Pure
