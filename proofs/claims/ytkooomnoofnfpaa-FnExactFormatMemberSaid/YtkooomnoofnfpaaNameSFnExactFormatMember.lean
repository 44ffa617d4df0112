/-
  Names: the reference's reading.
  Conditions: none.
-/
import Derived.Test.YtkooomnoofnfpaaPFnExactFormatMemberx
import Derived.Test.YtkooomnoofnfpaaNameB
namespace Go.Proofs.Ytkooomnoofnfpaa.NameSFnExactFormatMember
set_option linter.unusedSimpArgs false
set_option linter.unusedVariables false
open Go.RowKit Go.Proofs.YtkooomnoofnfpaaW.PrintWords Go.Proofs.YtkooomnoofnfpaaW.PrintLast Go.Proofs.YtkooomnoofnfpaaW.PrintMore Go.Proofs.Ytkooomnoofnfpaa.EvW Go.Proofs.Ytkooomnoofnfpaa.PFnExactFormatMember Go.Proofs.Ytkooomnoofnfpaa.NameB

theorem l01In_eq (a b c : Int) : spec_l01In.f a b c = some (decide (b ≤ a ∧ a ≤ c)) := by
  simp only [spec_l01In.f, ite_and, ge_iff_le]
theorem spec_loop (s : ByteArray) (hs : s.size ≤ 140737488351232) : ∀ (d : Nat) (i : Int), 0 ≤ i → i + d = s.size → Ev (fun k => spec_IsName.l0 k s i) (fits s d i && decide (1 ≤ s.size ∧ s.size ≤ 8)) := by
  intro d
  induction d with
  | zero =>
    intro i h0 h1
    refine Ev.step (fun k => by simp only [spec_IsName.l0]; rw [if_neg (by omega)]) ?_
    simp only [l01In_eq, Option.bind_some, ev_some, fits, Bool.true_and]
    exact decide_eq_decide.2 (by omega)
  | succ d ih =>
    intro i h0 h1
    refine Ev.step (fun k => by simp only [spec_IsName.l0]; rw [if_pos (by omega), if_pos h0, wrap_id (by omega) (by omega), spec_body]) ?_
    have hr := ih (i + 1) (by omega) (by omega)
    by_cases h : Fit s i
    · simp only [fits, if_pos h, decide_eq_true h, Bool.true_and]
      exact hr
    · simp only [fits, if_neg h, decide_eq_false h, Bool.false_and, ev_some]

theorem spec_name (s : ByteArray) (hs : s.size ≤ 140737488351232) : Ev (fun k => spec_IsName.f k s) (nameB s) :=
  spec_loop s hs s.size 0 (by omega) (by omega)
end Go.Proofs.Ytkooomnoofnfpaa.NameSFnExactFormatMember
