/-
  Names: the program's reading.
  Conditions: none.
-/
import Derived.Test.YtkooomnoofnfpaaPFnExactFormatMemberx
import Derived.Test.YtkooomnoofnfpaaNameB
namespace Go.Proofs.Ytkooomnoofnfpaa.NameIFnExactFormatMember
set_option linter.unusedSimpArgs false
set_option linter.unusedVariables false
open Go.RowKit Go.Proofs.YtkooomnoofnfpaaW.PrintWords Go.Proofs.YtkooomnoofnfpaaW.PrintLast Go.Proofs.YtkooomnoofnfpaaW.PrintMore Go.Proofs.Ytkooomnoofnfpaa.EvW Go.Proofs.Ytkooomnoofnfpaa.PFnExactFormatMember Go.Proofs.Ytkooomnoofnfpaa.NameB

theorem isLetter_eq (a : Int) : impl_isLetter.f a = some (decide (97 ≤ a ∧ a ≤ 122)) := by
  simp only [impl_isLetter.f, ite_and, ge_iff_le]
theorem isDigit_eq (a : Int) : impl_isDigit.f a = some (decide (48 ≤ a ∧ a ≤ 57)) := by
  simp only [impl_isDigit.f, ite_and, ge_iff_le]

theorem impl_loop (s : ByteArray) (hs : s.size ≤ 140737488351232) : ∀ (d : Nat) (i : Int), 0 ≤ i → i + d = s.size → Ev (fun k => impl_IsName.l0 k s (s.size : Int) i) (fits s d i && decide (1 ≤ s.size ∧ s.size ≤ 8)) := by
  intro d
  induction d with
  | zero =>
    intro i h0 h1
    refine Ev.step (fun k => by simp only [impl_IsName.l0]; rw [if_neg (by omega)]) ?_
    simp only [fits, Bool.true_and]
    have e : (s.toList = []) = (s.size = 0) := by
      rw [ByteArray.toList_eq]
      refine propext ⟨fun h => ?_, fun h => List.eq_nil_of_length_eq_zero (by rw [Array.length_toList]; exact h)⟩
      have := congrArg List.length h
      rw [Array.length_toList] at this
      exact this
    simp only [e]
    by_cases h : s.size = 0
    · rw [if_pos h]
      simp only [ev_some]
      simp [h]
    · rw [if_neg h]
      simp only [ev_some]
      exact decide_eq_decide.2 (by omega)
  | succ d ih =>
    intro i h0 h1
    refine Ev.step (fun k => by simp only [impl_IsName.l0]; rw [if_pos (by omega), if_pos h0, if_pos (by omega), wrap_id (by omega) (by omega)]) ?_
    simp only [isLetter_eq, isDigit_eq, Option.bind_some, decide_eq_true_eq, impl_body]
    have hr := ih (i + 1) (by omega) (by omega)
    by_cases h : Fit s i
    · simp only [fits, if_pos h, decide_eq_true h, Bool.true_and]
      exact hr
    · simp only [fits, if_neg h, decide_eq_false h, Bool.false_and, ev_some]

theorem impl_name (s : ByteArray) (hs : s.size ≤ 140737488351232) : Ev (fun k => impl_IsName.f k s) (nameB s) :=
  impl_loop s hs s.size 0 (by omega) (by omega)

end Go.Proofs.Ytkooomnoofnfpaa.NameIFnExactFormatMember
