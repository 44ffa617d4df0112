/-
  Names: both readings of a name answer alike, for every string.
  Conditions: none.
-/
import Derived.Test.YtfiaiadcldgclaaPFnExactItemOkx
import Derived.Test.YtfiaiadcldgclaaEv
import Derived.Laws.Strings
namespace Go.Proofs.Ytfiaiadcldgclaa.NamesFnExactItemOk
set_option linter.unusedSimpArgs false
set_option linter.unusedVariables false
open Go.RowKit Go.Proofs.Ytfiaiadcldgclaa.PFnExactItemOk Go.Proofs.YtfiaiadcldgclaaW.PrintWords Go.Proofs.YtfiaiadcldgclaaW.PrintLast Go.Proofs.Ytfiaiadcldgclaa.EvW

/-- A sign that may stand at place i of a name. -/
abbrev Fit (s : ByteArray) (i : Int) : Prop := (97 ≤ bt s i ∧ bt s i ≤ 122) ∨ (i ≠ 0 ∧ 48 ≤ bt s i ∧ bt s i ≤ 57)
/-- The d signs from place i on may all stand there. -/
def fits (s : ByteArray) : Nat → Int → Bool
  | 0, _ => true
  | d + 1, i => decide (Fit s i) && fits s d (i + 1)
def nameB (s : ByteArray) : Bool := fits s s.size 0 && decide (1 ≤ s.size ∧ s.size ≤ 8)

theorem l01In_eq (a b c : Int) : spec_l01In.f a b c = some (decide (b ≤ a ∧ a ≤ c)) := by
  simp only [spec_l01In.f, ite_and, ge_iff_le]
theorem isLetter_eq (a : Int) : impl_isLetter.f a = some (decide (97 ≤ a ∧ a ≤ 122)) := by
  simp only [impl_isLetter.f, ite_and, ge_iff_le]
theorem isDigit_eq (a : Int) : impl_isDigit.f a = some (decide (48 ≤ a ∧ a ≤ 57)) := by
  simp only [impl_isDigit.f, ite_and, ge_iff_le]

theorem spec_body (s : ByteArray) (i : Int) (X : Option Bool) : (if (bt s i) ≥ 97 then (if ((bt s i) ≤ 122) then X else (if i = 0 then (some false) else (if (bt s i) < 48 then (some false) else (if (bt s i) > 57 then (some false) else X)))) else (if i = 0 then (some false) else (if (bt s i) < 48 then (some false) else (if (bt s i) > 57 then (some false) else X)))) = if Fit s i then X else some false := by
  by_cases h : Fit s i
  · rw [if_pos h]
    repeat' split
    all_goals first | rfl | (exfalso; unfold Fit at h; omega)
  · rw [if_neg h]
    repeat' split
    all_goals first | rfl | (exfalso; unfold Fit at h; omega)

theorem impl_body (s : ByteArray) (i : Int) (X : Option Bool) : (if 97 ≤ bt s i ∧ bt s i ≤ 122 then X else if i = 0 then some false else if 48 ≤ bt s i ∧ bt s i ≤ 57 then X else some false) = if Fit s i then X else some false := by
  by_cases h : Fit s i
  · rw [if_pos h]
    repeat' split
    all_goals first | rfl | (exfalso; unfold Fit at h; omega)
  · rw [if_neg h]
    repeat' split
    all_goals first | rfl | (exfalso; unfold Fit at h; omega)

theorem spec_loop (s : ByteArray) (hs : s.size ≤ 140737488351232) : ∀ (d : Nat) (i : Int), 0 ≤ i → i + d = s.size → Ev (fun k => spec_IsName.l0 k s i) (fits s d i && decide (1 ≤ s.size ∧ s.size ≤ 8)) := by
  intro d
  induction d with
  | zero =>
    intro i h0 h1
    refine Ev.step (fun k => by simp only [spec_IsName.l0]; rw [if_neg (by omega)]) ?_
    simp only [l01In_eq, Option.bind_some, ev_some, fits, Bool.true_and]
    exact decide_eq_decide.2 (by omega)
  | succ d ih =>
    intro i h0 h1
    refine Ev.step (fun k => by simp only [spec_IsName.l0]; rw [if_pos (by omega), if_pos h0, wrap_id (by omega) (by omega), spec_body]) ?_
    have hr := ih (i + 1) (by omega) (by omega)
    by_cases h : Fit s i
    · simp only [fits, if_pos h, decide_eq_true h, Bool.true_and]
      exact hr
    · simp only [fits, if_neg h, decide_eq_false h, Bool.false_and, ev_some]

theorem impl_loop (s : ByteArray) (hs : s.size ≤ 140737488351232) : ∀ (d : Nat) (i : Int), 0 ≤ i → i + d = s.size → Ev (fun k => impl_IsName.l0 k s (s.size : Int) i) (fits s d i && decide (1 ≤ s.size ∧ s.size ≤ 8)) := by
  intro d
  induction d with
  | zero =>
    intro i h0 h1
    refine Ev.step (fun k => by simp only [impl_IsName.l0]; rw [if_neg (by omega)]) ?_
    simp only [fits, Bool.true_and]
    have e : (s.toList = []) = (s.size = 0) := by
      rw [ByteArray.toList_eq]
      refine propext ⟨fun h => ?_, fun h => List.eq_nil_of_length_eq_zero (by rw [Array.length_toList]; exact h)⟩
      have := congrArg List.length h
      rw [Array.length_toList] at this
      exact this
    simp only [e]
    by_cases h : s.size = 0
    · rw [if_pos h]
      simp only [ev_some]
      simp [h]
    · rw [if_neg h]
      simp only [ev_some]
      exact decide_eq_decide.2 (by omega)
  | succ d ih =>
    intro i h0 h1
    refine Ev.step (fun k => by simp only [impl_IsName.l0]; rw [if_pos (by omega), if_pos h0, if_pos (by omega), wrap_id (by omega) (by omega)]) ?_
    simp only [isLetter_eq, isDigit_eq, Option.bind_some, decide_eq_true_eq, impl_body]
    have hr := ih (i + 1) (by omega) (by omega)
    by_cases h : Fit s i
    · simp only [fits, if_pos h, decide_eq_true h, Bool.true_and]
      exact hr
    · simp only [fits, if_neg h, decide_eq_false h, Bool.false_and, ev_some]

theorem spec_name (s : ByteArray) (hs : s.size ≤ 140737488351232) : Ev (fun k => spec_IsName.f k s) (nameB s) :=
  spec_loop s hs s.size 0 (by omega) (by omega)
theorem impl_name (s : ByteArray) (hs : s.size ≤ 140737488351232) : Ev (fun k => impl_IsName.f k s) (nameB s) :=
  impl_loop s hs s.size 0 (by omega) (by omega)

end Go.Proofs.Ytfiaiadcldgclaa.NamesFnExactItemOk
