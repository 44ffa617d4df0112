/-
  Names: what a name is.
  Conditions: none.
-/
import Derived.Test.YtkooomnoofnfpaaEv
import Derived.Laws.Strings
namespace Go.Proofs.Ytkooomnoofnfpaa.NameB
set_option linter.unusedSimpArgs false
set_option linter.unusedVariables false
open Go.RowKit Go.Proofs.YtkooomnoofnfpaaW.PrintWords Go.Proofs.YtkooomnoofnfpaaW.PrintLast Go.Proofs.YtkooomnoofnfpaaW.PrintMore Go.Proofs.Ytkooomnoofnfpaa.EvW

/-- A sign that may stand at place i of a name. -/
abbrev Fit (s : ByteArray) (i : Int) : Prop := (97 ≤ bt s i ∧ bt s i ≤ 122) ∨ (i ≠ 0 ∧ 48 ≤ bt s i ∧ bt s i ≤ 57)
/-- The d signs from place i on may all stand there. -/
def fits (s : ByteArray) : Nat → Int → Bool
  | 0, _ => true
  | d + 1, i => decide (Fit s i) && fits s d (i + 1)
def nameB (s : ByteArray) : Bool := fits s s.size 0 && decide (1 ≤ s.size ∧ s.size ≤ 8)

theorem spec_body (s : ByteArray) (i : Int) (X : Option Bool) : (if (bt s i) ≥ 97 then (if ((bt s i) ≤ 122) then X else (if i = 0 then (some false) else (if (bt s i) < 48 then (some false) else (if (bt s i) > 57 then (some false) else X)))) else (if i = 0 then (some false) else (if (bt s i) < 48 then (some false) else (if (bt s i) > 57 then (some false) else X)))) = if Fit s i then X else some false := by
  by_cases h : Fit s i
  · rw [if_pos h]
    repeat' split
    all_goals first | rfl | (exfalso; unfold Fit at h; omega)
  · rw [if_neg h]
    repeat' split
    all_goals first | rfl | (exfalso; unfold Fit at h; omega)

theorem impl_body (s : ByteArray) (i : Int) (X : Option Bool) : (if 97 ≤ bt s i ∧ bt s i ≤ 122 then X else if i = 0 then some false else if 48 ≤ bt s i ∧ bt s i ≤ 57 then X else some false) = if Fit s i then X else some false := by
  by_cases h : Fit s i
  · rw [if_pos h]
    repeat' split
    all_goals first | rfl | (exfalso; unfold Fit at h; omega)
  · rw [if_neg h]
    repeat' split
    all_goals first | rfl | (exfalso; unfold Fit at h; omega)

end Go.Proofs.Ytkooomnoofnfpaa.NameB
