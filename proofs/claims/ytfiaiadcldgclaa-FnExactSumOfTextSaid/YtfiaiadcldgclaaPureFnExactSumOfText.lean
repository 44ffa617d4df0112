/-
  The sum of a text's bytes, as the program reckons it, is the reference's, for every string.
  Conditions: none.
-/
import Derived.Test.YtfiaiadcldgclaaPFnExactSumOfTextx1
namespace Go.Proofs.Ytfiaiadcldgclaa.Pure
open Go.RowKit Go.Proofs.Ytfiaiadcldgclaa.PFnExactSumOfText Go.Proofs.YtfiaiadcldgclaaW.PrintWords Go.Proofs.YtfiaiadcldgclaaW.PrintLast

theorem wrap_up {i : Int} {n : Nat} (h0 : 0 ≤ i) (h : i < (n : Int)) (hn : n ≤ 140737488351232) : wrap64 (i + 1) = i + 1 := by
  unfold wrap64
  omega

/-- Both loops, from one place and one sum on, answer alike. -/
theorem sums (s : ByteArray) (hn : s.size ≤ 140737488351232) (d : Nat) : ∀ (k : Nat) (h i : Int), 0 ≤ i → i ≤ s.size → (s.size : Int) - i = d → d < k →
    ∃ r, spec_SumOfText.l0 k s h i = some r ∧ impl_SumOfText.l0 k s h (s.size : Int) i = some r := by
  induction d with
  | zero =>
    intro k h i h0 h1 hd hk
    obtain ⟨k, rfl⟩ : ∃ m, k = m + 1 := ⟨k - 1, by omega⟩
    refine ⟨h, ?_, ?_⟩
    · simp only [spec_SumOfText.l0]; rw [if_neg (by omega)]
    · simp only [impl_SumOfText.l0]; rw [if_neg (by omega)]
  | succ d ih =>
    intro k h i h0 h1 hd hk
    obtain ⟨k, rfl⟩ : ∃ m, k = m + 1 := ⟨k - 1, by omega⟩
    have hlt : i < (s.size : Int) := by omega
    obtain ⟨r, ha, hb⟩ := ih k (Int.tmod (wrap64 ((wrap64 (31 * h)) + (wrap64 (bt s i)))) 65521) (i + 1) (by omega) (by omega) (by omega) (by omega)
    refine ⟨r, ?_, ?_⟩
    · simp only [spec_SumOfText.l0]; rw [if_pos hlt, if_pos h0, wrap_up h0 hlt hn]; exact ha
    · simp only [impl_SumOfText.l0]; rw [if_pos hlt, if_pos h0, if_pos hlt, wrap_up h0 hlt hn]; exact hb

theorem FnExactSumOfText : laws_FnExactSumOfText.Pure := by
  intro s hn
  obtain ⟨r, ha, hb⟩ := sums s hn s.size (s.size + 1) 7 0 (by omega) (by omega) (by omega) (by omega)
  refine ⟨s.size + 1, ?_⟩
  unfold laws_FnExactSumOfText.f spec_SumOfText.f impl_SumOfText.f
  rw [ha, hb]
  simp

end Go.Proofs.Ytfiaiadcldgclaa.Pure
