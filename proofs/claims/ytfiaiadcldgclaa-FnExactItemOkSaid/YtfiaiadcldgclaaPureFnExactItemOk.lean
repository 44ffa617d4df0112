/-
  ItemOk answers as the reference's, for every item.
  Conditions: none.
-/
import Derived.Test.YtfiaiadcldgclaaNamesFnExactItemOk
namespace Go.Proofs.Ytfiaiadcldgclaa.Pure
set_option linter.unusedSimpArgs false
set_option linter.unusedVariables false
open Go.RowKit Go.Proofs.Ytfiaiadcldgclaa.PFnExactItemOk Go.Proofs.YtfiaiadcldgclaaW.PrintWords Go.Proofs.YtfiaiadcldgclaaW.PrintLast Go.Proofs.Ytfiaiadcldgclaa.EvW Go.Proofs.Ytfiaiadcldgclaa.NamesFnExactItemOk

def itemB (s : ByteArray) (l e : Int) : Bool := nameB s && decide ((0 ≤ l ∧ l ≤ 1000) ∧ 0 ≤ e ∧ e ≤ 10000)

theorem isLimit_eq (a : Int) : impl_isLimit.f a = some (decide (0 ≤ a ∧ a ≤ 1000)) := by
  simp only [impl_isLimit.f, ite_and, ge_iff_le]

theorem spec_item (s : ByteArray) (l e : Int) (hs : s.size ≤ 140737488351232) : Ev (fun k => spec_ItemOk.f k s l e) (itemB s l e) := by
  simp only [spec_ItemOk.f, bind_eq (spec_name s hs), l01In_eq, Option.bind_some, decide_eq_true_eq, ite_and, ge_iff_le, itemB]
  cases nameB s <;> simp [ev_some]

theorem impl_item (s : ByteArray) (l e : Int) (hs : s.size ≤ 140737488351232) : Ev (fun k => impl_ItemOk.f k s l e) (itemB s l e) := by
  simp only [impl_ItemOk.f, bind_eq (impl_name s hs), isLimit_eq, Option.bind_some, decide_eq_true_eq, ite_and, ge_iff_le, itemB]
  cases nameB s <;> simp [ev_some]

theorem FnExactItemOk (s : ByteArray) (l e : Int) (ok0 : s.size ≤ 140737488351232 ∧ (Lit.int .i64 l).wf = true ∧ (Lit.int .i64 e).wf = true) : ∃ k, laws_FnExactItemOk.f k s l e = some true := by
  refine Ev.rounds (g := fun k => laws_FnExactItemOk.f k s l e) ?_
  have hz : ∃ z, laws_szItem.f s l e 1048576 = some z := by
    unfold laws_szItem.f
    split <;> exact ⟨_, rfl⟩
  obtain ⟨z, hz⟩ := hz
  simp only [laws_FnExactItemOk.f, hz, Option.bind_some, laws_toItem.f]
  split
  · exact Ev.now _
  · simp only [bind_eq (spec_item s l e ok0.1), bind_eq (impl_item s l e ok0.1), ev_some]
    simp [ev_some]

end Go.Proofs.Ytfiaiadcldgclaa.Pure
