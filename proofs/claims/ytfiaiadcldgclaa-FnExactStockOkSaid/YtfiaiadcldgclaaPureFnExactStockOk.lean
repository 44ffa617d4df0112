/-
  StockOk answers as the reference's, for every list of items, and leaves its argument as it was.
  Conditions: none.
-/
import Derived.Test.YtfiaiadcldgclaaStockSFnExactStockOk
import Derived.Test.YtfiaiadcldgclaaStockIFnExactStockOk
import Derived.Test.YtfiaiadcldgclaaItemArgsFnExactStockOk
namespace Go.Proofs.Ytfiaiadcldgclaa.Pure
set_option linter.unusedSimpArgs false
set_option linter.unusedVariables false
open Go.RowKit Go.Proofs.YtfiaiadcldgclaaW.PrintWords Go.Proofs.YtfiaiadcldgclaaW.PrintLast Go.Proofs.YtfiaiadcldgclaaW.PrintMore Go.Proofs.Ytfiaiadcldgclaa.EvW Go.Proofs.Ytfiaiadcldgclaa.PFnExactStockOk Go.Proofs.Ytfiaiadcldgclaa.StockB Go.Proofs.Ytfiaiadcldgclaa.StockDFnExactStockOk Go.Proofs.Ytfiaiadcldgclaa.ItemArgsFnExactStockOk Go.Proofs.Ytfiaiadcldgclaa.StockSFnExactStockOk Go.Proofs.Ytfiaiadcldgclaa.StockIFnExactStockOk

theorem FnExactStockOk (l : List La) (ok : (∀ x ∈ l, x.f0.size ≤ 140737488351232 ∧ (Lit.int .i64 x.f1).wf = true ∧ (Lit.int .i64 x.f2).wf = true) ∧ l.length * 32 ≤ 140737488351232 ∧ l.length ≤ maxLen) : ∃ k, laws_FnExactStockOk.f k l = some true := by
  obtain ⟨ok, hl, _⟩ := ok
  refine Ev.rounds (g := fun k => laws_FnExactStockOk.f k l) ?_
  obtain ⟨z, hz⟩ := sz_items l (by omega) 1048576
  have hn : ∀ x ∈ l.map toIt, x.f0.size ≤ 140737488351232 := by
    intro x hx
    obtain ⟨y, hy, rfl⟩ := List.mem_map.1 hx
    exact (ok y hy).1
  have hm : (l.map toIt).length ≤ 140737488351232 := by rw [List.length_map]; omega
  simp only [laws_FnExactStockOk.f, bind_eq hz]
  split
  · exact Ev.now _
  · simp only [bind_eq (to_items l hl), bind_eq (spec_stock _ hn hm), bind_eq (impl_stock _ hn hm), bind_eq (eq_items _ hm), bne_self_eq_false, Bool.false_eq_true, if_false, if_true, ev_some]

end Go.Proofs.Ytfiaiadcldgclaa.Pure
