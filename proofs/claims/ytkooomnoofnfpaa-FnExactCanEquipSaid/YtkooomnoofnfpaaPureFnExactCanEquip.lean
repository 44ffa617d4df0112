/-
  CanEquip answers as the reference's, for every list of items, all needs and every day, and leaves its arguments as they were.
  Conditions: none.
-/
import Derived.Test.YtkooomnoofnfpaaEquipSFnExactCanEquip
import Derived.Test.YtkooomnoofnfpaaEquipIFnExactCanEquip
import Derived.Test.YtkooomnoofnfpaaItemArgsFnExactCanEquip
import Derived.Test.YtkooomnoofnfpaaIntArgsFnExactCanEquip
namespace Go.Proofs.Ytkooomnoofnfpaa.Pure
set_option linter.unusedSimpArgs false
set_option linter.unusedVariables false
open Go.RowKit Go.Proofs.YtkooomnoofnfpaaW.PrintWords Go.Proofs.YtkooomnoofnfpaaW.PrintLast Go.Proofs.YtkooomnoofnfpaaW.PrintMore Go.Proofs.Ytkooomnoofnfpaa.EvW Go.Proofs.Ytkooomnoofnfpaa.PFnExactCanEquip Go.Proofs.Ytkooomnoofnfpaa.StockB Go.Proofs.Ytkooomnoofnfpaa.StockDFnExactCanEquip Go.Proofs.Ytkooomnoofnfpaa.ItemArgsFnExactCanEquip Go.Proofs.Ytkooomnoofnfpaa.IntArgsFnExactCanEquip Go.Proofs.Ytkooomnoofnfpaa.EquipDFnExactCanEquip Go.Proofs.Ytkooomnoofnfpaa.EquipSFnExactCanEquip Go.Proofs.Ytkooomnoofnfpaa.EquipIFnExactCanEquip

theorem FnExactCanEquip (l : List La) (ok : (∀ x ∈ l, x.f0.size ≤ 140737488351232 ∧ (Lit.int .i64 x.f1).wf = true ∧ (Lit.int .i64 x.f2).wf = true) ∧ l.length * 32 ≤ 140737488351232 ∧ l.length ≤ maxLen)
    (c : List Int) (okc : (∀ x ∈ c, (Lit.int .i64 x).wf = true) ∧ c.length * 8 ≤ 140737488351232 ∧ c.length ≤ maxLen) (day : Int) (okd : (Lit.int .i64 day).wf = true) : ∃ k, laws_FnExactCanEquip.f k l c day = some true := by
  obtain ⟨ok, hl, _⟩ := ok
  obtain ⟨_, hc, _⟩ := okc
  refine Ev.rounds (g := fun k => laws_FnExactCanEquip.f k l c day) ?_
  obtain ⟨z, hz⟩ := sz_items l (by omega) 1048576
  have hn : ∀ x ∈ l.map toIt, x.f0.size ≤ 140737488351232 := by
    intro x hx
    obtain ⟨y, hy, rfl⟩ := List.mem_map.1 hx
    exact (ok y hy).1
  have hm : (l.map toIt).length ≤ 140737488351232 := by rw [List.length_map]; omega
  simp only [laws_FnExactCanEquip.f]
  split
  · exact Ev.now _
  · simp only [bind_eq hz]
    split
    · exact Ev.now _
    · simp only [bind_eq (to_items l hl), bind_eq (to_ints c hc), bind_eq (canS_ev _ hn hm c day), bind_eq (can_ev _ hn hm c day), bne_self_eq_false, Bool.false_eq_true, if_false, bind_eq (eq_items _ hm), bind_eq (eq_ints c (by omega)), if_true, ev_some]

end Go.Proofs.Ytkooomnoofnfpaa.Pure
