/-
  Usable answers as the reference's, for every list of items, every need and day; it leaves its argument as it was and hands back memory of its own.
  Conditions: none.
-/
import Derived.Test.YtkooomnoofnfpaaUsableSFnExactUsable
import Derived.Test.YtkooomnoofnfpaaUsableIFnExactUsable
import Derived.Test.YtkooomnoofnfpaaItemArgsFnExactUsable
import Derived.Test.YtkooomnoofnfpaaEqIntFnExactUsable
import Derived.Test.YtkooomnoofnfpaaMarkIntFnExactUsable
import Derived.Test.YtkooomnoofnfpaaMarkItemFnExactUsable
namespace Go.Proofs.Ytkooomnoofnfpaa.Pure
set_option linter.unusedSimpArgs false
set_option linter.unusedVariables false
open Go.RowKit Go.Proofs.YtkooomnoofnfpaaW.PrintWords Go.Proofs.YtkooomnoofnfpaaW.PrintLast Go.Proofs.YtkooomnoofnfpaaW.PrintMore Go.Proofs.Ytkooomnoofnfpaa.EvW Go.Proofs.Ytkooomnoofnfpaa.PFnExactUsable Go.Proofs.Ytkooomnoofnfpaa.StockB Go.Proofs.Ytkooomnoofnfpaa.Equip Go.Proofs.Ytkooomnoofnfpaa.StockDFnExactUsable Go.Proofs.Ytkooomnoofnfpaa.ItemArgsFnExactUsable Go.Proofs.Ytkooomnoofnfpaa.EqIntFnExactUsable Go.Proofs.Ytkooomnoofnfpaa.MarkIntFnExactUsable Go.Proofs.Ytkooomnoofnfpaa.MarkItemFnExactUsable Go.Proofs.Ytkooomnoofnfpaa.EquipDFnExactUsable Go.Proofs.Ytkooomnoofnfpaa.UsableSFnExactUsable Go.Proofs.Ytkooomnoofnfpaa.UsableIFnExactUsable

theorem FnExactUsable (l : List La) (ok : (∀ x ∈ l, x.f0.size ≤ 140737488351232 ∧ (Lit.int .i64 x.f1).wf = true ∧ (Lit.int .i64 x.f2).wf = true) ∧ l.length * 32 ≤ 140737488351232 ∧ l.length ≤ maxLen)
    (n : Int) (okn : (Lit.int .i64 n).wf = true) (day : Int) (okd : (Lit.int .i64 day).wf = true) : ∃ k, laws_FnExactUsable.f k l n day = some true := by
  obtain ⟨ok, hl, _⟩ := ok
  refine Ev.rounds (g := fun k => laws_FnExactUsable.f k l n day) ?_
  obtain ⟨z, hz⟩ := sz_items l (by omega) 1048576
  have hn : ∀ x ∈ l.map toIt, x.f0.size ≤ 140737488351232 := by
    intro x hx
    obtain ⟨y, hy, rfl⟩ := List.mem_map.1 hx
    exact (ok y hy).1
  have hm : (l.map toIt).length ≤ 140737488351232 := by rw [List.length_map]; omega
  have hi := usable_ev _ hn hm n day
  have hs := usableS_ev _ hn hm n day
  have hu : (if stockB (l.map toIt) then placesB (us (l.map toIt) day n) (l.map toIt).length 0 else []).length ≤ 140737488351232 := by
    split
    · have := places_length (us (l.map toIt) day n) (l.map toIt).length 0
      omega
    · simp
  generalize (if stockB (l.map toIt) then placesB (us (l.map toIt) day n) (l.map toIt).length 0 else []) = u at hi hs hu
  obtain ⟨l', hl'⟩ := mark_items (l.map toIt) hm 1 (by omega) (by omega)
  have hmk := mark_ints u hu 1 (by omega) (by omega)
  have hhd := held_ints u.length hu 1 (by omega) (by omega)
  have hq : ¬ (1 : Int) + (u.length : Int) < 0 := by omega
  simp only [laws_FnExactUsable.f, bind_eq hz]
  split
  · exact Ev.now _
  · simp only [bind_eq (to_items l hl), bind_eq hs, bind_eq hi, bind_eq (eq_ints u hu), bind_eq (eq_items _ hm), bind_eq hl', if_true, Bool.not_true]
    simp only [if_neg (show ¬ (1 : Int) + 3 * ((l.map toIt).length : Int) < 0 by omega), bind_eq (eq_ints u hu), Bool.not_true]
    refine Ev.step (fun k => by simp only [laws_FnExactUsable.j0, Bool.false_eq_true, if_false] <;> rfl) ?_
    simp only [bind_eq hmk, bind_eq hhd, if_neg hq, if_true, bind_eq (to_items l hl), bind_eq hi, bind_eq (eq_ints u hu), ev_some]

end Go.Proofs.Ytkooomnoofnfpaa.Pure
