/-
  What the program's Usable tells: the places of the items that serve.
  Conditions: none.
-/
import Derived.Test.YtkooomnoofnfpaaEquipDFnEquipped
import Derived.Test.YtkooomnoofnfpaaStockIFnEquipped
namespace Go.Proofs.Ytkooomnoofnfpaa.UsableIFnEquipped
set_option linter.unusedSimpArgs false
set_option linter.unusedVariables false
open Go.RowKit Go.Proofs.YtkooomnoofnfpaaW.PrintWords Go.Proofs.YtkooomnoofnfpaaW.PrintLast Go.Proofs.YtkooomnoofnfpaaW.PrintMore Go.Proofs.Ytkooomnoofnfpaa.EvW Go.Proofs.Ytkooomnoofnfpaa.PFnEquipped Go.Proofs.Ytkooomnoofnfpaa.StockB Go.Proofs.Ytkooomnoofnfpaa.StockDFnEquipped Go.Proofs.Ytkooomnoofnfpaa.Equip Go.Proofs.Ytkooomnoofnfpaa.StockIFnEquipped Go.Proofs.Ytkooomnoofnfpaa.IntB Go.Proofs.Ytkooomnoofnfpaa.EquipDFnEquipped

theorem usableI_eq (x : It) (n day : Int) : impl_Item_usable.f x.f0 x.f1 x.f2 n day = some (decide (n ≤ x.f1 ∧ day ≤ x.f2)) := by
  simp only [impl_Item_usable.f, ite_and, ge_iff_le]

theorem usable_ev (l : List It) (hs : ∀ x ∈ l, x.f0.size ≤ 140737488351232) (hl : l.length ≤ 140737488351232) (n day : Int) :
    Ev (fun k => impl_Usable.f k l n day) (if stockB l then placesB (us l day n) l.length 0 else []) := by
  unfold impl_Usable.f
  rw [bind_eq (impl_stock l hs hl)]
  cases hst : stockB l with
  | false => simp [ev_some]
  | true =>
    have h12 : l.length ≤ 12 := by
      simp only [stockB, Bool.and_eq_true, decide_eq_true_eq] at hst
      exact hst.1
    simp only [if_true]
    have key : ∀ (d i : Nat), i + d = l.length → ∀ o : List Int, o.length ≤ i → Ev (fun k => impl_Usable.l0 k n day o l (l.length : Int) (i : Int)) (o ++ placesB (us l day n) d i) := by
      intro d
      induction d with
      | zero =>
        intro i hi o ho
        exact Ev.step (f := fun _ => some o) (fun k => by simp only [impl_Usable.l0]; rw [if_neg (by omega)]) (by simpa [placesB] using Ev.now o)
      | succ d ih =>
        intro i hi o ho
        have hlt : i < l.length := by omega
        have hwi : wrap64 ((i : Int) + 1) = ((i + 1 : Nat) : Int) := by rw [wrap_id (by omega) (by omega)]; omega
        refine Ev.step (fun k => by simp only [impl_Usable.l0]; rw [if_pos (by omega), if_pos (by omega), if_pos (by omega), rd_nat l i hlt, usableI_eq]) ?_
        have hus := us_eq l day n i hlt
        simp only [Option.bind_some, decide_eq_true_eq, hwi, if_pos (show o.length < 17592186044416 by omega)]
        unfold placesB
        by_cases c : n ≤ l[i].f1 ∧ day ≤ l[i].f2
        · rw [decide_eq_true c] at hus
          simp only [if_pos c, hus, if_true]
          have := ih (i + 1) (by omega) (o ++ [(i : Int)]) (by simp; omega)
          simpa using this
        · rw [decide_eq_false c] at hus
          simp only [if_neg c, hus, Bool.false_eq_true, if_false]
          exact ih (i + 1) (by omega) o (by omega)
    have := key l.length 0 (by omega) [] (by simp)
    simpa using this

end Go.Proofs.Ytkooomnoofnfpaa.UsableIFnEquipped
