/-
  What the program's SpareOf tells.
  Conditions: none.
-/
import Derived.Test.YtkooomnoofnfpaaStockIFnEquipped
import Derived.Test.YtkooomnoofnfpaaEquipDFnEquipped
import Derived.Test.YtkooomnoofnfpaaContainsFnEquipped
namespace Go.Proofs.Ytkooomnoofnfpaa.SpareIFnEquipped
set_option linter.unusedSimpArgs false
set_option linter.unusedVariables false
open Go.RowKit Go.Proofs.YtkooomnoofnfpaaW.PrintWords Go.Proofs.YtkooomnoofnfpaaW.PrintLast Go.Proofs.YtkooomnoofnfpaaW.PrintMore Go.Proofs.Ytkooomnoofnfpaa.EvW Go.Proofs.Ytkooomnoofnfpaa.PFnEquipped Go.Proofs.Ytkooomnoofnfpaa.StockB Go.Proofs.Ytkooomnoofnfpaa.StockDFnEquipped Go.Proofs.Ytkooomnoofnfpaa.Equip Go.Proofs.Ytkooomnoofnfpaa.StockIFnEquipped Go.Proofs.Ytkooomnoofnfpaa.IntB Go.Proofs.Ytkooomnoofnfpaa.EquipDFnEquipped Go.Proofs.Ytkooomnoofnfpaa.ContainsFnEquipped

theorem spareI_ev (l : List It) (hs : ∀ x ∈ l, x.f0.size ≤ 140737488351232) (hl : l.length ≤ 140737488351232) (c : List Int) (hc : c.length ≤ 140737488351232) :
    Ev (fun k => impl_SpareOf.f k l c) (if stockB l then placesB (fun i => !decide ((i : Int) ∈ c)) l.length 0 else []) := by
  unfold impl_SpareOf.f
  rw [bind_eq (impl_stock l hs hl)]
  cases hst : stockB l with
  | false => simp [ev_some]
  | true =>
    have h12 : l.length ≤ 12 := by
      simp only [stockB, Bool.and_eq_true, decide_eq_true_eq] at hst
      exact hst.1
    simp only [if_true]
    have key : ∀ (d i : Nat), i + d = l.length → ∀ o : List Int, o.length ≤ i → Ev (fun k => impl_SpareOf.l0 k c o (l.length : Int) (i : Int)) (o ++ placesB (fun i => !decide ((i : Int) ∈ c)) d i) := by
      intro d
      induction d with
      | zero =>
        intro i hi o ho
        exact Ev.step (f := fun _ => some o) (fun k => by simp only [impl_SpareOf.l0]; rw [if_neg (by omega)]) (by simpa [placesB] using Ev.now o)
      | succ d ih =>
        intro i hi o ho
        have hwi : wrap64 ((i : Int) + 1) = ((i + 1 : Nat) : Int) := by rw [wrap_id (by omega) (by omega)]; omega
        refine Ev.step (fun k => by simp only [impl_SpareOf.l0]; rw [if_pos (by omega)]) ?_
        rw [bind_eq (contains_ev c hc (i : Int))]
        simp only [hwi, if_pos (show o.length < 17592186044416 by omega)]
        unfold placesB
        cases h : decide ((i : Int) ∈ c) with
        | true =>
          simp only [if_true, Bool.not_true, Bool.false_eq_true, if_false]
          exact ih (i + 1) (by omega) o (by omega)
        | false =>
          simp only [if_true, Bool.not_false, Bool.false_eq_true, if_false]
          have := ih (i + 1) (by omega) (o ++ [(i : Int)]) (by simp; omega)
          simpa using this
    have := key l.length 0 (by omega) [] (by simp)
    simpa using this

end Go.Proofs.Ytkooomnoofnfpaa.SpareIFnEquipped
