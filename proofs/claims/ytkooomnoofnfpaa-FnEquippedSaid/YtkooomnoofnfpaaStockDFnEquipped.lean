/-
  What a stock is, for the items of this law's print.
  Conditions: none.
-/
import Derived.Test.YtkooomnoofnfpaaPFnEquippedx
import Derived.Test.YtkooomnoofnfpaaNameB
import Derived.Test.YtkooomnoofnfpaaStockB
namespace Go.Proofs.Ytkooomnoofnfpaa.StockDFnEquipped
set_option linter.unusedSimpArgs false
set_option linter.unusedVariables false
open Go.RowKit Go.Proofs.YtkooomnoofnfpaaW.PrintWords Go.Proofs.YtkooomnoofnfpaaW.PrintLast Go.Proofs.YtkooomnoofnfpaaW.PrintMore Go.Proofs.Ytkooomnoofnfpaa.EvW Go.Proofs.Ytkooomnoofnfpaa.PFnEquipped Go.Proofs.Ytkooomnoofnfpaa.NameB Go.Proofs.Ytkooomnoofnfpaa.StockB

abbrev It := S36
def itemB (x : It) : Bool := nameB x.f0 && decide ((0 ≤ x.f1 ∧ x.f1 ≤ 1000) ∧ 0 ≤ x.f2 ∧ x.f2 ≤ 10000)
def sameB (x y : It) : Bool := y.f0.toList == x.f0.toList
/-- Item i is one, and none before it bears its name. -/
def okAt (l : List It) (i : Nat) : Bool := match l[i]? with
  | none => true
  | some x => itemB x && !(l.take i).any (sameB x)
def stockB (l : List It) : Bool := decide (l.length ≤ 12) && allUp (okAt l) l.length 0
theorem okAt_eq (l : List It) (i : Nat) (h : i < l.length) : okAt l i = (itemB l[i] && !(l.take i).any (sameB l[i])) := by
  simp [okAt, List.getElem?_eq_getElem h]
theorem rd_nat (l : List It) (i : Nat) (h : i < l.length) : rd_T36 l (i : Int) = l[i] := by
  simp [rd_T36, List.getD, h]

end Go.Proofs.Ytkooomnoofnfpaa.StockDFnEquipped
