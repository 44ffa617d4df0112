/-
  What a structure is, for the joints and members of this law's print.
  Conditions: none.
-/
import Derived.Test.YtkooomnoofnfpaaPFnExactFormatMemberx
import Derived.Test.YtkooomnoofnfpaaNameB
import Derived.Test.YtkooomnoofnfpaaStockB
namespace Go.Proofs.Ytkooomnoofnfpaa.StructDFnExactFormatMember
set_option linter.unusedSimpArgs false
set_option linter.unusedVariables false
open Go.RowKit Go.Proofs.YtkooomnoofnfpaaW.PrintWords Go.Proofs.YtkooomnoofnfpaaW.PrintLast Go.Proofs.YtkooomnoofnfpaaW.PrintMore Go.Proofs.Ytkooomnoofnfpaa.EvW Go.Proofs.Ytkooomnoofnfpaa.PFnExactFormatMember Go.Proofs.Ytkooomnoofnfpaa.NameB Go.Proofs.Ytkooomnoofnfpaa.StockB

abbrev Jt := S111
abbrev Mb := S96
def jointB (x : Jt) : Bool := nameB x.f0 && decide ((-50 ≤ x.f1 ∧ x.f1 ≤ 50) ∧ -50 ≤ x.f2 ∧ x.f2 ≤ 50)
def okJ (l : List Jt) (i : Nat) : Bool := match l[i]? with
  | none => true
  | some x => jointB x && decide (idxOf (fun y : Jt => y.f0.toList == x.f0.toList) l 0 = (i : Int))
def structB (l : List Jt) (m : List Mb) : Bool := decide (l.length ≤ 6) && (decide (m.length ≤ 8) && (allUp (okJ l) l.length 0 && m.all (fun y => memOk l y.f0 y.f1 y.f2)))
theorem okJ_eq (l : List Jt) (i : Nat) (h : i < l.length) : okJ l i = (jointB l[i] && decide (idxOf (fun y : Jt => y.f0.toList == l[i].f0.toList) l 0 = (i : Int))) := by
  simp [okJ, List.getElem?_eq_getElem h]
theorem rdj_nat (l : List Jt) (i : Nat) (h : i < l.length) : rd_T111 l (i : Int) = l[i] := by
  simp [rd_T111, List.getD, h]
theorem rdm_nat (l : List Mb) (i : Nat) (h : i < l.length) : rd_T96 l (i : Int) = l[i] := by
  simp [rd_T96, List.getD, h]
theorem idx_any {α : Type} (p : α → Bool) : ∀ (l : List α) (s : Int), 0 ≤ s → decide (0 ≤ idxOf p l s) = l.any p
  | [], s, h => by simp [idxOf]
  | x :: l, s, h => by
    rw [idxOf, List.any_cons]
    cases hx : p x with
    | true => simp [h]
    | false => simpa using idx_any p l (s + 1) (by omega)
theorem all_mem (l : List Jt) (m : List Mb) : (!(decide (0 ≤ idxOf (fun y : Mb => !memOk l y.f0 y.f1 y.f2) m 0))) = m.all (fun y => memOk l y.f0 y.f1 y.f2) := by
  rw [idx_any _ _ _ (Int.le_refl 0)]
  simp [List.any_eq_not_all_not]

end Go.Proofs.Ytkooomnoofnfpaa.StructDFnExactFormatMember
