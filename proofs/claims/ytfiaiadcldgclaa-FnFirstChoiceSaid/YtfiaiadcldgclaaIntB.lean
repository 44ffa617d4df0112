/-
  Lists of whole numbers, read by a place.
  Conditions: none.
-/
import Derived.Test.YtfiaiadcldgclaaEv
namespace Go.Proofs.Ytfiaiadcldgclaa.IntB
open Go.Proofs.YtfiaiadcldgclaaW.PrintWords
theorem rd_int (l : List Int) (i : Nat) (h : i < l.length) : rd l (i : Int) = l[i] := by
  simp [rd, List.getD, h]
end Go.Proofs.Ytfiaiadcldgclaa.IntB
