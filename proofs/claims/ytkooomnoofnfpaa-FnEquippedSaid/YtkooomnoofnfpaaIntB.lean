/-
  Lists of whole numbers, read by a place.
  Conditions: none.
-/
import Derived.Test.YtkooomnoofnfpaaEv
namespace Go.Proofs.Ytkooomnoofnfpaa.IntB
open Go.Proofs.YtkooomnoofnfpaaW.PrintWords
theorem rd_int (l : List Int) (i : Nat) (h : i < l.length) : rd l (i : Int) = l[i] := by
  simp [rd, List.getD, h]
end Go.Proofs.Ytkooomnoofnfpaa.IntB
