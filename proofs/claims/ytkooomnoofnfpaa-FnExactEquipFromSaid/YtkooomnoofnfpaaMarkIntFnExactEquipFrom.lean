/-
  The laws' marks on whole numbers: written, then held.
  Conditions: none.
-/
import Derived.Test.YtkooomnoofnfpaaPFnExactEquipFromx
import Derived.Test.YtkooomnoofnfpaaStockB
import Derived.Test.YtkooomnoofnfpaaIntB
namespace Go.Proofs.Ytkooomnoofnfpaa.MarkIntFnExactEquipFrom
set_option linter.unusedSimpArgs false
set_option linter.unusedVariables false
open Go.RowKit Go.Proofs.YtkooomnoofnfpaaW.PrintWords Go.Proofs.YtkooomnoofnfpaaW.PrintLast Go.Proofs.YtkooomnoofnfpaaW.PrintMore Go.Proofs.Ytkooomnoofnfpaa.EvW Go.Proofs.Ytkooomnoofnfpaa.PFnExactEquipFrom Go.Proofs.Ytkooomnoofnfpaa.StockB Go.Proofs.Ytkooomnoofnfpaa.IntB

/-- m, m + 1, .. -/
def upFrom (m : Int) : Nat → List Int
  | 0 => []
  | d + 1 => m :: upFrom (m + 1) d
theorem upFrom_length : ∀ (d : Nat) (m : Int), (upFrom m d).length = d
  | 0, _ => rfl
  | d + 1, m => by simp [upFrom, upFrom_length d]

theorem mark_ints (l : List Int) (hl : l.length ≤ 140737488351232) (m : Int) (h0 : 0 ≤ m) (h1 : m ≤ 1000000000000000000) : Ev (fun k => laws_markIntS.f k l m) (m + l.length, upFrom m l.length) := by
  unfold laws_markIntS.f
  have key : ∀ (d : Nat) (A B : List Int) (x : Int), A.length + d ≤ 140737488351232 → B.length = d → 0 ≤ x → x ≤ 1000000000000000000 + A.length → Ev (fun k => laws_markIntS.l0 k (A ++ B) x (A.length : Int)) (x + d, A ++ upFrom x d) := by
    intro d
    induction d with
    | zero =>
      intro A B x hA hB hx hx2
      obtain rfl : B = [] := List.eq_nil_of_length_eq_zero hB
      exact Ev.step (f := fun _ => some (x, A ++ [])) (fun k => by simp only [laws_markIntS.l0]; rw [if_neg (by simp)]) (by simpa [upFrom] using Ev.now (x, A))
    | succ d ih =>
      intro A B x hA hB hx hx2
      match B, hB with
      | b :: B, hB =>
        have := ih (A ++ [x]) B (x + 1) (by simp; omega) (by simpa using hB) (by omega) (by simp; omega)
        refine Ev.step (fun k => by simp only [laws_markIntS.l0]; rw [if_pos (by simp; omega), if_pos (by omega), wrap_id (n := x + 1) (by omega) (by omega), wrap_id (n := (A.length : Int) + 1) (by omega) (by omega), Int.toNat_natCast]) ?_
        have e1 : (A ++ b :: B).set A.length x = (A ++ [x]) ++ B := by simp [List.set_append]
        have e2 : ((A ++ [x]).length : Int) = (A.length : Int) + 1 := by simp
        rw [e2] at this
        simp only [e1]
        have e3 : (A ++ [x]) ++ upFrom (x + 1) d = A ++ upFrom x (d + 1) := by simp [upFrom]
        have e4 : x + 1 + (d : Int) = x + ((d + 1 : Nat) : Int) := by omega
        rw [e3, e4] at this
        exact this
  have := key l.length [] l m (by simp; omega) rfl h0 (by simp; omega)
  simpa using this

theorem held_ints (d : Nat) (hl : d ≤ 140737488351232) (m : Int) (h0 : 0 ≤ m) (h1 : m ≤ 1000000000000000000) : Ev (fun k => laws_heldIntS.f k (upFrom m d) m) (m + d) := by
  unfold laws_heldIntS.f
  have key : ∀ (d : Nat) (A : List Int) (x : Int), A.length + d ≤ 140737488351232 → 0 ≤ x → x ≤ 1000000000000000000 + A.length → Ev (fun k => laws_heldIntS.l0 k (A ++ upFrom x d) x (A.length : Int)) (x + d) := by
    intro d
    induction d with
    | zero =>
      intro A x hA hx hx2
      exact Ev.step (f := fun _ => some x) (fun k => by simp only [laws_heldIntS.l0]; rw [if_neg (by simp [upFrom])]) (by simpa using Ev.now x)
    | succ d ih =>
      intro A x hA hx hx2
      have := ih (A ++ [x]) (x + 1) (by simp; omega) (by omega) (by simp; omega)
      have e2 : ((A ++ [x]).length : Int) = (A.length : Int) + 1 := by simp
      have e3 : (A ++ [x]) ++ upFrom (x + 1) d = A ++ upFrom x (d + 1) := by simp [upFrom]
      have e4 : x + 1 + (d : Int) = x + ((d + 1 : Nat) : Int) := by omega
      rw [e2, e3, e4] at this
      have hlen : (A ++ upFrom x (d + 1)).length = A.length + (d + 1) := by rw [List.length_append, upFrom_length]
      have hr : rd (A ++ upFrom x (d + 1)) (A.length : Int) = x := by
        rw [rd_int _ _ (by omega)]
        simp [upFrom]
      refine Ev.step (fun k => by simp only [laws_heldIntS.l0]; rw [if_pos (by omega), if_pos (by omega), hr, if_pos rfl, wrap_id (n := x + 1) (by omega) (by omega), wrap_id (n := (A.length : Int) + 1) (by omega) (by omega)]) ?_
      exact this
  have := key d [] m (by simp; omega) h0 (by simp; omega)
  simpa using this

end Go.Proofs.Ytkooomnoofnfpaa.MarkIntFnExactEquipFrom
