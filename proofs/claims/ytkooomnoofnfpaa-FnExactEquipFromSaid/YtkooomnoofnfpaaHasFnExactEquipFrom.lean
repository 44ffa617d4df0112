/-
  The reference's l12Has: is a number in a list?
  Conditions: none.
-/
import Derived.Test.YtkooomnoofnfpaaPFnExactEquipFromx
import Derived.Test.YtkooomnoofnfpaaIntB
import Derived.Test.YtkooomnoofnfpaaStockB
namespace Go.Proofs.Ytkooomnoofnfpaa.HasFnExactEquipFrom
set_option linter.unusedSimpArgs false
set_option linter.unusedVariables false
open Go.RowKit Go.Proofs.YtkooomnoofnfpaaW.PrintWords Go.Proofs.YtkooomnoofnfpaaW.PrintLast Go.Proofs.YtkooomnoofnfpaaW.PrintMore Go.Proofs.Ytkooomnoofnfpaa.EvW Go.Proofs.Ytkooomnoofnfpaa.PFnExactEquipFrom Go.Proofs.Ytkooomnoofnfpaa.StockB Go.Proofs.Ytkooomnoofnfpaa.IntB

theorem has_ev (l : List Int) (hl : l.length ≤ 140737488351232) (x : Int) : Ev (fun k => spec_l12Has.f k l x) (decide (x ∈ l)) := by
  unfold spec_l12Has.f
  have key : ∀ (d i : Nat), i + d = l.length → Ev (fun k => spec_l12Has.l0 k x l (l.length : Int) (i : Int)) (decide (x ∈ l.drop i)) := by
    intro d
    induction d with
    | zero =>
      intro i hi
      rw [List.drop_eq_nil_of_le (by omega)]
      exact Ev.step (f := fun _ => some false) (fun k => by simp only [spec_l12Has.l0]; rw [if_neg (by omega)]) (by simpa using Ev.now false)
    | succ d ih =>
      intro i hi
      have hlt : i < l.length := by omega
      have ih' := ih (i + 1) (by omega)
      rw [show ((i + 1 : Nat) : Int) = (i : Int) + 1 by omega] at ih'
      rw [drop_cons l i hlt]
      refine Ev.step (fun k => by simp only [spec_l12Has.l0]; rw [if_pos (by omega), if_pos (by omega), if_pos (by omega), rd_int l i hlt, wrap_id (by omega) (by omega)]) ?_
      by_cases c : l[i] = x
      · simp only [if_pos c, ev_some]
        simp [c]
      · simp only [if_neg c]
        have e : decide (x ∈ l[i] :: l.drop (i + 1)) = decide (x ∈ l.drop (i + 1)) := decide_eq_decide.2 (by simp only [List.mem_cons]; exact ⟨fun h => h.resolve_left (fun h => c h.symm), .inr⟩)
        rw [e]
        exact ih'
  have := key l.length 0 (by omega)
  simpa using this

end Go.Proofs.Ytkooomnoofnfpaa.HasFnExactEquipFrom
