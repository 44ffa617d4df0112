/-
  slices.Contains at whole numbers.
  Conditions: none.
-/
import Derived.Test.YtkooomnoofnfpaaPFnEquippedx
import Derived.Test.YtkooomnoofnfpaaIntB
import Derived.Test.YtkooomnoofnfpaaStockB
namespace Go.Proofs.Ytkooomnoofnfpaa.ContainsFnEquipped
set_option linter.unusedSimpArgs false
set_option linter.unusedVariables false
open Go.RowKit Go.Proofs.YtkooomnoofnfpaaW.PrintWords Go.Proofs.YtkooomnoofnfpaaW.PrintLast Go.Proofs.YtkooomnoofnfpaaW.PrintMore Go.Proofs.Ytkooomnoofnfpaa.EvW Go.Proofs.Ytkooomnoofnfpaa.PFnEquipped Go.Proofs.Ytkooomnoofnfpaa.StockB Go.Proofs.Ytkooomnoofnfpaa.IntB

theorem contains_ev (l : List Int) (hl : l.length ≤ 140737488351232) (x : Int) : Ev (fun k => slices_Contains_int_int.f k l x) (decide (x ∈ l)) := by
  have key : ∀ (d i : Nat), i + d = l.length → ∃ r, Ev (fun k => slices_Index_int_int.l0 k l x (l.length : Int) (i : Int)) r ∧ (r ≥ 0 ↔ x ∈ l.drop i) := by
    intro d
    induction d with
    | zero =>
      intro i hi
      rw [List.drop_eq_nil_of_le (by omega)]
      exact ⟨-1, Ev.step (f := fun _ => some (-1)) (fun k => by simp only [slices_Index_int_int.l0]; rw [if_neg (by omega)]) (Ev.now _), by simp⟩
    | succ d ih =>
      intro i hi
      have hlt : i < l.length := by omega
      obtain ⟨r, hr, hm⟩ := ih (i + 1) (by omega)
      rw [show ((i + 1 : Nat) : Int) = (i : Int) + 1 by omega] at hr
      rw [drop_cons l i hlt]
      by_cases c : x = l[i]
      · refine ⟨(i : Int), Ev.step (f := fun _ => some (i : Int)) (fun k => by simp only [slices_Index_int_int.l0]; rw [if_pos (by omega), if_pos (by omega), if_pos (by omega), rd_int l i hlt, if_pos c]) (Ev.now _), ?_⟩
        rw [← c]
        exact ⟨fun _ => List.mem_cons_self, fun _ => by omega⟩
      · refine ⟨r, Ev.step (fun k => by simp only [slices_Index_int_int.l0]; rw [if_pos (by omega), if_pos (by omega), if_pos (by omega), rd_int l i hlt, if_neg c, wrap_id (by omega) (by omega)]) hr, ?_⟩
        rw [hm, List.mem_cons]
        exact ⟨.inr, fun h => h.resolve_left c⟩
  obtain ⟨r, hr, hm⟩ := key l.length 0 (by omega)
  rw [List.drop_zero] at hm
  have hr' : Ev (fun k => slices_Index_int_int.f k l x) r := hr
  simp only [slices_Contains_int_int.f, bind_eq hr', ev_some]
  exact decide_eq_decide.2 hm

end Go.Proofs.Ytkooomnoofnfpaa.ContainsFnEquipped
