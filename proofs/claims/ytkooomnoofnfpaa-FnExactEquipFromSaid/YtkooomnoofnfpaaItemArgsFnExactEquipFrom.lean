/-
  The laws' own walks over items: weighed, copied, compared.
  Conditions: none.
-/
import Derived.Test.YtkooomnoofnfpaaStockDFnExactEquipFrom
namespace Go.Proofs.Ytkooomnoofnfpaa.ItemArgsFnExactEquipFrom
set_option linter.unusedSimpArgs false
set_option linter.unusedVariables false
open Go.RowKit Go.Proofs.YtkooomnoofnfpaaW.PrintWords Go.Proofs.YtkooomnoofnfpaaW.PrintLast Go.Proofs.YtkooomnoofnfpaaW.PrintMore Go.Proofs.Ytkooomnoofnfpaa.EvW Go.Proofs.Ytkooomnoofnfpaa.PFnExactEquipFrom Go.Proofs.Ytkooomnoofnfpaa.StockB Go.Proofs.Ytkooomnoofnfpaa.StockDFnExactEquipFrom

abbrev La := S79
def toIt (x : La) : It := ⟨x.f0, x.f1, x.f2⟩
theorem rdl_nat (l : List La) (i : Nat) (h : i < l.length) : rd_T79 l (i : Int) = l[i] := by
  simp [rd_T79, List.getD, h]

theorem sz_item (x : La) (n : Int) : ∃ z, laws_szItem.f x.f0 x.f1 x.f2 n = some z := by
  unfold laws_szItem.f
  split <;> exact ⟨_, rfl⟩

theorem sz_items (l : List La) (hl : l.length ≤ 140737488351232) (n : Int) : ∃ z, Ev (fun k => laws_szItemS.f k l n) z := by
  unfold laws_szItemS.f
  split
  · exact ⟨_, Ev.now _⟩
  · have key : ∀ (d i : Nat), i + d = l.length → ∀ m : Int, ∃ z, Ev (fun k => laws_szItemS.l0 k l m (i : Int)) z := by
      intro d
      induction d with
      | zero =>
        intro i hi m
        exact ⟨m, Ev.step (fun k => by simp only [laws_szItemS.l0]; rw [if_neg (by omega)]) (Ev.now _)⟩
      | succ d ih =>
        intro i hi m
        have hlt : i < l.length := by omega
        obtain ⟨z, hz⟩ := sz_item l[i] m
        obtain ⟨y, hy⟩ := ih (i + 1) (by omega) z
        rw [show ((i + 1 : Nat) : Int) = (i : Int) + 1 by omega] at hy
        by_cases hz0 : z < 0
        · exact ⟨-1, Ev.step (f := fun _ => some (-1)) (fun k => by simp only [laws_szItemS.l0]; rw [if_pos (by omega), if_pos (by omega), rdl_nat l i hlt, hz]; simp only [Option.bind_some]; rw [if_pos hz0]) (Ev.now _)⟩
        · exact ⟨y, Ev.step (fun k => by simp only [laws_szItemS.l0]; rw [if_pos (by omega), if_pos (by omega), rdl_nat l i hlt, hz]; simp only [Option.bind_some]; rw [if_neg hz0, wrap_id (by omega) (by omega)]) hy⟩
    exact key l.length 0 (by omega) _

theorem to_items (l : List La) (hl : l.length * 32 ≤ 140737488351232) : Ev (fun k => laws_toItemS.f k l) (l.map toIt) := by
  unfold laws_toItemS.f
  simp only [if_pos (show (0 : Int) ≤ (l.length : Int) by omega), Int.toNat_natCast, if_pos (show l.length ≤ 8796093022208 by omega)]
  refine ev_fill (fun k x i => laws_toItemS.l0 k l x i) toIt _ l ?_ ?_
  · intro x i h r hx hr
    exact Ev.step (f := fun k => laws_toItemS.l0 k l (x.set i (toIt l[i])) ((i : Int) + 1)) (fun k => by simp only [laws_toItemS.l0]; rw [if_pos (by omega), if_pos (by omega), rdl_nat l i h]; simp only [laws_toItem.f, Option.bind_some]; rw [if_pos (by omega), wrap_id (by omega) (by omega), Int.toNat_natCast]; rfl) hr
  · intro x hx
    exact Ev.step (fun k => by simp only [laws_toItemS.l0]; rw [if_neg (by omega)]) (Ev.now _)

theorem eq_items (l : List It) (hl : l.length ≤ 140737488351232) : Ev (fun k => laws_eqItemS.f k l l) true := by
  unfold laws_eqItemS.f
  simp only [if_true]
  have key : ∀ (d i : Nat), i + d = l.length → Ev (fun k => laws_eqItemS.l0 k l l (i : Int)) true := by
    intro d
    induction d with
    | zero =>
      intro i hi
      exact Ev.step (fun k => by simp only [laws_eqItemS.l0]; rw [if_neg (by omega)]) (Ev.now _)
    | succ d ih =>
      intro i hi
      have hlt : i < l.length := by omega
      have hy := ih (i + 1) (by omega)
      rw [show ((i + 1 : Nat) : Int) = (i : Int) + 1 by omega] at hy
      exact Ev.step (fun k => by simp only [laws_eqItemS.l0, laws_eqItem.f, if_true, Option.bind_some]; rw [if_pos (by omega), if_pos (by omega), if_pos (by omega), wrap_id (by omega) (by omega)]) hy
  exact key l.length 0 (by omega)

end Go.Proofs.Ytkooomnoofnfpaa.ItemArgsFnExactEquipFrom
