/-
  The reference's StockOk tells what a stock is.
  Conditions: none.
-/
import Derived.Test.YtkooomnoofnfpaaStockDFnExactEquipFrom
import Derived.Test.YtkooomnoofnfpaaNameSFnExactEquipFrom
namespace Go.Proofs.Ytkooomnoofnfpaa.StockSFnExactEquipFrom
set_option linter.unusedSimpArgs false
set_option linter.unusedVariables false
open Go.RowKit Go.Proofs.YtkooomnoofnfpaaW.PrintWords Go.Proofs.YtkooomnoofnfpaaW.PrintLast Go.Proofs.YtkooomnoofnfpaaW.PrintMore Go.Proofs.Ytkooomnoofnfpaa.EvW Go.Proofs.Ytkooomnoofnfpaa.PFnExactEquipFrom Go.Proofs.Ytkooomnoofnfpaa.NameB Go.Proofs.Ytkooomnoofnfpaa.StockB Go.Proofs.Ytkooomnoofnfpaa.StockDFnExactEquipFrom Go.Proofs.Ytkooomnoofnfpaa.NameSFnExactEquipFrom

theorem spec_item (x : It) (hs : x.f0.size ≤ 140737488351232) : Ev (fun k => spec_ItemOk.f k x.f0 x.f1 x.f2) (itemB x) := by
  simp only [spec_ItemOk.f, bind_eq (spec_name x.f0 hs), l01In_eq, Option.bind_some, decide_eq_true_eq, ite_and, ge_iff_le, itemB]
  cases nameB x.f0 <;> simp [ev_some]

theorem spec_stock (l : List It) (hs : ∀ x ∈ l, x.f0.size ≤ 140737488351232) (hl : l.length ≤ 140737488351232) : Ev (fun k => spec_StockOk.f k l) (stockB l) := by
  unfold spec_StockOk.f stockB
  by_cases c : (l.length : Int) > 12
  · simp only [if_pos c, ev_some]
    have : ¬ l.length ≤ 12 := by omega
    simp [this]
  · simp only [if_neg c]
    have : l.length ≤ 12 := by omega
    have e : decide (l.length ≤ 12) = true := decide_eq_true this
    rw [e, Bool.true_and, show allUp (okAt l) l.length 0 = (allUp (okAt l) l.length 0 && true) by simp]
    have inner : ∀ (i : Nat) (h : i < l.length) (d j : Nat), j + d = (l.take i).length →
        (((l.take i).drop j).any (sameB l[i]) = true → Ev (fun k => spec_StockOk.l1 k l l (l.length : Int) i (l.take i) ((l.take i).length : Int) (j : Int) l[i].f0 l[i].f1 l[i].f2) false) ∧
        (((l.take i).drop j).any (sameB l[i]) = false → ∀ r, Ev (fun k => spec_StockOk.l0 k l l (l.length : Int) ((i : Int) + 1)) r → Ev (fun k => spec_StockOk.l1 k l l (l.length : Int) i (l.take i) ((l.take i).length : Int) (j : Int) l[i].f0 l[i].f1 l[i].f2) r) := by
      intro i h d
      have htl : (l.take i).length = i := by rw [List.length_take]; omega
      induction d with
      | zero =>
        intro j hj
        rw [List.drop_eq_nil_of_le (by omega)]
        refine ⟨fun h => by simp at h, fun _ r hr => ?_⟩
        refine Ev.step (fun k => by simp only [spec_StockOk.l1]; rw [if_neg (by omega), wrap_id (by omega) (by omega)]) ?_
        exact hr
      | succ d ih =>
        intro j hj
        have hlt : j < (l.take i).length := by omega
        obtain ⟨h1, h2⟩ := ih (j + 1) (by omega)
        rw [show ((j + 1 : Nat) : Int) = (j : Int) + 1 by omega] at h1 h2
        rw [drop_cons _ j hlt, List.any_cons]
        have hstep : ∀ r, Ev (fun k => if l[i].f0.toList = (l.take i)[j].f0.toList then some false else spec_StockOk.l1 k l l (l.length : Int) i (l.take i) ((l.take i).length : Int) ((j : Int) + 1) l[i].f0 l[i].f1 l[i].f2) r → Ev (fun k => spec_StockOk.l1 k l l (l.length : Int) i (l.take i) ((l.take i).length : Int) (j : Int) l[i].f0 l[i].f1 l[i].f2) r := fun r hr =>
          Ev.step (fun k => by simp only [spec_StockOk.l1]; rw [if_pos (by omega), if_pos (by omega), if_pos (by omega), rd_nat _ j hlt, wrap_id (by omega) (by omega)]) hr
        by_cases hx : l[i].f0.toList = (l.take i)[j].f0.toList
        · have : sameB l[i] (l.take i)[j] = true := by simp [sameB, hx]
          refine ⟨fun _ => hstep _ (by simp only [if_pos hx, ev_some]), fun hn => by rw [this, Bool.true_or] at hn; cases hn⟩
        · have hb : sameB l[i] (l.take i)[j] = false := by
            unfold sameB
            exact beq_eq_false_iff_ne.2 (fun e => hx e.symm)
          rw [hb, Bool.false_or]
          exact ⟨fun hn => hstep _ (by simp only [if_neg hx]; exact h1 hn), fun hn r hr => hstep _ (by simp only [if_neg hx]; exact h2 hn r hr)⟩
    refine ev_allUp (fun k i => spec_StockOk.l0 k l l (l.length : Int) i) (okAt l) l.length true ?_ ?_ ?_
    · intro i h r hp hr
      refine Ev.step (fun k => by simp only [spec_StockOk.l0]; rw [if_pos (by omega), if_pos (by omega), if_pos (by omega), rd_nat l i h]) ?_
      rw [okAt_eq l i h, Bool.and_eq_true] at hp
      rw [bind_eq (spec_item l[i] (hs _ (List.getElem_mem h))), hp.1]
      simp only [if_true, Int.toNat_natCast]
      simp only [if_pos (show (i : Int) ≤ (l.length : Int) by omega), Option.bind_some]
      have := (inner i h (l.take i).length 0 (by omega)).2
      rw [List.drop_zero] at this
      exact this (by simpa using hp.2) r hr
    · intro i h hp
      refine Ev.step (fun k => by simp only [spec_StockOk.l0]; rw [if_pos (by omega), if_pos (by omega), if_pos (by omega), rd_nat l i h]) ?_
      rw [okAt_eq l i h] at hp
      rw [bind_eq (spec_item l[i] (hs _ (List.getElem_mem h)))]
      cases hi : itemB l[i] with
      | false => simp [ev_some]
      | true =>
        rw [hi, Bool.true_and] at hp
        simp only [if_true, Int.toNat_natCast]
        simp only [if_pos (show (i : Int) ≤ (l.length : Int) by omega), Option.bind_some]
        have := (inner i h (l.take i).length 0 (by omega)).1
        rw [List.drop_zero] at this
        exact this (by simpa using hp)
    · exact Ev.step (fun k => by simp only [spec_StockOk.l0]; rw [if_neg (by omega)]) (Ev.now _)

end Go.Proofs.Ytkooomnoofnfpaa.StockSFnExactEquipFrom
