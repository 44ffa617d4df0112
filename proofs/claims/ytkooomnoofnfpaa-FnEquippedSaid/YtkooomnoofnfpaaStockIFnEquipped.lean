/-
  The program's StockOk tells what a stock is.
  Conditions: none.
-/
import Derived.Test.YtkooomnoofnfpaaStockDFnEquipped
import Derived.Test.YtkooomnoofnfpaaNameIFnEquipped
namespace Go.Proofs.Ytkooomnoofnfpaa.StockIFnEquipped
set_option linter.unusedSimpArgs false
set_option linter.unusedVariables false
open Go.RowKit Go.Proofs.YtkooomnoofnfpaaW.PrintWords Go.Proofs.YtkooomnoofnfpaaW.PrintLast Go.Proofs.YtkooomnoofnfpaaW.PrintMore Go.Proofs.Ytkooomnoofnfpaa.EvW Go.Proofs.Ytkooomnoofnfpaa.PFnEquipped Go.Proofs.Ytkooomnoofnfpaa.NameB Go.Proofs.Ytkooomnoofnfpaa.StockB Go.Proofs.Ytkooomnoofnfpaa.StockDFnEquipped Go.Proofs.Ytkooomnoofnfpaa.NameIFnEquipped

theorem isLimit_eq (a : Int) : impl_isLimit.f a = some (decide (0 ≤ a ∧ a ≤ 1000)) := by
  simp only [impl_isLimit.f, ite_and, ge_iff_le]

theorem impl_item (x : It) (hs : x.f0.size ≤ 140737488351232) : Ev (fun k => impl_ItemOk.f k x.f0 x.f1 x.f2) (itemB x) := by
  simp only [impl_ItemOk.f, bind_eq (impl_name x.f0 hs), isLimit_eq, Option.bind_some, decide_eq_true_eq, ite_and, ge_iff_le, itemB]
  cases nameB x.f0 <;> simp [ev_some]

theorem idx_iff {α : Type} (p : α → Bool) : ∀ (l : List α) (s : Int) (i : Nat) (h : i < l.length), p l[i] = true → (idxFrom p l s = s + i ↔ (l.take i).any p = false)
  | [], _, i, h, _ => by simp at h
  | x :: l, s, 0, h, hp => by
    simp only [List.getElem_cons_zero] at hp
    simp [idxFrom, hp]
  | x :: l, s, i + 1, h, hp => by
    simp only [List.getElem_cons_succ] at hp
    have ih := idx_iff p l (s + 1) i (by simpa using h) hp
    rw [take_any_cons, idxFrom]
    cases hx : p x with
    | true => simp; omega
    | false =>
      simp only [Bool.false_or]
      rw [← ih]
      simp only [Bool.false_eq_true, if_false]
      omega

theorem impl_stock (l : List It) (hs : ∀ x ∈ l, x.f0.size ≤ 140737488351232) (hl : l.length ≤ 140737488351232) : Ev (fun k => impl_StockOk.f k l) (stockB l) := by
  unfold impl_StockOk.f stockB
  by_cases c : (l.length : Int) > 12
  · simp only [if_pos c, ev_some]
    have : ¬ l.length ≤ 12 := by omega
    simp [this]
  · simp only [if_neg c]
    have : l.length ≤ 12 := by omega
    have e : decide (l.length ≤ 12) = true := decide_eq_true this
    rw [e, Bool.true_and, show allUp (okAt l) l.length 0 = (allUp (okAt l) l.length 0 && true) by simp]
    have hidx : ∀ i (h : i < l.length), (idxFrom (fun y => y.f0.toList == l[i].f0.toList) l 0 = (i : Int)) ↔ (l.take i).any (sameB l[i]) = false := by
      intro i h
      have := idx_iff (sameB l[i]) l 0 i h (by simp [sameB])
      rw [Int.zero_add] at this
      exact this
    refine ev_allUp (fun k i => impl_StockOk.l0 k l i) (okAt l) l.length true ?_ ?_ ?_
    · intro i h r hp hr
      refine Ev.step (fun k => by simp only [impl_StockOk.l0]; rw [if_pos (by omega), rd_nat l i h]) ?_
      rw [okAt_eq l i h, Bool.and_eq_true] at hp
      rw [bind_eq (impl_item l[i] (hs _ (List.getElem_mem h))), hp.1]
      simp only [if_true]
      simp only [if_pos ((hidx i h).2 (by simpa using hp.2)), wrap_id (show -9223372036854775808 ≤ (i : Int) + 1 by omega) (by omega)]
      exact hr
    · intro i h hp
      refine Ev.step (fun k => by simp only [impl_StockOk.l0]; rw [if_pos (by omega), rd_nat l i h]) ?_
      rw [okAt_eq l i h] at hp
      rw [bind_eq (impl_item l[i] (hs _ (List.getElem_mem h)))]
      cases hi : itemB l[i] with
      | false => simp [ev_some]
      | true =>
        rw [hi, Bool.true_and] at hp
        simp only [if_true]
        simp only [if_neg (fun e => by rw [(hidx i h).1 e] at hp; simp at hp : ¬ _)]
        exact Ev.now _
    · exact Ev.step (fun k => by simp only [impl_StockOk.l0]; rw [if_neg (by omega)]) (Ev.now _)

end Go.Proofs.Ytkooomnoofnfpaa.StockIFnEquipped
