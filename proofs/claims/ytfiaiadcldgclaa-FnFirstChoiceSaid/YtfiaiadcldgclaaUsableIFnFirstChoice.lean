/-
  What the program's Usable tells: the places of the items that serve.
  Conditions: none.
-/
import Derived.Test.YtfiaiadcldgclaaEquipIFnFirstChoice
namespace Go.Proofs.Ytfiaiadcldgclaa.UsableIFnFirstChoice
set_option linter.unusedSimpArgs false
set_option linter.unusedVariables false
open Go.RowKit Go.Proofs.YtfiaiadcldgclaaW.PrintWords Go.Proofs.YtfiaiadcldgclaaW.PrintLast Go.Proofs.YtfiaiadcldgclaaW.PrintMore Go.Proofs.Ytfiaiadcldgclaa.EvW Go.Proofs.Ytfiaiadcldgclaa.PFnFirstChoice Go.Proofs.Ytfiaiadcldgclaa.StockB Go.Proofs.Ytfiaiadcldgclaa.StockDFnFirstChoice Go.Proofs.Ytfiaiadcldgclaa.Equip Go.Proofs.Ytfiaiadcldgclaa.StockIFnFirstChoice Go.Proofs.Ytfiaiadcldgclaa.IntB Go.Proofs.Ytfiaiadcldgclaa.EquipIFnFirstChoice

/-- The places from i on at which p holds. -/
def placesB (p : Nat → Bool) : Nat → Nat → List Int
  | 0, _ => []
  | d + 1, i => if p i then (i : Int) :: placesB p d (i + 1) else placesB p d (i + 1)

theorem mem_places {p : Nat → Bool} {x : Int} : ∀ {d i : Nat}, x ∈ placesB p d i ↔ ∃ j, i ≤ j ∧ j < i + d ∧ p j = true ∧ x = (j : Int)
  | 0, i => by
    constructor
    · intro h; simp [placesB] at h
    · rintro ⟨j, h1, h2, _⟩; omega
  | d + 1, i => by
    have ih := mem_places (p := p) (x := x) (d := d) (i := i + 1)
    unfold placesB
    cases hp : p i with
    | true =>
      simp only [if_true, List.mem_cons, ih]
      constructor
      · rintro (rfl | ⟨j, h1, h2, h3, h4⟩)
        · exact ⟨i, Nat.le_refl _, by omega, hp, rfl⟩
        · exact ⟨j, by omega, by omega, h3, h4⟩
      · rintro ⟨j, h1, h2, h3, h4⟩
        by_cases e : j = i
        · subst e
          exact .inl h4
        · exact .inr ⟨j, by omega, by omega, h3, h4⟩
    | false =>
      simp only [Bool.false_eq_true, if_false, ih]
      constructor
      · rintro ⟨j, h1, h2, h3, h4⟩
        exact ⟨j, by omega, by omega, h3, h4⟩
      · rintro ⟨j, h1, h2, h3, h4⟩
        by_cases e : j = i
        · subst e
          rw [hp] at h3
          cases h3
        · exact ⟨j, by omega, by omega, h3, h4⟩

theorem places_length (p : Nat → Bool) : ∀ d i, (placesB p d i).length ≤ d
  | 0, _ => Nat.le_refl _
  | d + 1, i => by
    have := places_length p d (i + 1)
    unfold placesB
    split
    · simp; omega
    · omega

theorem usable_ev (l : List It) (hs : ∀ x ∈ l, x.f0.size ≤ 140737488351232) (hl : l.length ≤ 140737488351232) (n day : Int) :
    Ev (fun k => impl_Usable.f k l n day) (if stockB l then placesB (us l day n) l.length 0 else []) := by
  unfold impl_Usable.f
  rw [bind_eq (impl_stock l hs hl)]
  cases hst : stockB l with
  | false => simp [ev_some]
  | true =>
    have h12 : l.length ≤ 12 := by
      simp only [stockB, Bool.and_eq_true, decide_eq_true_eq] at hst
      exact hst.1
    simp only [if_true]
    have key : ∀ (d i : Nat), i + d = l.length → ∀ o : List Int, o.length ≤ i → Ev (fun k => impl_Usable.l0 k n day o l (l.length : Int) (i : Int)) (o ++ placesB (us l day n) d i) := by
      intro d
      induction d with
      | zero =>
        intro i hi o ho
        exact Ev.step (f := fun _ => some o) (fun k => by simp only [impl_Usable.l0]; rw [if_neg (by omega)]) (by simpa [placesB] using Ev.now o)
      | succ d ih =>
        intro i hi o ho
        have hlt : i < l.length := by omega
        have hwi : wrap64 ((i : Int) + 1) = ((i + 1 : Nat) : Int) := by rw [wrap_id (by omega) (by omega)]; omega
        refine Ev.step (fun k => by simp only [impl_Usable.l0]; rw [if_pos (by omega), if_pos (by omega), if_pos (by omega), rd_nat l i hlt, usable_eq]) ?_
        have hus := us_eq l day n i hlt
        simp only [Option.bind_some, decide_eq_true_eq, hwi, if_pos (show o.length < 17592186044416 by omega)]
        unfold placesB
        by_cases c : n ≤ l[i].f1 ∧ day ≤ l[i].f2
        · rw [decide_eq_true c] at hus
          simp only [if_pos c, hus, if_true]
          have := ih (i + 1) (by omega) (o ++ [(i : Int)]) (by simp; omega)
          simpa using this
        · rw [decide_eq_false c] at hus
          simp only [if_neg c, hus, Bool.false_eq_true, if_false]
          exact ih (i + 1) (by omega) o (by omega)
    have := key l.length 0 (by omega) [] (by simp)
    simpa using this

end Go.Proofs.Ytfiaiadcldgclaa.UsableIFnFirstChoice
