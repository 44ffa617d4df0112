/-
  Plain words on lists: the first place at which something holds; a list that is filled place by place.
  Conditions: none.
-/
import Derived.Test.YtkooomnoofnfpaaEv
namespace Go.Proofs.Ytkooomnoofnfpaa.StockB
set_option linter.unusedSimpArgs false
set_option linter.unusedVariables false
open Go.RowKit Go.Proofs.YtkooomnoofnfpaaW.PrintWords Go.Proofs.YtkooomnoofnfpaaW.PrintLast Go.Proofs.YtkooomnoofnfpaaW.PrintMore Go.Proofs.Ytkooomnoofnfpaa.EvW

theorem take_any_cons {α : Type} (p : α → Bool) (x : α) (l : List α) (i : Nat) : ((x :: l).take (i + 1)).any p = (p x || (l.take i).any p) := by simp

/-- Filling a list from the left. -/
theorem fill_step {β : Type} (A : List β) (z v : β) (m : Nat) : (A ++ List.replicate (m + 1) z).set A.length v = (A ++ [v]) ++ List.replicate m z := by
  simp [List.set_append, List.replicate_succ]

theorem getD_nat {α : Type} (l : List α) (z : α) (i : Nat) (h : i < l.length) : l.getD i z = l[i] := by
  simp [List.getD, h]

theorem drop_cons {α : Type} (l : List α) (i : Nat) (h : i < l.length) : l.drop i = l[i] :: l.drop (i + 1) := List.drop_eq_getElem_cons h

/-- A loop that fills a row of l's length. -/
theorem ev_fill {α β : Type} (g : Nat → List β → Int → Option (List β)) (conv : α → β) (z : β) (l : List α)
    (hs : ∀ (x : List β) (i : Nat) (h : i < l.length) (r : List β), x.length = l.length → Ev (fun k => g k (x.set i (conv l[i])) ((i : Int) + 1)) r → Ev (fun k => g k x (i : Int)) r)
    (he : ∀ x : List β, x.length = l.length → Ev (fun k => g k x (l.length : Int)) x) : Ev (fun k => g k (List.replicate l.length z) 0) (l.map conv) := by
  have key : ∀ (d i : Nat), i + d = l.length → Ev (fun k => g k ((l.take i).map conv ++ List.replicate d z) (i : Int)) (l.map conv) := by
    intro d
    induction d with
    | zero =>
      intro i hi
      obtain rfl : i = l.length := by omega
      have := he ((l.take l.length).map conv ++ List.replicate 0 z) (by simp)
      simpa using this
    | succ d ih =>
      intro i hi
      have hlt : i < l.length := by omega
      refine hs _ i hlt _ (by simp; omega) ?_
      have h1 := fill_step ((l.take i).map conv) z (conv l[i]) d
      rw [show ((l.take i).map conv).length = i by simp; omega] at h1
      rw [h1]
      have h2 : (l.take i).map conv ++ [conv l[i]] = (l.take (i + 1)).map conv := by
        rw [List.take_succ_eq_append_getElem hlt, List.map_append]
        rfl
      rw [h2]
      have := ih (i + 1) (by omega)
      rw [show ((i + 1 : Nat) : Int) = (i : Int) + 1 by omega] at this
      exact this
  have := key l.length 0 (by omega)
  simpa using this

/-- A loop that looks at all places and leaves where one fails. -/
def allUp (p : Nat → Bool) : Nat → Nat → Bool
  | 0, _ => true
  | d + 1, i => p i && allUp p d (i + 1)
theorem allUp_iff (p : Nat → Bool) : ∀ d i, allUp p d i = true ↔ ∀ j, i ≤ j → j < i + d → p j = true
  | 0, i => by simp [allUp]; omega
  | d + 1, i => by
    rw [allUp, Bool.and_eq_true, allUp_iff p d (i + 1)]
    constructor
    · rintro ⟨h1, h2⟩ j hj hj'
      by_cases e : j = i
      · subst e
        exact h1
      · exact h2 j (by omega) (by omega)
    · intro h
      exact ⟨h i (Nat.le_refl _) (by omega), fun j hj hj' => h j (by omega) (by omega)⟩
theorem ev_allUp (g : Nat → Int → Option Bool) (p : Nat → Bool) (n : Nat) (b : Bool)
    (hs : ∀ (i : Nat) (h : i < n) (r : Bool), p i = true → Ev (fun k => g k ((i : Int) + 1)) r → Ev (fun k => g k (i : Int)) r)
    (hf : ∀ (i : Nat) (h : i < n), p i = false → Ev (fun k => g k (i : Int)) false)
    (he : Ev (fun k => g k (n : Int)) b) : Ev (fun k => g k 0) (allUp p n 0 && b) := by
  have key : ∀ (d i : Nat), i + d = n → Ev (fun k => g k (i : Int)) (allUp p d i && b) := by
    intro d
    induction d with
    | zero =>
      intro i hi
      obtain rfl : i = n := by omega
      simpa [allUp] using he
    | succ d ih =>
      intro i hi
      cases hp : p i with
      | true =>
        refine hs i (by omega) _ hp ?_
        have := ih (i + 1) (by omega)
        rw [show ((i + 1 : Nat) : Int) = (i : Int) + 1 by omega] at this
        simpa [allUp, hp] using this
      | false =>
        have := hf i (by omega) hp
        simpa [allUp, hp] using this
  exact key n 0 (by omega)

end Go.Proofs.Ytkooomnoofnfpaa.StockB
