/-
  Draws behind some bytes.
  Conditions: none.
-/
import Derived.Test.YtkooomnoofnfpaaDrawFnEquipped
namespace Go.Proofs.Ytkooomnoofnfpaa.DrawFnEquipped
set_option linter.unusedSimpArgs false
set_option linter.unusedVariables false
open Go.RowKit Go.Proofs.YtkooomnoofnfpaaW.PrintWords Go.Proofs.YtkooomnoofnfpaaW.PrintLast Go.Proofs.YtkooomnoofnfpaaW.PrintMore Go.Proofs.Ytkooomnoofnfpaa.EvW Go.Proofs.Ytkooomnoofnfpaa.PFnEquipped Go.Proofs.Ytkooomnoofnfpaa.StockB Go.Proofs.Ytkooomnoofnfpaa.BitsW

theorem new32_ev (l : List Int) (hl : l.length ≤ 140737488351232) (n : Nat) (hn : n ≤ 1000000) : ∃ a b, Ev (fun k => spec_l32New.f k l (n : Int)) (l, a, b) ∧ 0 ≤ a := by
  obtain ⟨b, hb⟩ := new_ev l hl
  have key : ∀ (d i : Nat), i + d = n → ∀ a b : Int, 0 ≤ a → ∃ a' b', Ev (fun k => spec_l32New.l0 k l a b (n : Int) (i : Int)) (l, a', b') ∧ 0 ≤ a' := by
    intro d
    induction d with
    | zero =>
      intro i hi a b ha
      exact ⟨a, b, Ev.step (fun k => by simp only [spec_l32New.l0]; rw [if_neg (by omega)]) (Ev.now _), ha⟩
    | succ d ih =>
      intro i hi a b ha
      obtain ⟨r, a1, b1, h, _, _, h1⟩ := byte_some l a b hl ha
      obtain ⟨a2, b2, h2, h3⟩ := ih (i + 1) (by omega) a1 b1 h1
      rw [show ((i + 1 : Nat) : Int) = (i : Int) + 1 by omega] at h2
      exact ⟨a2, b2, Ev.step (fun k => by simp only [spec_l32New.l0]; rw [if_pos (by omega), h]; simp only [Option.bind_some]; rw [wrap_id (by omega) (by omega)]) h2, h3⟩
  obtain ⟨a', b', h, ha⟩ := key n 0 (by omega) 0 b (Int.le_refl _)
  refine ⟨a', b', ?_, ha⟩
  simp only [spec_l32New.f, bind_eq hb]
  exact h

end Go.Proofs.Ytkooomnoofnfpaa.DrawFnEquipped
