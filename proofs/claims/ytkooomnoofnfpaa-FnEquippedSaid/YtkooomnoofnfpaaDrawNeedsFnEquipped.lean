/-
  The needs and the numbers that are drawn.
  Conditions: none.
-/
import Derived.Test.YtkooomnoofnfpaaDraw32FnEquipped
namespace Go.Proofs.Ytkooomnoofnfpaa.DrawNeedsFnEquipped
set_option linter.unusedSimpArgs false
set_option linter.unusedVariables false
open Go.RowKit Go.Proofs.YtkooomnoofnfpaaW.PrintWords Go.Proofs.YtkooomnoofnfpaaW.PrintLast Go.Proofs.YtkooomnoofnfpaaW.PrintMore Go.Proofs.Ytkooomnoofnfpaa.EvW Go.Proofs.Ytkooomnoofnfpaa.PFnEquipped Go.Proofs.Ytkooomnoofnfpaa.StockB Go.Proofs.Ytkooomnoofnfpaa.DrawFnEquipped

theorem make_num (l : List Int) (hl : l.length ≤ 140737488351232) (n : Nat) (hn : n ≤ 1000000) : ∃ r, Ev (fun k => spec_MakeNum.f k l (n : Int)) r ∧ 0 ≤ r ∧ r ≤ 65535 := by
  obtain ⟨a, b, h, ha⟩ := new32_ev l hl n hn
  obtain ⟨r1, a1, b1, e1, h11, h12, h13⟩ := byte_some l a b hl ha
  obtain ⟨r2, a2, b2, e2, h21, h22, h23⟩ := byte_some l a1 b1 hl h13
  refine ⟨r1 * 256 + r2, ?_, by omega, by omega⟩
  simp only [spec_MakeNum.f, bind_eq h, e1, e2, Option.bind_some, ev_some]
  rw [wrap_id (n := r1 * 256) (by omega) (by omega), wrap_id (by omega) (by omega)]

theorem make_needs (l : List Int) (hl : l.length ≤ 140737488351232) (n : Nat) (hn : n ≤ 1000000) : ∃ L, Ev (fun k => spec_MakeNeeds.f k l (n : Int)) L ∧ L.length ≤ 3 ∧ ∀ x ∈ L, 0 ≤ x ∧ x < 16 := by
  obtain ⟨a, b, h, ha⟩ := new32_ev l hl n hn
  obtain ⟨r, a1, b1, e, h0, h1, h2⟩ := below_some l a b 4 hl ha (by omega) (by omega)
  obtain ⟨m, rfl⟩ := Int.eq_ofNat_of_zero_le h0
  have key : ∀ (m : Nat), m ≤ 3 → ∀ (x : List Int) (s1 s2 : Int), x.length + m ≤ 3 → 0 ≤ s1 → ∃ L, Ev (fun k => spec_MakeNeeds.l0 k x (m : Int) l s1 s2) (x ++ L) ∧ L.length = m ∧ ∀ y ∈ L, 0 ≤ y ∧ y < 16 := by
    intro m
    induction m with
    | zero =>
      intro _ x s1 s2 _ _
      exact ⟨[], Ev.step (fun k => by simp only [spec_MakeNeeds.l0]; rw [if_neg (by omega)]) (by simpa using Ev.now x), rfl, fun y hy => by simp at hy⟩
    | succ m ih =>
      intro hm x s1 s2 hx hs
      obtain ⟨r, a1, b1, e, h0, h1, h2⟩ := below_some l s1 s2 16 hl hs (by omega) (by omega)
      obtain ⟨L, h3, h4, h5⟩ := ih (by omega) (x ++ [r]) a1 b1 (by simp; omega) h2
      refine ⟨r :: L, ?_, by simp [h4], ?_⟩
      · refine Ev.step (fun k => by simp only [spec_MakeNeeds.l0]; rw [if_pos (by omega), e]) ?_
        have hw : wrap64 (((m + 1 : Nat) : Int) - 1) = (m : Int) := by rw [wrap_id (by omega) (by omega)]; omega
        simp only [Option.bind_some, if_pos (show x.length < 17592186044416 by omega), hw]
        simpa using h3
      · intro y hy
        rcases List.mem_cons.1 hy with rfl | hy
        · exact ⟨h0, h1⟩
        · exact h5 y hy
  obtain ⟨L, h3, h4, h5⟩ := key m (by omega) [] a1 b1 (by simp; omega) h2
  refine ⟨L, ?_, by omega, h5⟩
  simp only [spec_MakeNeeds.f, bind_eq h, e, Option.bind_some]
  simpa using h3

end Go.Proofs.Ytkooomnoofnfpaa.DrawNeedsFnEquipped
