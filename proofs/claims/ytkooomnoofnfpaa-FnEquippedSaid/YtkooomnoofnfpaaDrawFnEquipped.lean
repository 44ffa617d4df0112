/-
  Draws: what a cursor over a code hands out.
  Conditions: none.
-/
import Derived.Test.YtkooomnoofnfpaaPFnEquippedx
import Derived.Test.YtkooomnoofnfpaaStockB
import Derived.Test.YtkooomnoofnfpaaBitsW
namespace Go.Proofs.Ytkooomnoofnfpaa.DrawFnEquipped
set_option linter.unusedSimpArgs false
set_option linter.unusedVariables false
open Go.RowKit Go.Proofs.YtkooomnoofnfpaaW.PrintWords Go.Proofs.YtkooomnoofnfpaaW.PrintLast Go.Proofs.YtkooomnoofnfpaaW.PrintMore Go.Proofs.Ytkooomnoofnfpaa.EvW Go.Proofs.Ytkooomnoofnfpaa.PFnEquipped Go.Proofs.Ytkooomnoofnfpaa.StockB Go.Proofs.Ytkooomnoofnfpaa.BitsW

theorem byte_some (s0 : List Int) (s1 s2 : Int) (hl : s0.length ≤ 140737488351232) (h1 : 0 ≤ s1) : ∃ r a b, spec_l01Byte.f s0 s1 s2 = some (r, a, b) ∧ 0 ≤ r ∧ r ≤ 255 ∧ 0 ≤ a := by
  unfold spec_l01Byte.f
  by_cases c : s1 < (s0.length : Int)
  · rw [if_pos c, if_pos h1]
    refine ⟨_, _, _, rfl, ?_, ?_, ?_⟩
    · rw [i64_and255 (wrap64 _)]
      omega
    · rw [i64_and255 (wrap64 _)]
      omega
    · rw [wrap_id (by omega) (by omega)]
      omega
  · rw [if_neg c]
    refine ⟨_, _, _, rfl, ?_, ?_, h1⟩
    · rw [i64_and255]
      omega
    · rw [i64_and255]
      omega

theorem below_some (s0 : List Int) (s1 s2 n : Int) (hl : s0.length ≤ 140737488351232) (h1 : 0 ≤ s1) (hn : 0 < n) (hn2 : n ≤ 256) : ∃ r a b, spec_l01Below.f s0 s1 s2 n = some (r, a, b) ∧ 0 ≤ r ∧ r < n ∧ 0 ≤ a := by
  obtain ⟨r, a, b, h, hr, _, ha⟩ := byte_some s0 s1 s2 hl h1
  unfold spec_l01Below.f
  rw [if_neg (by omega), if_pos hn2, h]
  simp only [Option.bind_some]
  rw [if_neg (by omega)]
  refine ⟨_, _, _, rfl, Int.tmod_nonneg _ hr, Int.tmod_lt_of_pos _ hn, ha⟩

theorem new_ev (l : List Int) (hl : l.length ≤ 140737488351232) : ∃ b, Ev (fun k => spec_l01New.f k l) (l, 0, b) := by
  unfold spec_l01New.f
  have key : ∀ (d i : Nat), i + d = l.length → ∀ m : Int, ∃ b, Ev (fun k => spec_l01New.l0 k l m (i : Int)) (l, 0, b) := by
    intro d
    induction d with
    | zero =>
      intro i hi m
      exact ⟨m, Ev.step (fun k => by simp only [spec_l01New.l0]; rw [if_neg (by omega)]) (Ev.now _)⟩
    | succ d ih =>
      intro i hi m
      by_cases c : (i : Int) < 4000
      · obtain ⟨b, hb⟩ := ih (i + 1) (by omega) (Go.bits .and .i64 (wrap64 ((wrap64 ((wrap64 (m * 73)) + (wrap64 (rd l i)))) + 7)) 1073741823)
        rw [show ((i + 1 : Nat) : Int) = (i : Int) + 1 by omega] at hb
        exact ⟨b, Ev.step (fun k => by simp only [spec_l01New.l0]; rw [if_pos (by omega), if_pos c, if_pos (by omega), wrap_id (n := (i : Int) + 1) (by omega) (by omega)]) hb⟩
      · exact ⟨m, Ev.step (f := fun _ => some (l, 0, m)) (fun k => by simp only [spec_l01New.l0]; rw [if_pos (by omega), if_neg c]) (Ev.now _)⟩
  exact key l.length 0 (by omega) _

end Go.Proofs.Ytkooomnoofnfpaa.DrawFnEquipped
