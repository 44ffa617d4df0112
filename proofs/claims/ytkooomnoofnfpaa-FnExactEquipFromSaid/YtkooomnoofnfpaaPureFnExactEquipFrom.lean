/-
  EquipFrom answers as the reference's, for every list of items, all needs and every day; it leaves its arguments as they were and hands back memory of its own.
  Conditions: none.
-/
import Derived.Test.YtkooomnoofnfpaaChoiceSFnExactEquipFrom
import Derived.Test.YtkooomnoofnfpaaChoiceIFnExactEquipFrom
import Derived.Test.YtkooomnoofnfpaaItemArgsFnExactEquipFrom
import Derived.Test.YtkooomnoofnfpaaIntArgsFnExactEquipFrom
import Derived.Test.YtkooomnoofnfpaaMarkIntFnExactEquipFrom
import Derived.Test.YtkooomnoofnfpaaMarkItemFnExactEquipFrom
namespace Go.Proofs.Ytkooomnoofnfpaa.Pure
set_option linter.unusedSimpArgs false
set_option linter.unusedVariables false
open Go.RowKit Go.Proofs.YtkooomnoofnfpaaW.PrintWords Go.Proofs.YtkooomnoofnfpaaW.PrintLast Go.Proofs.YtkooomnoofnfpaaW.PrintMore Go.Proofs.Ytkooomnoofnfpaa.EvW Go.Proofs.Ytkooomnoofnfpaa.PFnExactEquipFrom Go.Proofs.Ytkooomnoofnfpaa.StockB Go.Proofs.Ytkooomnoofnfpaa.Equip Go.Proofs.Ytkooomnoofnfpaa.StockDFnExactEquipFrom Go.Proofs.Ytkooomnoofnfpaa.ItemArgsFnExactEquipFrom Go.Proofs.Ytkooomnoofnfpaa.IntArgsFnExactEquipFrom Go.Proofs.Ytkooomnoofnfpaa.MarkIntFnExactEquipFrom Go.Proofs.Ytkooomnoofnfpaa.MarkItemFnExactEquipFrom Go.Proofs.Ytkooomnoofnfpaa.EquipDFnExactEquipFrom Go.Proofs.Ytkooomnoofnfpaa.ChoiceSFnExactEquipFrom Go.Proofs.Ytkooomnoofnfpaa.ChoiceIFnExactEquipFrom

theorem choice_le (N : Nat) (u : Int → Nat → Bool) : ∀ (needs : List Int) (tk : Nat → Bool), (choice N u tk needs).length ≤ needs.length
  | [], _ => Nat.le_refl _
  | n :: rest, tk => by
    unfold choice
    split
    · have := choice_le N u rest (put tk ‹_›)
      simp; omega
    · have := choice_le N u rest tk
      simp; omega

theorem FnExactEquipFrom (l : List La) (ok : (∀ x ∈ l, x.f0.size ≤ 140737488351232 ∧ (Lit.int .i64 x.f1).wf = true ∧ (Lit.int .i64 x.f2).wf = true) ∧ l.length * 32 ≤ 140737488351232 ∧ l.length ≤ maxLen)
    (c : List Int) (okc : (∀ x ∈ c, (Lit.int .i64 x).wf = true) ∧ c.length * 8 ≤ 140737488351232 ∧ c.length ≤ maxLen) (day : Int) (okd : (Lit.int .i64 day).wf = true) : ∃ k, laws_FnExactEquipFrom.f k l c day = some true := by
  obtain ⟨ok, hl, _⟩ := ok
  obtain ⟨_, hc, _⟩ := okc
  have hc' : c.length ≤ 140737488351232 := by omega
  refine Ev.rounds (g := fun k => laws_FnExactEquipFrom.f k l c day) ?_
  obtain ⟨z, hz⟩ := sz_items l (by omega) 1048576
  have hn : ∀ x ∈ l.map toIt, x.f0.size ≤ 140737488351232 := by
    intro x hx
    obtain ⟨y, hy, rfl⟩ := List.mem_map.1 hx
    exact (ok y hy).1
  have hm : (l.map toIt).length ≤ 140737488351232 := by rw [List.length_map]; omega
  have hml : (l.map toIt).length * 32 ≤ 140737488351232 := by rw [List.length_map]; exact hl
  have hi := equip_ev _ hn hm c day
  have hs := equipS_ev _ hn hm c day
  have hu : (if canB (l.map toIt) c day then ((choice (l.map toIt).length (us (l.map toIt) day) (fun _ => false) c).map (fun n : Nat => (n : Int)), true) else ([], false)).1.length ≤ 140737488351232 := by
    split
    · have := choice_le (l.map toIt).length (us (l.map toIt) day) c (fun _ => false)
      rw [List.length_map]
      omega
    · simp
  generalize (if canB (l.map toIt) c day then ((choice (l.map toIt).length (us (l.map toIt) day) (fun _ => false) c).map (fun n : Nat => (n : Int)), true) else ([], false)) = ub at hi hs hu
  obtain ⟨u, b⟩ := ub
  have hu : u.length ≤ 140737488351232 := hu
  obtain ⟨l', hl'⟩ := mark_items (l.map toIt) hm 1 (by omega) (by omega)
  have hmc := mark_ints c hc' (1 + 3 * ((l.map toIt).length : Int)) (by omega) (by omega)
  have hmk := mark_ints u hu 1 (by omega) (by omega)
  have hhd := held_ints u.length hu 1 (by omega) (by omega)
  have hq : ¬ (1 : Int) + (u.length : Int) < 0 := by omega
  have hq2 : ¬ (1 : Int) + 3 * ((l.map toIt).length : Int) + (c.length : Int) < 0 := by omega
  simp only [laws_FnExactEquipFrom.f]
  split
  · exact Ev.now _
  · simp only [bind_eq hz]
    split
    · exact Ev.now _
    · simp only [bind_eq (to_items l hl), bind_eq (to_ints c hc), bind_eq hs, bind_eq hi, bind_eq (eq_ints u hu), if_true, bne_self_eq_false]
      refine Ev.step (fun k => by simp only [laws_FnExactEquipFrom.j0, Bool.false_eq_true, if_false] <;> rfl) ?_
      simp only [bind_eq (to_items l hl), bind_eq (to_ints c hc), bind_eq (eq_items _ hm), bind_eq (eq_ints c hc'), bind_eq hl', bind_eq hmc, if_true, if_neg hq2, bind_eq (eq_ints u hu), bne_self_eq_false]
      refine Ev.step (fun k => by simp only [laws_FnExactEquipFrom.j1, Bool.false_eq_true, if_false] <;> rfl) ?_
      simp only [bind_eq hmk, bind_eq hhd, if_neg hq, if_true, bind_eq (to_items l hl), bind_eq (to_ints c hc), bind_eq hi, bind_eq (eq_ints u hu), bne_self_eq_false]
      refine Ev.step (fun k => by simp only [laws_FnExactEquipFrom.j2, Bool.false_eq_true, if_false] <;> rfl) ?_
      simp only [bind_eq hhd, if_neg hq, if_true, ev_some]

end Go.Proofs.Ytkooomnoofnfpaa.Pure
