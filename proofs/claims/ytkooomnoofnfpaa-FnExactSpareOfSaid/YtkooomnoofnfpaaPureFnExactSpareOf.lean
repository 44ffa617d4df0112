/-
  SpareOf answers as the reference's, for every list of items and every choice; it leaves its arguments as they were and hands back memory of its own.
  Conditions: none.
-/
import Derived.Test.YtkooomnoofnfpaaSpareSFnExactSpareOf
import Derived.Test.YtkooomnoofnfpaaSpareIFnExactSpareOf
import Derived.Test.YtkooomnoofnfpaaItemArgsFnExactSpareOf
import Derived.Test.YtkooomnoofnfpaaIntArgsFnExactSpareOf
import Derived.Test.YtkooomnoofnfpaaMarkIntFnExactSpareOf
import Derived.Test.YtkooomnoofnfpaaMarkItemFnExactSpareOf
namespace Go.Proofs.Ytkooomnoofnfpaa.Pure
set_option linter.unusedSimpArgs false
set_option linter.unusedVariables false
open Go.RowKit Go.Proofs.YtkooomnoofnfpaaW.PrintWords Go.Proofs.YtkooomnoofnfpaaW.PrintLast Go.Proofs.YtkooomnoofnfpaaW.PrintMore Go.Proofs.Ytkooomnoofnfpaa.EvW Go.Proofs.Ytkooomnoofnfpaa.PFnExactSpareOf Go.Proofs.Ytkooomnoofnfpaa.StockB Go.Proofs.Ytkooomnoofnfpaa.Equip Go.Proofs.Ytkooomnoofnfpaa.StockDFnExactSpareOf Go.Proofs.Ytkooomnoofnfpaa.ItemArgsFnExactSpareOf Go.Proofs.Ytkooomnoofnfpaa.IntArgsFnExactSpareOf Go.Proofs.Ytkooomnoofnfpaa.MarkIntFnExactSpareOf Go.Proofs.Ytkooomnoofnfpaa.MarkItemFnExactSpareOf Go.Proofs.Ytkooomnoofnfpaa.SpareSFnExactSpareOf Go.Proofs.Ytkooomnoofnfpaa.SpareIFnExactSpareOf

theorem FnExactSpareOf (l : List La) (ok : (∀ x ∈ l, x.f0.size ≤ 140737488351232 ∧ (Lit.int .i64 x.f1).wf = true ∧ (Lit.int .i64 x.f2).wf = true) ∧ l.length * 32 ≤ 140737488351232 ∧ l.length ≤ maxLen)
    (c : List Int) (okc : (∀ x ∈ c, (Lit.int .i64 x).wf = true) ∧ c.length * 8 ≤ 140737488351232 ∧ c.length ≤ maxLen) : ∃ k, laws_FnExactSpareOf.f k l c = some true := by
  obtain ⟨ok, hl, _⟩ := ok
  obtain ⟨_, hc, _⟩ := okc
  have hc' : c.length ≤ 140737488351232 := by omega
  refine Ev.rounds (g := fun k => laws_FnExactSpareOf.f k l c) ?_
  obtain ⟨z, hz⟩ := sz_items l (by omega) 1048576
  have hn : ∀ x ∈ l.map toIt, x.f0.size ≤ 140737488351232 := by
    intro x hx
    obtain ⟨y, hy, rfl⟩ := List.mem_map.1 hx
    exact (ok y hy).1
  have hm : (l.map toIt).length ≤ 140737488351232 := by rw [List.length_map]; omega
  have hml : (l.map toIt).length * 32 ≤ 140737488351232 := by rw [List.length_map]; exact hl
  have hi := spareI_ev _ hn hm c hc'
  have hs := spareS_ev _ hn hm c hc'
  have hu : (if stockB (l.map toIt) then placesB (fun i => !decide ((i : Int) ∈ c)) (l.map toIt).length 0 else []).length ≤ 140737488351232 := by
    split
    · have := places_length (fun i => !decide ((i : Int) ∈ c)) (l.map toIt).length 0
      omega
    · simp
  generalize (if stockB (l.map toIt) then placesB (fun i => !decide ((i : Int) ∈ c)) (l.map toIt).length 0 else []) = u at hi hs hu
  obtain ⟨l', hl'⟩ := mark_items (l.map toIt) hm 1 (by omega) (by omega)
  have hmc := mark_ints c hc' (1 + 3 * ((l.map toIt).length : Int)) (by omega) (by omega)
  have hmk := mark_ints u hu 1 (by omega) (by omega)
  have hhd := held_ints u.length hu 1 (by omega) (by omega)
  have hq : ¬ (1 : Int) + (u.length : Int) < 0 := by omega
  have hq2 : ¬ (1 : Int) + 3 * ((l.map toIt).length : Int) + (c.length : Int) < 0 := by omega
  simp only [laws_FnExactSpareOf.f]
  split
  · exact Ev.now _
  · simp only [bind_eq hz]
    split
    · exact Ev.now _
    · simp only [bind_eq (to_items l hl), bind_eq (to_ints c hc), bind_eq hs, bind_eq hi, bind_eq (eq_ints u hu), bind_eq (eq_items _ hm), bind_eq (eq_ints c hc'), bind_eq hl', bind_eq hmc, if_true, if_neg hq2, Bool.not_true]
      refine Ev.step (fun k => by simp only [laws_FnExactSpareOf.j0, Bool.false_eq_true, if_false] <;> rfl) ?_
      simp only [bind_eq hmk, bind_eq hhd, if_neg hq, if_true, bind_eq (to_items l hl), bind_eq (to_ints c hc), bind_eq hi, bind_eq (eq_ints u hu), ev_some]

end Go.Proofs.Ytkooomnoofnfpaa.Pure
