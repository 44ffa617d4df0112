/-
  FirstExpiry answers as the reference's, for every list of items and every choice, and leaves both as they were.
  Conditions: none.
-/
import Derived.Test.YtfiaiadcldgclaaStockSFnExactFirstExpiry
import Derived.Test.YtfiaiadcldgclaaStockIFnExactFirstExpiry
import Derived.Test.YtfiaiadcldgclaaItemArgsFnExactFirstExpiry
import Derived.Test.YtfiaiadcldgclaaIntArgsFnExactFirstExpiry
namespace Go.Proofs.Ytfiaiadcldgclaa.Pure
set_option linter.unusedSimpArgs false
set_option linter.unusedVariables false
open Go.RowKit Go.Proofs.YtfiaiadcldgclaaW.PrintWords Go.Proofs.YtfiaiadcldgclaaW.PrintLast Go.Proofs.YtfiaiadcldgclaaW.PrintMore Go.Proofs.Ytfiaiadcldgclaa.EvW Go.Proofs.Ytfiaiadcldgclaa.PFnExactFirstExpiry Go.Proofs.Ytfiaiadcldgclaa.StockB Go.Proofs.Ytfiaiadcldgclaa.StockDFnExactFirstExpiry Go.Proofs.Ytfiaiadcldgclaa.ItemArgsFnExactFirstExpiry Go.Proofs.Ytfiaiadcldgclaa.IntArgsFnExactFirstExpiry Go.Proofs.Ytfiaiadcldgclaa.StockSFnExactFirstExpiry Go.Proofs.Ytfiaiadcldgclaa.StockIFnExactFirstExpiry Go.Proofs.Ytfiaiadcldgclaa.NameSFnExactFirstExpiry

theorem firsts (l : List It) (c : List Int) (hl : l.length ≤ 140737488351232) (hc : c.length ≤ 140737488351232) : ∀ (d i : Nat), i + d = c.length → ∀ m : Int,
    ∃ r, Ev (fun k => spec_FirstExpiry.l0 k l m c (c.length : Int) (i : Int)) r ∧ Ev (fun k => impl_FirstExpiry.l0 k l m c (c.length : Int) (i : Int)) r := by
  intro d
  induction d with
  | zero =>
    intro i hi m
    exact ⟨m, Ev.step (fun k => by simp only [spec_FirstExpiry.l0]; rw [if_neg (by omega)]) (Ev.now _), Ev.step (fun k => by simp only [impl_FirstExpiry.l0]; rw [if_neg (by omega)]) (Ev.now _)⟩
  | succ d ih =>
    intro i hi m
    have hlt : i < c.length := by omega
    by_cases hb : 0 ≤ c[i] ∧ c[i] < (l.length : Int)
    · obtain ⟨r, h1, h2⟩ := ih (i + 1) (by omega) (mn m (rd_T34 l c[i]).f2)
      rw [show ((i + 1 : Nat) : Int) = (i : Int) + 1 by omega] at h1 h2
      refine ⟨r, ?_, ?_⟩
      · refine Ev.step (f := fun k => spec_FirstExpiry.l0 k l (mn m (rd_T34 l c[i]).f2) c (c.length : Int) ((i : Int) + 1)) (fun k => ?_) h1
        simp only [spec_FirstExpiry.l0, l01In_eq, Option.bind_some, decide_eq_true_eq]
        rw [if_pos (by omega), if_pos (by omega), if_pos (by omega), rd_int c i hlt, wrap_id (by omega) (by omega), wrap_id (by omega) (by omega), if_pos (by omega), if_pos hb.1, if_pos hb.2]
      · refine Ev.step (f := fun k => impl_FirstExpiry.l0 k l (mn m (rd_T34 l c[i]).f2) c (c.length : Int) ((i : Int) + 1)) (fun k => ?_) h2
        simp only [impl_FirstExpiry.l0]
        rw [if_pos (by omega), if_pos (by omega), if_pos (by omega), rd_int c i hlt, wrap_id (by omega) (by omega), if_neg (by omega), if_neg (by omega), if_pos hb.1, if_pos hb.2]
    · refine ⟨-1, ?_, ?_⟩
      · refine Ev.step (f := fun k => some (-1)) (fun k => ?_) (Ev.now _)
        simp only [spec_FirstExpiry.l0, l01In_eq, Option.bind_some, decide_eq_true_eq]
        rw [if_pos (by omega), if_pos (by omega), if_pos (by omega), rd_int c i hlt, wrap_id (n := (l.length : Int) - 1) (by omega) (by omega), if_neg (by omega)]
      · refine Ev.step (f := fun k => some (-1)) (fun k => ?_) (Ev.now _)
        simp only [impl_FirstExpiry.l0]
        rw [if_pos (by omega), if_pos (by omega), if_pos (by omega), rd_int c i hlt]
        by_cases h0 : c[i] < 0
        · rw [if_pos h0]
        · rw [if_neg h0, if_pos (by omega)]

theorem FnExactFirstExpiry (l : List La) (ok : (∀ x ∈ l, x.f0.size ≤ 140737488351232 ∧ (Lit.int .i64 x.f1).wf = true ∧ (Lit.int .i64 x.f2).wf = true) ∧ l.length * 32 ≤ 140737488351232 ∧ l.length ≤ maxLen)
    (c : List Int) (okc : (∀ x ∈ c, (Lit.int .i64 x).wf = true) ∧ c.length * 8 ≤ 140737488351232 ∧ c.length ≤ maxLen) : ∃ k, laws_FnExactFirstExpiry.f k l c = some true := by
  obtain ⟨ok, hl, _⟩ := ok
  obtain ⟨_, hc, _⟩ := okc
  refine Ev.rounds (g := fun k => laws_FnExactFirstExpiry.f k l c) ?_
  obtain ⟨z, hz⟩ := sz_items l (by omega) 1048576
  have hn : ∀ x ∈ l.map toIt, x.f0.size ≤ 140737488351232 := by
    intro x hx
    obtain ⟨y, hy, rfl⟩ := List.mem_map.1 hx
    exact (ok y hy).1
  have hm : (l.map toIt).length ≤ 140737488351232 := by rw [List.length_map]; omega
  have hb : ∃ r, Ev (fun k => spec_FirstExpiry.f k (l.map toIt) c) r ∧ Ev (fun k => impl_FirstExpiry.f k (l.map toIt) c) r := by
    simp only [spec_FirstExpiry.f, impl_FirstExpiry.f, bind_eq (spec_stock _ hn hm), bind_eq (impl_stock _ hn hm)]
    cases stockB (l.map toIt) with
    | true =>
      simp only [if_true]
      exact firsts (l.map toIt) c hm (by omega) c.length 0 (by omega) 10001
    | false => exact ⟨-1, by simp [ev_some], by simp [ev_some]⟩
  obtain ⟨r, h1, h2⟩ := hb
  simp only [laws_FnExactFirstExpiry.f]
  split
  · exact Ev.now _
  · simp only [bind_eq hz]
    split
    · exact Ev.now _
    · simp only [bind_eq (to_items l hl), bind_eq (to_ints c hc), bind_eq h1, bind_eq h2, bind_eq (eq_items _ hm), bind_eq (eq_ints c (by omega)), if_true, ev_some]

end Go.Proofs.Ytfiaiadcldgclaa.Pure
