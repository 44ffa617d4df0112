/-
  The laws' marks on items: they are written.
  Conditions: none.
-/
import Derived.Test.YtkooomnoofnfpaaStockDFnExactEquipFrom
namespace Go.Proofs.Ytkooomnoofnfpaa.MarkItemFnExactEquipFrom
set_option linter.unusedSimpArgs false
set_option linter.unusedVariables false
open Go.RowKit Go.Proofs.YtkooomnoofnfpaaW.PrintWords Go.Proofs.YtkooomnoofnfpaaW.PrintLast Go.Proofs.YtkooomnoofnfpaaW.PrintMore Go.Proofs.Ytkooomnoofnfpaa.EvW Go.Proofs.Ytkooomnoofnfpaa.PFnExactEquipFrom Go.Proofs.Ytkooomnoofnfpaa.StockB Go.Proofs.Ytkooomnoofnfpaa.StockDFnExactEquipFrom

theorem mark_text (m : Int) (h1 : m ≤ 1000000000000000000) : ∃ s, Ev (fun k => laws_markText.f k m) s := by
  unfold laws_markText.f
  by_cases c : m ≤ 0
  · exact ⟨_, by simp only [if_pos c]; exact Ev.now _⟩
  · simp only [if_neg c]
    have key : ∀ (d : Nat) (x : Int) (s : ByteArray), 0 ≤ x → x.toNat ≤ d → x + s.size ≤ 1000000000000000000 → ∃ r, Ev (fun k => laws_markText.l0 k x s) r := by
      intro d
      induction d with
      | zero =>
        intro x s hx hd hs
        refine ⟨_, Ev.step (fun k => by simp only [laws_markText.l0]; rw [if_neg (by omega), if_pos (by omega)]) (Ev.now _)⟩
      | succ d ih =>
        intro x s hx hd hs
        by_cases hp : x > 0
        · have hq : Int.tdiv x 10 = x / 10 := by rw [Int.tdiv_eq_ediv_of_nonneg hx]
          generalize hb : (strOfNums [(wrap64 (48 + (Int.tmod x 10))) % 256]) = b
          have hbs : b.size = 1 := by rw [← hb, strOfNums_size]; rfl
          obtain ⟨r, hr⟩ := ih (x / 10) (b ++ s) (by omega) (by omega) (by rw [ByteArray.size_append]; omega)
          refine ⟨r, Ev.step (fun k => by simp only [laws_markText.l0]; rw [if_pos hp]) ?_⟩
          simp only [Option.bind_some, hb, hq, if_pos (show b.size + s.size ≤ 9223372036854775807 by omega), wrap_id (show -9223372036854775808 ≤ x / 10 by omega) (by omega)]
          exact hr
        · refine ⟨_, Ev.step (fun k => by simp only [laws_markText.l0]; rw [if_neg hp, if_pos (by omega)]) (Ev.now _)⟩
    exact key m.toNat m _ (by omega) (Nat.le_refl _) (by show m + ((0 : Nat) : Int) ≤ _; omega)

theorem mark_items (l : List It) (hl : l.length ≤ 140737488351232) (m : Int) (h0 : 0 ≤ m) (h1 : m ≤ 1000) : ∃ l', Ev (fun k => laws_markItemS.f k l m) (m + 3 * l.length, l') := by
  unfold laws_markItemS.f
  have key : ∀ (d i : Nat) (x : List It) (m : Int), x.length = l.length → i + d = l.length → 0 ≤ m → m ≤ 1000 + 3 * i → ∃ l', Ev (fun k => laws_markItemS.l0 k x m (i : Int)) (m + 3 * d, l') := by
    intro d
    induction d with
    | zero =>
      intro i x m hx hi h0 h1
      exact ⟨x, Ev.step (f := fun _ => some (m, x)) (fun k => by simp only [laws_markItemS.l0]; rw [if_neg (by omega)]) (by simpa using Ev.now (m, x))⟩
    | succ d ih =>
      intro i x m hx hi h0 h1
      obtain ⟨s, hs⟩ := mark_text m (by omega)
      have hw1 : wrap64 (m + 1) = m + 1 := wrap_id (by omega) (by omega)
      have hw2 : wrap64 (m + 1 + 1) = m + 1 + 1 := wrap_id (by omega) (by omega)
      have hw3 : wrap64 (m + 1 + 1 + 1) = m + 1 + 1 + 1 := wrap_id (by omega) (by omega)
      have hw4 : wrap64 ((i : Int) + 1) = ((i + 1 : Nat) : Int) := by rw [wrap_id (by omega) (by omega)]; omega
      generalize hy1 : x.set i (⟨s, (rd_T36 x i).f1, (rd_T36 x i).f2⟩ : It) = y1
      generalize hy2 : y1.set i (⟨(rd_T36 y1 i).f0, m + 1, (rd_T36 y1 i).f2⟩ : It) = y2
      generalize hy3 : y2.set i (⟨(rd_T36 y2 i).f0, (rd_T36 y2 i).f1, m + 1 + 1⟩ : It) = y3
      obtain ⟨l', hl'⟩ := ih (i + 1) y3 (m + 1 + 1 + 1) (by rw [← hy3, ← hy2, ← hy1]; simp [hx]) (by omega) (by omega) (by omega)
      refine ⟨l', Ev.step (fun k => by simp only [laws_markItemS.l0]; rw [if_pos (by omega)]) ?_⟩
      rw [bind_eq hs]
      simp only [if_pos (show (0 : Int) ≤ (i : Int) by omega), Int.toNat_natCast, Option.bind_some, hw1, hw2, hw3, hw4, hy1, hy2, hy3]
      have e4 : m + 1 + 1 + 1 + 3 * (d : Int) = m + 3 * ((d + 1 : Nat) : Int) := by omega
      rw [e4] at hl'
      exact hl'
  have := key l.length 0 l m rfl (by omega) h0 (by omega)
  exact this

end Go.Proofs.Ytkooomnoofnfpaa.MarkItemFnExactEquipFrom
