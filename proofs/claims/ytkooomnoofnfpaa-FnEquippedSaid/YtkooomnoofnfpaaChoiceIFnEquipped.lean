/-
  What the program's EquipFrom tells: for each need the first free item that serves and leaves enough.
  Conditions: none.
-/
import Derived.Test.YtkooomnoofnfpaaEquipIFnEquipped
namespace Go.Proofs.Ytkooomnoofnfpaa.ChoiceIFnEquipped
set_option linter.unusedSimpArgs false
set_option linter.unusedVariables false
open Go.RowKit Go.Proofs.YtkooomnoofnfpaaW.PrintWords Go.Proofs.YtkooomnoofnfpaaW.PrintLast Go.Proofs.YtkooomnoofnfpaaW.PrintMore Go.Proofs.Ytkooomnoofnfpaa.EvW Go.Proofs.Ytkooomnoofnfpaa.PFnEquipped Go.Proofs.Ytkooomnoofnfpaa.StockB Go.Proofs.Ytkooomnoofnfpaa.StockDFnEquipped Go.Proofs.Ytkooomnoofnfpaa.Equip Go.Proofs.Ytkooomnoofnfpaa.StockIFnEquipped Go.Proofs.Ytkooomnoofnfpaa.IntB Go.Proofs.Ytkooomnoofnfpaa.EquipDFnEquipped Go.Proofs.Ytkooomnoofnfpaa.EquipIFnEquipped

theorem tk_set (t : List Bool) (j : Nat) (h : j < t.length) : tkOf (t.set j true) = put (tkOf t) j := by
  funext i
  simp only [tkOf, put, List.getD]
  rw [List.getElem?_set]
  by_cases e : j = i
  · subst e
    simp [h]
  · have : (i == j) = false := by
      rw [beq_eq_false_iff_ne]
      omega
    simp [e, this]

theorem set_back (t : List Bool) (j : Nat) (h : j < t.length) (hf : tkOf t j = false) : (t.set j true).set j false = t := by
  rw [List.set_set]
  have : t[j] = false := by
    simpa [tkOf, List.getD, List.getElem?_eq_getElem h] using hf
  rw [← this, List.set_getElem_self]

section
variable (l : List It) (needs : List Int) (day : Int) (hl : l.length ≤ 140737488351232) (hn : needs.length ≤ 12)

include hl hn in
theorem inner (t : List Bool) (ht : t.length = l.length) (o : List Int) (i : Nat) (hi : i < needs.length) (ho : o.length ≤ i) (res : List Int × Bool) : ∀ (d j : Nat), j + d = l.length →
    (match firstB (Pick l day (tkOf t) needs[i] (needs.drop (i + 1))) d j with
      | some r => Ev (fun k => impl_EquipFrom.l0 k l needs day (t.set r true) (o ++ [(r : Int)]) needs (needs.length : Int) (((i + 1 : Nat) : Int))) res
      | none => Ev (fun k => impl_EquipFrom.l0 k l needs day t o needs (needs.length : Int) (((i + 1 : Nat) : Int))) res) →
    Ev (fun k => impl_EquipFrom.l1 k l needs day t o (i : Int) needs[i] needs (needs.length : Int) (i : Int) l (l.length : Int) (j : Int)) res := by
  have hwi : wrap64 ((i : Int) + 1) = ((i + 1 : Nat) : Int) := by rw [wrap_id (by omega) (by omega)]; omega
  intro d
  induction d with
  | zero =>
    intro j hj h
    refine Ev.step (fun k => by simp only [impl_EquipFrom.l1]; rw [if_neg (by omega), hwi]) ?_
    simpa [firstB] using h
  | succ d ih =>
    intro j hj h
    have hlt : j < l.length := by omega
    have hwj : wrap64 ((j : Int) + 1) = ((j + 1 : Nat) : Int) := by rw [wrap_id (by omega) (by omega)]; omega
    have skip : Pick l day (tkOf t) needs[i] (needs.drop (i + 1)) j = false → Ev (fun k => impl_EquipFrom.l1 k l needs day t o (i : Int) needs[i] needs (needs.length : Int) (i : Int) l (l.length : Int) ((j + 1 : Nat) : Int)) res := by
      intro hp
      refine ih (j + 1) (by omega) ?_
      unfold firstB at h
      simpa [hp] using h
    refine Ev.step (fun k => by simp only [impl_EquipFrom.l1]; rw [if_pos (by omega), if_pos (by omega), if_pos (by omega), if_pos (by omega), rdb t j (by omega), rd_nat l j hlt, usable_eq]) ?_
    simp only [Option.bind_some]
    cases htk : tkOf t j with
    | true =>
      simp only [if_true]
      refine Ev.step (fun k => by simp only [impl_EquipFrom.j2, if_true, hwj] <;> rfl) ?_
      exact skip (by simp [Pick, htk])
    | false =>
      simp only [Bool.false_eq_true, if_false]
      by_cases c : needs[i] ≤ l[j].f1 ∧ day ≤ l[j].f2
      · simp only [decide_eq_true c, Bool.not_true]
        have hus : us l day needs[i] j = true := by rw [us_eq l day _ j hlt]; exact decide_eq_true c
        refine Ev.step (fun k => by simp only [impl_EquipFrom.j2, Bool.false_eq_true, if_false, hwi, hwj, Int.toNat_natCast, Option.bind_some]; rw [if_pos (by omega), if_pos (by omega), if_pos (by omega), if_pos (by omega)]) ?_
        have he := enough_ev l (t.set j true) (needs.drop (i + 1)) day hl (by simp [ht]) (by simp; omega)
        rw [tk_set t j (by omega)] at he
        rw [bind_eq he]
        cases hen : enoughB l.length (us l day) (put (tkOf t) j) (needs.drop (i + 1)) with
        | true =>
          simp only [if_true, if_pos (show o.length < 17592186044416 by omega)]
          unfold firstB at h
          have hp : Pick l day (tkOf t) needs[i] (needs.drop (i + 1)) j = true := by simp [Pick, htk, hus, hen]
          simpa [hp] using h
        | false =>
          simp only [Bool.false_eq_true, if_false, set_back t j (by omega) htk]
          exact skip (by simp [Pick, hen])
      · simp only [decide_eq_false c, Bool.not_false]
        refine Ev.step (fun k => by simp only [impl_EquipFrom.j2, if_true, hwj] <;> rfl) ?_
        have hus : us l day needs[i] j = false := by rw [us_eq l day _ j hlt]; exact decide_eq_false c
        exact skip (by simp [Pick, hus])

include hl hn in
theorem outer : ∀ (d i : Nat), i + d = needs.length → ∀ (t : List Bool) (o : List Int), t.length = l.length → o.length ≤ i →
    Ev (fun k => impl_EquipFrom.l0 k l needs day t o needs (needs.length : Int) (i : Int)) (o ++ (choice l.length (us l day) (tkOf t) (needs.drop i)).map (fun n : Nat => (n : Int)), true) := by
  intro d
  induction d with
  | zero =>
    intro i hi t o ht ho
    rw [List.drop_eq_nil_of_le (by omega)]
    exact Ev.step (f := fun _ => some (o, true)) (fun k => by simp only [impl_EquipFrom.l0]; rw [if_neg (by omega)]) (by simpa [choice] using Ev.now (o, true))
  | succ d ih =>
    intro i hi t o ht ho
    have hlt : i < needs.length := by omega
    refine Ev.step (fun k => by simp only [impl_EquipFrom.l0]; rw [if_pos (by omega), if_pos (by omega), if_pos (by omega), rd_int needs i hlt]) ?_
    refine inner l needs day hl hn t ht o i hlt ho _ l.length 0 (by omega) ?_
    rw [drop_cons needs i hlt, choice_cons]
    cases hf : firstB (Pick l day (tkOf t) needs[i] (needs.drop (i + 1))) l.length 0 with
    | none => exact ih (i + 1) (by omega) t o ht (by omega)
    | some r =>
      obtain ⟨_, h2, _, _⟩ := firstB_some hf
      have := ih (i + 1) (by omega) (t.set r true) (o ++ [(r : Int)]) (by simp [ht]) (by simp; omega)
      rw [tk_set t r (by omega)] at this
      simpa using this
end

theorem equip_ev (l : List It) (hs : ∀ x ∈ l, x.f0.size ≤ 140737488351232) (hl : l.length ≤ 140737488351232) (needs : List Int) (day : Int) :
    Ev (fun k => impl_EquipFrom.f k l needs day) (if canB l needs day then ((choice l.length (us l day) (fun _ => false) needs).map (fun n : Nat => (n : Int)), true) else ([], false)) := by
  unfold impl_EquipFrom.f
  rw [bind_eq (can_ev l hs hl needs day)]
  cases hc : canB l needs day with
  | false => simp [ev_some]
  | true =>
    have hn : needs.length ≤ 12 := by
      simp only [canB, Bool.and_eq_true, decide_eq_true_eq] at hc
      exact hc.2.1
    simp only [if_true, if_pos (show (0 : Int) ≤ (l.length : Int) by omega), Int.toNat_natCast, if_pos (show l.length ≤ 281474976710656 by omega)]
    have := outer l needs day hl hn needs.length 0 (by omega) (List.replicate l.length false) [] (by simp) (by simp)
    rw [tk_none, List.drop_zero] at this
    simpa using this

end Go.Proofs.Ytkooomnoofnfpaa.ChoiceIFnEquipped
