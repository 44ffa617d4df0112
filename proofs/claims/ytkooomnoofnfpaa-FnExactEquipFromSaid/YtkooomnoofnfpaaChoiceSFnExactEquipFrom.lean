/-
  What the reference's EquipFrom tells: for each need the first free item that serves and leaves enough.
  Conditions: none.
-/
import Derived.Test.YtkooomnoofnfpaaEquipSFnExactEquipFrom
namespace Go.Proofs.Ytkooomnoofnfpaa.ChoiceSFnExactEquipFrom
set_option linter.unusedSimpArgs false
set_option linter.unusedVariables false
open Go.RowKit Go.Proofs.YtkooomnoofnfpaaW.PrintWords Go.Proofs.YtkooomnoofnfpaaW.PrintLast Go.Proofs.YtkooomnoofnfpaaW.PrintMore Go.Proofs.Ytkooomnoofnfpaa.EvW Go.Proofs.Ytkooomnoofnfpaa.PFnExactEquipFrom Go.Proofs.Ytkooomnoofnfpaa.StockB Go.Proofs.Ytkooomnoofnfpaa.StockDFnExactEquipFrom Go.Proofs.Ytkooomnoofnfpaa.Equip Go.Proofs.Ytkooomnoofnfpaa.StockSFnExactEquipFrom Go.Proofs.Ytkooomnoofnfpaa.IntB Go.Proofs.Ytkooomnoofnfpaa.EquipDFnExactEquipFrom Go.Proofs.Ytkooomnoofnfpaa.HasFnExactEquipFrom Go.Proofs.Ytkooomnoofnfpaa.EquipSFnExactEquipFrom

theorem tkIn_snoc (o : List Int) (j : Nat) : tkIn (o ++ [(j : Int)]) = put (tkIn o) j := by
  funext i
  unfold tkIn put
  by_cases e : i = j
  · subst e
    simp
  · have h1 : (i == j) = false := by
      rw [beq_eq_false_iff_ne]
      exact e
    rw [h1, Bool.false_or]
    refine decide_eq_decide.2 ?_
    rw [List.mem_append, List.mem_singleton]
    exact ⟨fun h => h.resolve_right (by omega), .inl⟩

section
variable (l : List It) (needs : List Int) (day : Int) (hl : l.length ≤ 140737488351232) (hn : needs.length ≤ 12)

include hl hn in
theorem innerS (o : List Int) (i : Nat) (hi : i < needs.length) (ho : o.length ≤ i) (res : List Int × Bool) : ∀ (d j : Nat), j + d = l.length →
    (match firstB (Pick l day (tkIn o) needs[i] (needs.drop (i + 1))) d j with
      | some r => Ev (fun k => spec_EquipFrom.l0 k l needs day (o ++ [(r : Int)]) needs (needs.length : Int) (((i + 1 : Nat) : Int))) res
      | none => Ev (fun k => spec_EquipFrom.l0 k l needs day o needs (needs.length : Int) (((i + 1 : Nat) : Int))) res) →
    Ev (fun k => spec_EquipFrom.l1 k l needs day o (i : Int) needs[i] needs (needs.length : Int) (i : Int) l (l.length : Int) (j : Int)) res := by
  have hwi : wrap64 ((i : Int) + 1) = ((i + 1 : Nat) : Int) := by rw [wrap_id (by omega) (by omega)]; omega
  intro d
  induction d with
  | zero =>
    intro j hj h
    refine Ev.step (fun k => by simp only [spec_EquipFrom.l1]; rw [if_neg (by omega), hwi]) ?_
    simpa [firstB] using h
  | succ d ih =>
    intro j hj h
    have hlt : j < l.length := by omega
    have hwj : wrap64 ((j : Int) + 1) = ((j + 1 : Nat) : Int) := by rw [wrap_id (by omega) (by omega)]; omega
    have skip : Pick l day (tkIn o) needs[i] (needs.drop (i + 1)) j = false → Ev (fun k => spec_EquipFrom.l1 k l needs day o (i : Int) needs[i] needs (needs.length : Int) (i : Int) l (l.length : Int) ((j + 1 : Nat) : Int)) res := by
      intro hp
      refine ih (j + 1) (by omega) ?_
      unfold firstB at h
      simpa [hp] using h
    refine Ev.step (fun k => by simp only [spec_EquipFrom.l1]; rw [if_pos (by omega), if_pos (by omega), if_pos (by omega), rd_nat l j hlt, usableS_eq]) ?_
    simp only [Option.bind_some, decide_eq_true_eq, hwj, hwi, Int.toNat_natCast]
    by_cases c : needs[i] ≤ l[j].f1 ∧ day ≤ l[j].f2
    · have hus : us l day needs[i] j = true := by rw [us_eq l day _ j hlt]; exact decide_eq_true c
      simp only [if_pos c]
      rw [bind_eq (has_ev o (by omega) (j : Int))]
      by_cases cj : (j : Int) ∈ o
      · simp only [decide_eq_true cj, if_true]
        exact skip (by simp [Pick, tkIn, cj])
      · have htk : tkIn o j = false := decide_eq_false cj
        have he := canS_loop l (o ++ [(j : Int)]) (needs.drop (i + 1)) day hl (by rw [List.length_append]; simp; omega) (by rw [List.length_drop]; omega)
        rw [tkIn_snoc] at he
        simp only [decide_eq_false cj, Bool.false_eq_true, if_false, List.nil_append, List.length_nil, Nat.zero_add, List.length_singleton, if_pos (show o.length < 17592186044416 by omega), if_pos (show o.length + 1 < 17592186044416 by omega), if_pos (show (0 : Int) ≤ ((i + 1 : Nat) : Int) by omega), if_pos (show ((i + 1 : Nat) : Int) ≤ (needs.length : Int) by omega)]
        rw [bind_eq he]
        cases hen : enoughB l.length (us l day) (put (tkIn o) j) (needs.drop (i + 1)) with
        | true =>
          simp only [if_true]
          unfold firstB at h
          have hp : Pick l day (tkIn o) needs[i] (needs.drop (i + 1)) j = true := by simp [Pick, htk, hus, hen]
          simpa [hp] using h
        | false =>
          simp only [Bool.false_eq_true, if_false]
          exact skip (by simp [Pick, hen])
    · have hus : us l day needs[i] j = false := by rw [us_eq l day _ j hlt]; exact decide_eq_false c
      simp only [if_neg c]
      exact skip (by simp [Pick, hus])

include hl hn in
theorem outerS : ∀ (d i : Nat), i + d = needs.length → ∀ (o : List Int), o.length ≤ i →
    Ev (fun k => spec_EquipFrom.l0 k l needs day o needs (needs.length : Int) (i : Int)) (o ++ (choice l.length (us l day) (tkIn o) (needs.drop i)).map (fun n : Nat => (n : Int)), true) := by
  intro d
  induction d with
  | zero =>
    intro i hi o ho
    rw [List.drop_eq_nil_of_le (by omega)]
    exact Ev.step (f := fun _ => some (o, true)) (fun k => by simp only [spec_EquipFrom.l0]; rw [if_neg (by omega)]) (by simpa [choice] using Ev.now (o, true))
  | succ d ih =>
    intro i hi o ho
    have hlt : i < needs.length := by omega
    refine Ev.step (fun k => by simp only [spec_EquipFrom.l0]; rw [if_pos (by omega), if_pos (by omega), if_pos (by omega), rd_int needs i hlt]) ?_
    refine innerS l needs day hl hn o i hlt ho _ l.length 0 (by omega) ?_
    rw [drop_cons needs i hlt, choice_cons]
    cases hf : firstB (Pick l day (tkIn o) needs[i] (needs.drop (i + 1))) l.length 0 with
    | none => exact ih (i + 1) (by omega) o (by omega)
    | some r =>
      have := ih (i + 1) (by omega) (o ++ [(r : Int)]) (by simp; omega)
      rw [tkIn_snoc] at this
      simpa using this
end

theorem equipS_ev (l : List It) (hs : ∀ x ∈ l, x.f0.size ≤ 140737488351232) (hl : l.length ≤ 140737488351232) (needs : List Int) (day : Int) :
    Ev (fun k => spec_EquipFrom.f k l needs day) (if canB l needs day then ((choice l.length (us l day) (fun _ => false) needs).map (fun n : Nat => (n : Int)), true) else ([], false)) := by
  unfold spec_EquipFrom.f
  rw [bind_eq (canS_ev l hs hl needs day)]
  cases hc : canB l needs day with
  | false => simp [ev_some]
  | true =>
    have hn : needs.length ≤ 12 := by
      simp only [canB, Bool.and_eq_true, decide_eq_true_eq] at hc
      exact hc.2.1
    simp only [if_true]
    have := outerS l needs day hl hn needs.length 0 (by omega) [] (by simp)
    rw [tkIn_nil, List.drop_zero] at this
    simpa using this

end Go.Proofs.Ytkooomnoofnfpaa.ChoiceSFnExactEquipFrom
