/-
  What the reference's l26Can and CanEquip tell, in plain words.
  Conditions: none.
-/
import Derived.Test.YtkooomnoofnfpaaStockSFnExactEquipFrom
import Derived.Test.YtkooomnoofnfpaaEquipDFnExactEquipFrom
import Derived.Test.YtkooomnoofnfpaaHasFnExactEquipFrom
namespace Go.Proofs.Ytkooomnoofnfpaa.EquipSFnExactEquipFrom
set_option linter.unusedSimpArgs false
set_option linter.unusedVariables false
open Go.RowKit Go.Proofs.YtkooomnoofnfpaaW.PrintWords Go.Proofs.YtkooomnoofnfpaaW.PrintLast Go.Proofs.YtkooomnoofnfpaaW.PrintMore Go.Proofs.Ytkooomnoofnfpaa.EvW Go.Proofs.Ytkooomnoofnfpaa.PFnExactEquipFrom Go.Proofs.Ytkooomnoofnfpaa.StockB Go.Proofs.Ytkooomnoofnfpaa.StockDFnExactEquipFrom Go.Proofs.Ytkooomnoofnfpaa.Equip Go.Proofs.Ytkooomnoofnfpaa.StockSFnExactEquipFrom Go.Proofs.Ytkooomnoofnfpaa.IntB Go.Proofs.Ytkooomnoofnfpaa.EquipDFnExactEquipFrom Go.Proofs.Ytkooomnoofnfpaa.HasFnExactEquipFrom

theorem usableS_eq (x : It) (n day : Int) : spec_l26Usable.f x.f0 x.f1 x.f2 n day = some (decide (n ≤ x.f1 ∧ day ≤ x.f2)) := by
  simp only [spec_l26Usable.f, ite_and, ge_iff_le]

def tkIn (t : List Int) (i : Nat) : Bool := decide ((i : Int) ∈ t)

section
variable (l : List It) (t : List Int) (needs : List Int) (day : Int) (hl : l.length ≤ 140737488351232) (ht : t.length ≤ 140737488351232) (hn : needs.length ≤ 140737488351232)

include hn in
theorem wantsS_loop (n : Int) (ns : List Int) (nl ni : Int) (r : Bool) : ∀ (d j : Nat) (a : Int), j + d = needs.length → -(j : Int) ≤ a → a ≤ 140737488351232 →
    (a - dem (needs.drop j) n < 0 → r = false) → (¬ a - dem (needs.drop j) n < 0 → Ev (fun k => spec_l26Can.l0 k l t needs day ns nl (wrap64 (ni + 1))) r) →
    Ev (fun k => spec_l26Can.l2 k l t needs day n a ns nl ni needs (needs.length : Int) (j : Int)) r := by
  intro d
  induction d with
  | zero =>
    intro j a hj hb hb2 h1 h2
    rw [List.drop_eq_nil_of_le (by omega)] at h1 h2
    have e0 : dem [] n = 0 := rfl
    rw [e0] at h1 h2
    simp only [Int.natCast_zero, Int.sub_zero] at h1 h2
    refine Ev.step (fun k => by simp only [spec_l26Can.l2]; rw [if_neg (by omega)]) ?_
    by_cases c : a < 0
    · simp only [if_pos c, ev_some]
      exact (h1 (by simpa using c)).symm
    · simp only [if_neg c]
      exact h2 (by simpa using c)
  | succ d ih =>
    intro j a hj hb hb2 h1 h2
    have hlt : j < needs.length := by omega
    rw [drop_cons needs j hlt, dem_cons] at h1 h2
    refine Ev.step (fun k => by simp only [spec_l26Can.l2]; rw [if_pos (by omega), if_pos (by omega), if_pos (by omega), rd_int needs j hlt]) ?_
    simp only [wrap_id (show -9223372036854775808 ≤ (j : Int) + 1 by omega) (by omega), wrap_id (show -9223372036854775808 ≤ a - 1 by omega) (by omega)]
    have e1 : ((j : Int) + 1) = ((j + 1 : Nat) : Int) := by omega
    by_cases c : n ≤ needs[j]
    · rw [if_pos c] at h1 h2
      simp only [if_pos (show needs[j] ≥ n from c), e1]
      exact ih (j + 1) (a - 1) (by omega) (by omega) (by omega) (fun h => h1 (by omega)) (fun h => h2 (by omega))
    · rw [if_neg c] at h1 h2
      simp only [if_neg (show ¬ needs[j] ≥ n from c), e1]
      exact ih (j + 1) a (by omega) (by omega) (by omega) (fun h => h1 (by omega)) (fun h => h2 (by omega))

include hl ht hn in
theorem itemsS_loop (n : Int) (ns : List Int) (nl ni : Int) (r : Bool) (h1 : cnt l.length (tkIn t) (us l day n) < dem needs n → r = false)
    (h2 : ¬ cnt l.length (tkIn t) (us l day n) < dem needs n → Ev (fun k => spec_l26Can.l0 k l t needs day ns nl (wrap64 (ni + 1))) r) : ∀ (d i : Nat), i + d = l.length →
    Ev (fun k => spec_l26Can.l1 k l t needs day n (cnt i (tkIn t) (us l day n) : Nat) ns nl ni l (l.length : Int) (i : Int)) r := by
  intro d
  induction d with
  | zero =>
    intro i hi
    obtain rfl : i = l.length := by omega
    have hc := cnt_le l.length (tkIn t) (us l day n)
    refine Ev.step (fun k => by simp only [spec_l26Can.l1]; rw [if_neg (by omega)]) ?_
    have := wantsS_loop l t needs day hn n ns nl ni r needs.length 0 (cnt l.length (tkIn t) (us l day n) : Nat) (by omega) (by omega) (by omega)
    rw [List.drop_zero] at this
    exact this (fun h => h1 (by omega)) (fun h => h2 (by omega))
  | succ d ih =>
    intro i hi
    have hlt : i < l.length := by omega
    have hc := cnt_le i (tkIn t) (us l day n)
    have ih' := ih (i + 1) (by omega)
    refine Ev.step (fun k => by simp only [spec_l26Can.l1]; rw [if_pos (by omega), if_pos (by omega), if_pos (by omega), rd_nat l i hlt, usableS_eq]) ?_
    simp only [Option.bind_some, decide_eq_true_eq, wrap_id (show -9223372036854775808 ≤ (i : Int) + 1 by omega) (by omega), wrap_id (show -9223372036854775808 ≤ ((cnt i (tkIn t) (us l day n) : Nat) : Int) + 1 by omega) (by omega)]
    have e1 : ((i : Int) + 1) = ((i + 1 : Nat) : Int) := by omega
    have e3 : cnt (i + 1) (tkIn t) (us l day n) = cnt i (tkIn t) (us l day n) + if !tkIn t i && us l day n i then 1 else 0 := rfl
    rw [us_eq l day n i hlt] at e3
    by_cases c : n ≤ l[i].f1 ∧ day ≤ l[i].f2
    · simp only [if_pos c, bind_eq (has_ev t ht (i : Int))]
      by_cases ci : (i : Int) ∈ t
      · simp only [decide_eq_true ci, if_true, e1]
        rw [show tkIn t i = true from decide_eq_true ci] at e3
        simp only [Bool.not_true, Bool.false_and, Bool.false_eq_true, if_false, Nat.add_zero] at e3
        rw [e3] at ih'
        exact ih'
      · simp only [decide_eq_false ci, Bool.false_eq_true, if_false, e1]
        rw [show tkIn t i = false from decide_eq_false ci, decide_eq_true c] at e3
        simp only [Bool.not_false, Bool.true_and, if_true] at e3
        rw [e3, Int.natCast_add] at ih'
        exact ih'
    · simp only [if_neg c, e1]
      rw [decide_eq_false c, Bool.and_false] at e3
      simp only [Bool.false_eq_true, if_false, Nat.add_zero] at e3
      rw [e3] at ih'
      exact ih'

include hl ht hn in
theorem canS_loop : Ev (fun k => spec_l26Can.f k l t needs day) (enoughB l.length (us l day) (tkIn t) needs) := by
  unfold spec_l26Can.f
  have key : ∀ (d i : Nat), i + d = needs.length → Ev (fun k => spec_l26Can.l0 k l t needs day needs (needs.length : Int) (i : Int)) ((needs.drop i).all fun n => decide (dem needs n ≤ cnt l.length (tkIn t) (us l day n))) := by
    intro d
    induction d with
    | zero =>
      intro i hi
      rw [List.drop_eq_nil_of_le (by omega)]
      exact Ev.step (f := fun _ => some true) (fun k => by simp only [spec_l26Can.l0]; rw [if_neg (by omega)]) (Ev.now _)
    | succ d ih =>
      intro i hi
      have hlt : i < needs.length := by omega
      have ih' := ih (i + 1) (by omega)
      rw [drop_cons needs i hlt, List.all_cons]
      refine Ev.step (fun k => by simp only [spec_l26Can.l0]; rw [if_pos (by omega), if_pos (by omega), if_pos (by omega), rd_int needs i hlt]) ?_
      refine itemsS_loop l t needs day hl ht hn needs[i] needs (needs.length : Int) (i : Int) _ (fun h => ?_) (fun h => ?_) l.length 0 (by omega)
      · rw [decide_eq_false (by omega), Bool.false_and]
      · rw [decide_eq_true (by omega), Bool.true_and]
        simp only [wrap_id (show -9223372036854775808 ≤ (i : Int) + 1 by omega) (by omega)]
        rw [show ((i + 1 : Nat) : Int) = (i : Int) + 1 by omega] at ih'
        exact ih'
  have := key needs.length 0 (by omega)
  rw [List.drop_zero] at this
  exact this
end

theorem tkIn_nil : tkIn [] = fun _ => false := by
  funext i
  simp [tkIn]

theorem canS_ev (l : List It) (hs : ∀ x ∈ l, x.f0.size ≤ 140737488351232) (hl : l.length ≤ 140737488351232) (needs : List Int) (day : Int) : Ev (fun k => spec_CanEquip.f k l needs day) (canB l needs day) := by
  unfold spec_CanEquip.f canB
  rw [bind_eq (spec_stock l hs hl)]
  cases stockB l with
  | false => simp [ev_some]
  | true =>
    simp only [if_true, Bool.true_and]
    by_cases c : (needs.length : Int) ≤ 12
    · have c' : needs.length ≤ 12 := by omega
      have := canS_loop l [] needs day hl (by simp) (by omega)
      rw [tkIn_nil] at this
      simp only [if_pos c, decide_eq_true c', Bool.true_and]
      rw [bind_eq this, ev_some]
    · have c' : ¬ needs.length ≤ 12 := by omega
      simp only [if_neg c, decide_eq_false c', Bool.false_and, ev_some]

end Go.Proofs.Ytkooomnoofnfpaa.EquipSFnExactEquipFrom
