/-
  What the program's enough and CanEquip tell, in plain words.
  Conditions: none.
-/
import Derived.Test.YtkooomnoofnfpaaStockIFnEquipped
import Derived.Test.YtkooomnoofnfpaaEquipDFnEquipped
namespace Go.Proofs.Ytkooomnoofnfpaa.EquipIFnEquipped
set_option linter.unusedSimpArgs false
set_option linter.unusedVariables false
open Go.RowKit Go.Proofs.YtkooomnoofnfpaaW.PrintWords Go.Proofs.YtkooomnoofnfpaaW.PrintLast Go.Proofs.YtkooomnoofnfpaaW.PrintMore Go.Proofs.Ytkooomnoofnfpaa.EvW Go.Proofs.Ytkooomnoofnfpaa.PFnEquipped Go.Proofs.Ytkooomnoofnfpaa.StockB Go.Proofs.Ytkooomnoofnfpaa.StockDFnEquipped Go.Proofs.Ytkooomnoofnfpaa.Equip Go.Proofs.Ytkooomnoofnfpaa.StockIFnEquipped Go.Proofs.Ytkooomnoofnfpaa.IntB Go.Proofs.Ytkooomnoofnfpaa.EquipDFnEquipped

theorem usable_eq (x : It) (n day : Int) : impl_Item_usable.f x.f0 x.f1 x.f2 n day = some (decide (n ≤ x.f1 ∧ day ≤ x.f2)) := by
  simp only [impl_Item_usable.f, ite_and, ge_iff_le]

theorem rdb (t : List Bool) (i : Nat) (h : i < t.length) : rdOf false t (i : Int) = tkOf t i := by
  simp [rdOf, tkOf]

section
variable (l : List It) (t : List Bool) (needs : List Int) (day : Int) (hl : l.length ≤ 140737488351232) (ht : t.length = l.length) (hn : needs.length ≤ 140737488351232)

include hn in
/-- How many needs are as great: then the test. -/
theorem wants_loop (n : Int) (a : Nat) (ns : List Int) (nl ni : Int) (r : Bool) : ∀ (d j b : Nat), j + d = needs.length → b ≤ j →
    (a < b + dem (needs.drop j) n → r = false) → (¬ a < b + dem (needs.drop j) n → Ev (fun k => impl_enough.l0 k l t needs day ns nl (wrap64 (ni + 1))) r) →
    Ev (fun k => impl_enough.l2 k l t needs day n (a : Int) (b : Int) ns nl ni needs (needs.length : Int) (j : Int)) r := by
  intro d
  induction d with
  | zero =>
    intro j b hj hb h1 h2
    rw [List.drop_eq_nil_of_le (by omega)] at h1 h2
    have e0 : dem [] n = 0 := rfl
    rw [e0, Nat.add_zero] at h1 h2
    refine Ev.step (fun k => by simp only [impl_enough.l2]; rw [if_neg (by omega)]) ?_
    by_cases c : a < b
    · simp only [if_pos (show (a : Int) < (b : Int) by omega), ev_some]
      exact (h1 c).symm
    · simp only [if_neg (show ¬ (a : Int) < (b : Int) by omega)]
      exact h2 c
  | succ d ih =>
    intro j b hj hb h1 h2
    have hlt : j < needs.length := by omega
    rw [drop_cons needs j hlt, dem_cons] at h1 h2
    refine Ev.step (fun k => by simp only [impl_enough.l2]; rw [if_pos (by omega), if_pos (by omega), if_pos (by omega), rd_int needs j hlt]) ?_
    simp only [wrap_id (show -9223372036854775808 ≤ (j : Int) + 1 by omega) (by omega), wrap_id (show -9223372036854775808 ≤ (b : Int) + 1 by omega) (by omega)]
    have e1 : ((j : Int) + 1) = ((j + 1 : Nat) : Int) := by omega
    have e2 : ((b : Int) + 1) = ((b + 1 : Nat) : Int) := by omega
    by_cases c : n ≤ needs[j]
    · rw [if_pos c] at h1 h2
      simp only [if_pos (show needs[j] ≥ n from c), e1, e2]
      exact ih (j + 1) (b + 1) (by omega) (by omega) (fun h => h1 (by omega)) (fun h => h2 (by omega))
    · rw [if_neg c] at h1 h2
      simp only [if_neg (show ¬ needs[j] ≥ n from c), e1]
      exact ih (j + 1) b (by omega) (by omega) (fun h => h1 (by omega)) (fun h => h2 (by omega))

include hl ht hn in
theorem items_loop (n : Int) (ns : List Int) (nl ni : Int) (r : Bool) (h1 : cnt l.length (tkOf t) (us l day n) < dem needs n → r = false)
    (h2 : ¬ cnt l.length (tkOf t) (us l day n) < dem needs n → Ev (fun k => impl_enough.l0 k l t needs day ns nl (wrap64 (ni + 1))) r) : ∀ (d i : Nat), i + d = l.length →
    Ev (fun k => impl_enough.l1 k l t needs day n (cnt i (tkOf t) (us l day n) : Nat) 0 ns nl ni l (l.length : Int) (i : Int)) r := by
  intro d
  induction d with
  | zero =>
    intro i hi
    obtain rfl : i = l.length := by omega
    refine Ev.step (fun k => by simp only [impl_enough.l1]; rw [if_neg (by omega)]) ?_
    have := wants_loop l t needs day hn n (cnt l.length (tkOf t) (us l day n)) ns nl ni r needs.length 0 0 (by omega) (by omega)
    rw [List.drop_zero, Nat.zero_add] at this
    exact this h1 h2
  | succ d ih =>
    intro i hi
    have hlt : i < l.length := by omega
    have hc := cnt_le i (tkOf t) (us l day n)
    have ih' := ih (i + 1) (by omega)
    refine Ev.step (fun k => by simp only [impl_enough.l1]; rw [if_pos (by omega), if_pos (by omega), if_pos (by omega), if_pos (by omega), rd_nat l i hlt, usable_eq, rdb t i (by omega)]) ?_
    simp only [Option.bind_some, decide_eq_true_eq, wrap_id (show -9223372036854775808 ≤ (i : Int) + 1 by omega) (by omega), wrap_id (show -9223372036854775808 ≤ ((cnt i (tkOf t) (us l day n) : Nat) : Int) + 1 by omega) (by omega)]
    have e1 : ((i : Int) + 1) = ((i + 1 : Nat) : Int) := by omega
    have e3 : cnt (i + 1) (tkOf t) (us l day n) = cnt i (tkOf t) (us l day n) + if !tkOf t i && us l day n i then 1 else 0 := rfl
    rw [us_eq l day n i hlt] at e3
    cases htk : tkOf t i with
    | true =>
      rw [htk] at e3
      simp only [Bool.not_true, Bool.false_and, Bool.false_eq_true, if_false, Nat.add_zero] at e3
      rw [e3] at ih'
      simp only [if_true, e1]
      exact ih'
    | false =>
      rw [htk] at e3
      simp only [Bool.not_false, Bool.true_and, decide_eq_true_eq] at e3
      simp only [Bool.false_eq_true, if_false]
      by_cases c : n ≤ l[i].f1 ∧ day ≤ l[i].f2
      · rw [if_pos c] at e3
        rw [e3, Int.natCast_add] at ih'
        simp only [if_pos c, e1]
        exact ih'
      · rw [if_neg c, Nat.add_zero] at e3
        rw [e3] at ih'
        simp only [if_neg c, e1]
        exact ih'

include hl ht hn in
theorem enough_ev : Ev (fun k => impl_enough.f k l t needs day) (enoughB l.length (us l day) (tkOf t) needs) := by
  unfold impl_enough.f
  have key : ∀ (d i : Nat), i + d = needs.length → Ev (fun k => impl_enough.l0 k l t needs day needs (needs.length : Int) (i : Int)) ((needs.drop i).all fun n => decide (dem needs n ≤ cnt l.length (tkOf t) (us l day n))) := by
    intro d
    induction d with
    | zero =>
      intro i hi
      rw [List.drop_eq_nil_of_le (by omega)]
      exact Ev.step (f := fun _ => some true) (fun k => by simp only [impl_enough.l0]; rw [if_neg (by omega)]) (Ev.now _)
    | succ d ih =>
      intro i hi
      have hlt : i < needs.length := by omega
      have ih' := ih (i + 1) (by omega)
      rw [drop_cons needs i hlt, List.all_cons]
      refine Ev.step (fun k => by simp only [impl_enough.l0]; rw [if_pos (by omega), if_pos (by omega), if_pos (by omega), rd_int needs i hlt]) ?_
      refine items_loop l t needs day hl ht hn needs[i] needs (needs.length : Int) (i : Int) _ (fun h => ?_) (fun h => ?_) l.length 0 (by omega)
      · rw [decide_eq_false (by omega), Bool.false_and]
      · rw [decide_eq_true (by omega), Bool.true_and]
        simp only [wrap_id (show -9223372036854775808 ≤ (i : Int) + 1 by omega) (by omega)]
        rw [show ((i + 1 : Nat) : Int) = (i : Int) + 1 by omega] at ih'
        exact ih'
  have := key needs.length 0 (by omega)
  rw [List.drop_zero] at this
  exact this
end

theorem tk_none (n : Nat) : tkOf (List.replicate n false) = fun _ => false := by
  funext i
  simp only [tkOf, List.getD]
  by_cases h : i < n
  · rw [List.getElem?_replicate, if_pos h]; rfl
  · rw [List.getElem?_replicate, if_neg h]; rfl

theorem can_ev (l : List It) (hs : ∀ x ∈ l, x.f0.size ≤ 140737488351232) (hl : l.length ≤ 140737488351232) (needs : List Int) (day : Int) : Ev (fun k => impl_CanEquip.f k l needs day) (canB l needs day) := by
  unfold impl_CanEquip.f canB
  rw [bind_eq (impl_stock l hs hl)]
  cases stockB l with
  | false => simp [ev_some]
  | true =>
    simp only [if_true, Bool.true_and]
    by_cases c : (needs.length : Int) ≤ 12
    · have c' : needs.length ≤ 12 := by omega
      simp only [if_pos c, if_pos (show (0 : Int) ≤ (l.length : Int) by omega), Int.toNat_natCast, if_pos (show l.length ≤ 281474976710656 by omega), decide_eq_true c', Bool.true_and]
      have := enough_ev l (List.replicate l.length false) needs day hl (by simp) (by omega)
      rw [tk_none] at this
      rw [bind_eq this, ev_some]
    · have c' : ¬ needs.length ≤ 12 := by omega
      simp only [if_neg c, decide_eq_false c', Bool.false_and, ev_some]

end Go.Proofs.Ytkooomnoofnfpaa.EquipIFnEquipped
