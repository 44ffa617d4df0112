/-
  No earlier item could have been chosen for the first need: for every code.
  Conditions: none.
-/
import Derived.Test.YtfiaiadcldgclaaDrawStockFnFirstChoice
import Derived.Test.YtfiaiadcldgclaaDrawNeedsFnFirstChoice
import Derived.Test.YtfiaiadcldgclaaChoiceIFnFirstChoice
import Derived.Test.YtfiaiadcldgclaaUsableIFnFirstChoice
namespace Go.Proofs.Ytfiaiadcldgclaa.Pure
set_option linter.unusedSimpArgs false
set_option linter.unusedVariables false
open Go.RowKit Go.Proofs.YtfiaiadcldgclaaW.PrintWords Go.Proofs.YtfiaiadcldgclaaW.PrintLast Go.Proofs.YtfiaiadcldgclaaW.PrintMore Go.Proofs.Ytfiaiadcldgclaa.EvW Go.Proofs.Ytfiaiadcldgclaa.PFnFirstChoice Go.Proofs.Ytfiaiadcldgclaa.StockB Go.Proofs.Ytfiaiadcldgclaa.StockDFnFirstChoice Go.Proofs.Ytfiaiadcldgclaa.Equip Go.Proofs.Ytfiaiadcldgclaa.StockIFnFirstChoice Go.Proofs.Ytfiaiadcldgclaa.IntB Go.Proofs.Ytfiaiadcldgclaa.EquipIFnFirstChoice Go.Proofs.Ytfiaiadcldgclaa.ChoiceIFnFirstChoice Go.Proofs.Ytfiaiadcldgclaa.UsableIFnFirstChoice Go.Proofs.Ytfiaiadcldgclaa.DrawFnFirstChoice Go.Proofs.Ytfiaiadcldgclaa.DrawStockFnFirstChoice Go.Proofs.Ytfiaiadcldgclaa.DrawNeedsFnFirstChoice

def servesIt (n day : Int) (x : It) : Bool := decide (n ≤ x.f1 ∧ day ≤ x.f2)

theorem cnt_list (l : List It) (day n : Int) : ∀ i, i ≤ l.length → cnt i (fun _ => false) (us l day n) = (l.take i).countP (servesIt n day)
  | 0, _ => by simp [cnt]
  | i + 1, h => by
    have ih := cnt_list l day n i (by omega)
    unfold cnt
    rw [ih, us_eq l day n i (by omega), List.take_succ_eq_append_getElem (by omega), List.countP_append]
    congr 1
    rw [List.countP_cons, List.countP_nil]
    simp [servesIt]

theorem rest_enough (l : List It) (day : Int) (k : Nat) (h : k < l.length) (needs : List Int) :
    enoughB (l.take k ++ l.drop (k + 1)).length (us (l.take k ++ l.drop (k + 1)) day) (fun _ => false) needs = enoughB l.length (us l day) (put (fun _ => false) k) needs := by
  unfold enoughB
  congr 1
  funext n
  congr 2
  have h1 := cnt_list (l.take k ++ l.drop (k + 1)) day n _ (Nat.le_refl _)
  have h2 := cnt_list l day n _ (Nat.le_refl _)
  have h3 := cnt_put (fun _ => false) (us l day n) (i := k) rfl h
  rw [List.take_length] at h1 h2
  have e : us l day n k = servesIt n day l[k] := us_eq l day n k h
  rw [e] at h3
  have h4 : l.countP (servesIt n day) = (l.take k ++ l.drop (k + 1)).countP (servesIt n day) + (if servesIt n day l[k] = true then 1 else 0) := by
    conv => lhs; rw [← List.take_append_drop k l, drop_cons l k h]
    rw [List.countP_append, List.countP_append, List.countP_cons]
    omega
  omega

section
variable (L : List It) (hsz : ∀ x ∈ L, x.f0.size ≤ 140737488351232) (hlen : L.length ≤ 5) (n day : Int) (rest xs : List Int) (q : Nat) (hx0 : rd xs 0 = (q : Int)) (hxp : 0 < (xs.length : Int))
  (hmin : ∀ j, 0 ≤ j → j < q → Pick L day (fun _ => false) n rest j = false)

include hsz hlen hmin in
theorem rest_not (j : Nat) (hj : j < L.length) (hju : us L day n j = true) (hjq : j < q) : Ev (fun k => impl_CanEquip.f k (L.take j ++ L.drop (j + 1)) rest day) false := by
  have hpj := hmin j (by omega) hjq
  have hef : enoughB L.length (us L day) (put (fun _ => false) j) rest = false := by
    simpa [Pick, hju] using hpj
  have hsub : ∀ x ∈ L.take j ++ L.drop (j + 1), x.f0.size ≤ 140737488351232 := by
    intro x hx
    rcases List.mem_append.1 hx with hx | hx
    · exact hsz x (List.mem_of_mem_take hx)
    · exact hsz x (List.mem_of_mem_drop hx)
  have ht : (L.take j).length ≤ L.length := by rw [List.length_take]; omega
  have hd : (L.drop (j + 1)).length ≤ L.length := by simp
  have hce := can_ev (L.take j ++ L.drop (j + 1)) hsub (by rw [List.length_append]; omega) rest day
  have hcf : canB (L.take j ++ L.drop (j + 1)) rest day = false := by
    unfold canB
    rw [rest_enough L day j hj, hef]
    simp
  rw [hcf] at hce
  exact hce

include hsz hlen hx0 hxp hmin in
set_option maxHeartbeats 1000000 in
theorem one_round (u : List Int) (i j : Nat) (hlt : i < u.length) (hjx : u[i] = (j : Int)) (hj : j < L.length) (hju : us L day n j = true) (hwi : wrap64 ((i : Int) + 1) = ((i + 1 : Nat) : Int))
    (ih' : Ev (fun k => laws_FnFirstChoice.l0 k L (n :: rest) day xs u (u.length : Int) ((i + 1 : Nat) : Int)) true) :
    Ev (fun k => laws_FnFirstChoice.l0 k L (n :: rest) day xs u (u.length : Int) (i : Int)) true := by
  have hwj : wrap64 ((j : Int) + 1) = ((j + 1 : Nat) : Int) := by rw [wrap_id (by omega) (by omega)]; omega
  have ht : (L.take j).length ≤ L.length := by rw [List.length_take]; omega
  have hd : (L.drop (j + 1)).length ≤ L.length := by simp
  have g1 : (i : Int) < (u.length : Int) := by omega
  have g2 : (0 : Int) ≤ (i : Int) := by omega
  have g3 : ¬ (j : Int) < 0 := by omega
  have g4 : ¬ (j : Int) ≥ (L.length : Int) := by omega
  refine Ev.step (fun k => by simp only [laws_FnFirstChoice.l0, if_pos g1, if_pos g2, rd_int u i hlt, hjx, if_neg g3, decide_eq_false g4] <;> rfl) ?_
  refine Ev.step (fun k => by simp only [laws_FnFirstChoice.j3, Bool.false_eq_true, if_false] <;> rfl) ?_
  simp only [Option.bind_some, List.nil_append, List.length_nil, Int.toNat_natCast, hwj, hwi, hx0, if_pos (show (0 : Int) ≤ (j : Int) by omega), if_pos (show (j : Int) ≤ (L.length : Int) by omega), Nat.zero_add,
    if_pos (show (L.take j).length < 4398046511104 by omega), if_pos (show (0 : Int) ≤ ((j + 1 : Nat) : Int) by omega), if_pos (show ((j + 1 : Nat) : Int) ≤ (L.length : Int) by omega), if_pos (show (L.take j).length + (L.drop (j + 1)).length < 4398046511104 by omega), if_pos hxp]
  have g5 : (1 : Int) ≤ ((n :: rest).length : Int) := by
    rw [List.length_cons]
    omega
  by_cases hq0 : (j : Int) < (q : Int)
  · simp only [if_pos hq0, if_pos g5, List.drop_one, List.tail_cons]
    rw [bind_eq (rest_not L hsz hlen n day rest q hmin j hj hju (by omega))]
    simpa using ih'
  · simp only [if_neg hq0]
    exact ih'
end

set_option maxHeartbeats 1000000 in
theorem FnFirstChoice (c : List Int) (ok : (∀ x ∈ c, (Lit.int .u8 x).wf = true) ∧ c.length * 1 ≤ 140737488351232 ∧ c.length ≤ maxLen) : ∃ k, laws_FnFirstChoice.f k c = some true := by
  have hc := ok.2.1
  have hl : c.length ≤ 140737488351232 := by omega
  refine Ev.rounds (g := fun k => laws_FnFirstChoice.f k c) ?_
  unfold laws_FnFirstChoice.f
  by_cases c0 : (c.length : Int) > 1048576
  · simp only [if_pos c0, ev_some]
  · simp only [if_neg c0]
    obtain ⟨L, hL, hst, hlen, hsz⟩ := make_stock c hl
    obtain ⟨ns, hns, hnl, _⟩ := make_needs c hl 40 (by omega)
    obtain ⟨r, hr, _, _⟩ := make_num c hl 50 (by omega)
    generalize Int.tmod r 5 = day at *
    have hLl : L.length ≤ 140737488351232 := by omega
    have hns' : Ev (fun k => spec_MakeNeeds.f k c 40) ns := hns
    have hr' : Ev (fun k => spec_MakeNum.f k c 50) r := hr
    rw [bind_eq hL, bind_eq (impl_stock L hsz hLl), hst]
    simp only [if_true, bind_eq hns', bind_eq hr']
    generalize Int.tmod r 5 = day
    rw [bind_eq (equip_ev L hsz hLl ns day)]
    have hcan := can_ev L hsz hLl ns day
    cases hcn : canB L ns day with
    | false =>
      rw [hcn] at hcan
      simp only [Bool.false_eq_true, if_false]
      refine Ev.step (fun k => by simp only [laws_FnFirstChoice.j0, if_true] <;> rfl) ?_
      rw [bind_eq hcan, ev_some]
      rfl
    | true =>
      rw [hcn] at hcan
      simp only [if_true]
      have hen : enoughB L.length (us L day) (fun _ => false) ns = true := by
        simp only [canB, Bool.and_eq_true] at hcn
        exact hcn.2.2
      cases hn0 : ((ns.length : Int) == 0) with
      | true =>
        refine Ev.step (fun k => by simp only [laws_FnFirstChoice.j0, if_true] <;> rfl) ?_
        rw [bind_eq hcan, ev_some]
        rfl
      | false =>
        match ns, hn0, hnl, hen with
        | [], hn0, _, _ => simp at hn0
        | n :: rest, _, hnl, hen =>
        obtain ⟨i, hi, h1, h2, h3⟩ := hall hen
        have hx := choice_length hen
        cases hf : firstB (Pick L day (fun _ => false) n rest) L.length 0 with
        | none =>
          have := firstB_none hf i (by omega) (by omega)
          simp [Pick, h2, h3] at this
        | some q =>
          obtain ⟨_, hq, hp, hmin⟩ := firstB_some hf
          have hch : choice L.length (us L day) (fun _ => false) (n :: rest) = q :: choice L.length (us L day) (put (fun _ => false) q) rest := by
            rw [choice]
            have e : firstB (fun i => !(fun _ => false) i && us L day n i && enoughB L.length (us L day) (put (fun _ => false) i) rest) L.length 0 = firstB (Pick L day (fun _ => false) n rest) L.length 0 := rfl
            rw [e, hf]
          have hq' : q < L.length := by omega
          rw [hch] at hx ⊢
          generalize choice L.length (us L day) (put (fun _ => false) q) rest = more at hx
          have hml : more.length = rest.length := by simpa using hx
          simp only [List.map_cons]
          generalize hxs : (q : Int) :: more.map (fun n : Nat => (n : Int)) = xs
          have hxl : (xs.length : Int) = ((n :: rest).length : Int) := by
            rw [← hxs]
            simp [hml]
          have hx0 : rd xs 0 = (q : Int) := by
            rw [← hxs]
            rfl
          have hxp : 0 < (xs.length : Int) := by
            rw [hxl]
            simp
          refine Ev.step (fun k => by simp only [laws_FnFirstChoice.j0, Bool.false_eq_true, if_false]; rw [if_pos hxl, if_pos hxp, hx0, if_neg (by omega), decide_eq_false (by omega)]) ?_
          refine Ev.step (fun k => by simp only [laws_FnFirstChoice.j1, Bool.false_eq_true, if_false]; rw [if_pos (by simp)]) ?_
          have hrn : rd (n :: rest) 0 = n := rfl
          have hus := usable_ev L hsz hLl n day
          rw [hst] at hus
          simp only [if_true] at hus
          simp only [hrn]
          rw [bind_eq hus]
          have hul := places_length (us L day n) L.length 0
          have hum : ∀ x ∈ placesB (us L day n) L.length 0, ∃ j, j < L.length ∧ us L day n j = true ∧ x = (j : Int) := fun x hx => by
            obtain ⟨j, _, h2, h3, h4⟩ := mem_places.1 hx
            exact ⟨j, by omega, h3, h4⟩
          generalize placesB (us L day n) L.length 0 = u at hul hum
          have key : ∀ (d i : Nat), i + d = u.length → Ev (fun k => laws_FnFirstChoice.l0 k L (n :: rest) day xs u (u.length : Int) (i : Int)) true := by
            intro d
            induction d with
            | zero =>
              intro i hi
              exact Ev.step (f := fun _ => some true) (fun k => by simp only [laws_FnFirstChoice.l0]; rw [if_neg (by omega)]) (Ev.now _)
            | succ d ih =>
              intro i hi
              have hlt : i < u.length := by omega
              have hwi : wrap64 ((i : Int) + 1) = ((i + 1 : Nat) : Int) := by rw [wrap_id (by omega) (by omega)]; omega
              obtain ⟨j, hj, hju, hjx⟩ := hum u[i] (List.getElem_mem hlt)
              exact one_round L hsz hlen n day rest xs q hx0 hxp hmin u i j hlt hjx hj hju hwi (ih (i + 1) (by omega))
          exact key u.length 0 (by omega)

end Go.Proofs.Ytfiaiadcldgclaa.Pure
