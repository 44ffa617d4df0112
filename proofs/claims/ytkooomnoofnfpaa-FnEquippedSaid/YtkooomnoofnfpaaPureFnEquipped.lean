/-
  Different items are assigned to all needs whenever this is possible, each within its limit and its time: for every code.
  Conditions: none.
-/
import Derived.Test.YtkooomnoofnfpaaDrawStockFnEquipped
import Derived.Test.YtkooomnoofnfpaaDrawNeedsFnEquipped
import Derived.Test.YtkooomnoofnfpaaChoiceIFnEquipped
import Derived.Test.YtkooomnoofnfpaaUsableIFnEquipped
import Derived.Test.YtkooomnoofnfpaaSpareIFnEquipped
namespace Go.Proofs.Ytkooomnoofnfpaa.Pure
set_option linter.unusedSimpArgs false
set_option linter.unusedVariables false
open Go.RowKit Go.Proofs.YtkooomnoofnfpaaW.PrintWords Go.Proofs.YtkooomnoofnfpaaW.PrintLast Go.Proofs.YtkooomnoofnfpaaW.PrintMore Go.Proofs.Ytkooomnoofnfpaa.EvW Go.Proofs.Ytkooomnoofnfpaa.PFnEquipped Go.Proofs.Ytkooomnoofnfpaa.StockB Go.Proofs.Ytkooomnoofnfpaa.StockDFnEquipped Go.Proofs.Ytkooomnoofnfpaa.Equip Go.Proofs.Ytkooomnoofnfpaa.StockIFnEquipped Go.Proofs.Ytkooomnoofnfpaa.IntB Go.Proofs.Ytkooomnoofnfpaa.EquipDFnEquipped Go.Proofs.Ytkooomnoofnfpaa.EquipIFnEquipped Go.Proofs.Ytkooomnoofnfpaa.ChoiceIFnEquipped Go.Proofs.Ytkooomnoofnfpaa.UsableIFnEquipped Go.Proofs.Ytkooomnoofnfpaa.SpareIFnEquipped Go.Proofs.Ytkooomnoofnfpaa.DrawFnEquipped Go.Proofs.Ytkooomnoofnfpaa.DrawStockFnEquipped Go.Proofs.Ytkooomnoofnfpaa.DrawNeedsFnEquipped

theorem has_ev (l : List Int) (hl : l.length ≤ 140737488351232) (x : Int) : Ev (fun k => laws_has.f k l x) (decide (x ∈ l)) := by
  unfold laws_has.f
  have key : ∀ (d i : Nat), i + d = l.length → Ev (fun k => laws_has.l0 k x l (l.length : Int) (i : Int)) (decide (x ∈ l.drop i)) := by
    intro d
    induction d with
    | zero =>
      intro i hi
      rw [List.drop_eq_nil_of_le (by omega)]
      exact Ev.step (f := fun _ => some false) (fun k => by simp only [laws_has.l0]; rw [if_neg (by omega)]) (by simpa using Ev.now false)
    | succ d ih =>
      intro i hi
      have hlt : i < l.length := by omega
      have ih' := ih (i + 1) (by omega)
      rw [show ((i + 1 : Nat) : Int) = (i : Int) + 1 by omega] at ih'
      rw [drop_cons l i hlt]
      refine Ev.step (fun k => by simp only [laws_has.l0]; rw [if_pos (by omega), if_pos (by omega), if_pos (by omega), rd_int l i hlt, wrap_id (by omega) (by omega)]) ?_
      by_cases c : l[i] = x
      · simp only [if_pos c, ev_some]
        simp [c]
      · simp only [if_neg c]
        have e : decide (x ∈ l[i] :: l.drop (i + 1)) = decide (x ∈ l.drop (i + 1)) := decide_eq_decide.2 (by simp only [List.mem_cons]; exact ⟨fun h => h.resolve_left (fun h => c h.symm), .inr⟩)
        rw [e]
        exact ih'
  have := key l.length 0 (by omega)
  simpa using this

/-- How many needs are as great: then the test. -/
theorem count_loop (L : List It) (ns : List Int) (day : Int) (u : List Int) (i : Nat) (n0 : Int) (T : Nat) (hwi : wrap64 ((i : Int) + 1) = ((i + 1 : Nat) : Int)) (hnl : ns.length ≤ 3)
    (hnext : T ≤ u.length → Ev (fun k => laws_FnEquipped.l0 k L ns day [] ns (ns.length : Int) ((i + 1 : Nat) : Int)) true) : ∀ (d j b : Nat), j + d = ns.length → b ≤ j → b + dem (ns.drop j) n0 = T →
    Ev (fun k => laws_FnEquipped.l1 k L ns day [] n0 u (b : Int) ns (ns.length : Int) (i : Int) ns (ns.length : Int) (j : Int)) true := by
  intro d
  induction d with
  | zero =>
    intro j b hj hb he
    rw [List.drop_eq_nil_of_le (by omega)] at he
    have e0 : dem [] n0 = 0 := rfl
    rw [e0, Nat.add_zero] at he
    have g3 : ¬ (j : Int) < (ns.length : Int) := by omega
    refine Ev.step (fun k => by simp only [laws_FnEquipped.l1, if_neg g3] <;> rfl) ?_
    by_cases c : (u.length : Int) < (b : Int)
    · simp only [if_pos c, ev_some]
      rfl
    · simp only [if_neg c, hwi]
      exact hnext (by omega)
  | succ d ih =>
    intro j b hj hb he
    have hlt : j < ns.length := by omega
    have hwj : wrap64 ((j : Int) + 1) = ((j + 1 : Nat) : Int) := by rw [wrap_id (by omega) (by omega)]; omega
    have hwb : wrap64 ((b : Int) + 1) = ((b + 1 : Nat) : Int) := by rw [wrap_id (by omega) (by omega)]; omega
    rw [drop_cons ns j hlt, dem_cons] at he
    have g3 : (j : Int) < (ns.length : Int) := by omega
    have g4 : (0 : Int) ≤ (j : Int) := by omega
    refine Ev.step (fun k => by simp only [laws_FnEquipped.l1, if_pos g3, if_pos g4, rd_int ns j hlt] <;> rfl) ?_
    by_cases c : n0 ≤ ns[j]
    · rw [if_pos c] at he
      simp only [if_pos (show ns[j] ≥ n0 from c), hwj, hwb]
      exact ih (j + 1) (b + 1) (by omega) (by omega) (by omega)
    · rw [if_neg c] at he
      simp only [if_neg (show ¬ ns[j] ≥ n0 from c), hwj]
      exact ih (j + 1) b (by omega) (by omega) (by omega)

section
variable (L : List It) (hsz : ∀ x ∈ L, x.f0.size ≤ 140737488351232) (hlen : L.length ≤ 5) (hst : stockB L = true) (ns : List Int) (hnl : ns.length ≤ 3) (day : Int)

include hst hsz hlen hnl in
/-- Where the needs can't all be served, one need shows it. -/
theorem not_enough (hen : enoughB L.length (us L day) (fun _ => false) ns = false) : ∀ (d i : Nat), i + d = ns.length → (∀ j (h : j < ns.length), j < i → dem ns ns[j] ≤ cnt L.length (fun _ => false) (us L day ns[j])) →
    Ev (fun k => laws_FnEquipped.l0 k L ns day [] ns (ns.length : Int) (i : Int)) true := by
  intro d
  induction d with
  | zero =>
    intro i hi hall
    exfalso
    have : enoughB L.length (us L day) (fun _ => false) ns = true := by
      refine List.all_eq_true.2 fun n hn => ?_
      obtain ⟨j, h, rfl⟩ := List.getElem_of_mem hn
      exact decide_eq_true (hall j h (by omega))
    rw [this] at hen
    cases hen
  | succ d ih =>
    intro i hi hall
    have hlt : i < ns.length := by omega
    have hwi : wrap64 ((i : Int) + 1) = ((i + 1 : Nat) : Int) := by rw [wrap_id (by omega) (by omega)]; omega
    have g1 : (i : Int) < (ns.length : Int) := by omega
    have g2 : (0 : Int) ≤ (i : Int) := by omega
    refine Ev.step (fun k => by simp only [laws_FnEquipped.l0, if_pos g1, if_pos g2, rd_int ns i hlt] <;> rfl) ?_
    have hu := usable_ev L hsz (by omega) ns[i] day
    rw [hst] at hu
    simp only [if_true] at hu
    rw [bind_eq hu]
    have hc := places_cnt (fun _ => false) (us L day ns[i]) L.length 0
    have e : (fun j => !(fun _ => false) j && us L day ns[i] j) = us L day ns[i] := by
      funext j
      simp
    rw [e] at hc
    have hul : (placesB (us L day ns[i]) L.length 0).length = cnt L.length (fun _ => false) (us L day ns[i]) := by
      have e0 : cnt 0 (fun _ => false) (us L day ns[i]) = 0 := rfl
      rw [e0, Nat.zero_add] at hc
      exact hc
    generalize placesB (us L day ns[i]) L.length 0 = u at hul
    refine count_loop L ns day u i ns[i] (dem ns ns[i]) hwi (by omega) (fun hle => ?_) ns.length 0 0 (by omega) (by omega) (by rw [List.drop_zero, Nat.zero_add])
    refine ih (i + 1) (by omega) (fun j' h hj' => ?_)
    by_cases ej : j' = i
    · subst ej
      rw [← hul]
      exact hle
    · exact hall j' h (by omega)

include hst hsz hlen in
/-- The first expiry of a choice in time is no earlier than the day. -/
theorem expiry_ev (c : List Int) (hc : c.length ≤ 3) (hin : ∀ x ∈ c, ∃ j : Nat, x = (j : Int) ∧ ∃ h : j < L.length, day ≤ L[j].f2) (hd : day ≤ 10001) : ∃ r, Ev (fun k => impl_FirstExpiry.f k L c) r ∧ day ≤ r := by
  unfold impl_FirstExpiry.f
  have key : ∀ (d i : Nat), i + d = c.length → ∀ m : Int, day ≤ m → ∃ r, Ev (fun k => impl_FirstExpiry.l0 k L m c (c.length : Int) (i : Int)) r ∧ day ≤ r := by
    intro d
    induction d with
    | zero =>
      intro i hi m hm
      exact ⟨m, Ev.step (f := fun _ => some m) (fun k => by simp only [impl_FirstExpiry.l0]; rw [if_neg (by omega)]) (Ev.now _), hm⟩
    | succ d ih =>
      intro i hi m hm
      have hlt : i < c.length := by omega
      obtain ⟨j, hj, hjl, hjd⟩ := hin c[i] (List.getElem_mem hlt)
      have hwi : wrap64 ((i : Int) + 1) = ((i + 1 : Nat) : Int) := by rw [wrap_id (by omega) (by omega)]; omega
      obtain ⟨r, h1, h2⟩ := ih (i + 1) (by omega) (mn m L[j].f2) (by unfold mn; split <;> omega)
      refine ⟨r, ?_, h2⟩
      refine Ev.step (fun k => by simp only [impl_FirstExpiry.l0]; rw [if_pos (by omega), if_pos (by omega), if_pos (by omega), rd_int c i hlt, hj, if_neg (by omega), if_neg (by omega), if_pos (by omega), if_pos (by omega), rd_nat L j hjl, hwi]) ?_
      exact h1
  obtain ⟨r, h1, h2⟩ := key c.length 0 (by omega) 10001 hd
  refine ⟨r, ?_, h2⟩
  have hs := impl_stock L hsz (by omega)
  rw [hst] at hs
  simp only [bind_eq hs, if_true]
  exact h1

include hst hsz hlen hnl in
/-- Where they can, the choice is fine. -/
theorem fine_choice (hen : enoughB L.length (us L day) (fun _ => false) ns = true) (hd : day ≤ 10001) (xs : List Nat) (hxs : xs = choice L.length (us L day) (fun _ => false) ns) (ys : List Int) (hys : ys = xs.map (fun n : Nat => (n : Int))) :
    ∀ (d i : Nat), i + d = ys.length → Ev (fun k => laws_FnEquipped.l2 k L ns day ys ys (ys.length : Int) (i : Int)) true := by
  obtain ⟨p1, p2, p3⟩ := choice_props hen
  have p0 := choice_length hen
  rw [← hxs] at p0 p1 p2 p3
  have hyl : ys.length = xs.length := by rw [hys, List.length_map]
  have hy : ∀ (i : Nat) (h : i < ys.length), ys[i] = ((xs[i]'(by omega) : Nat) : Int) := by
    intro i h
    subst hys
    simp
  have hus : ∀ (i : Nat) (h : i < xs.length) (h' : i < ns.length), us L day ns[i] xs[i] = true := fun i h h' => p3 i _ _ (List.getElem?_eq_getElem h) (List.getElem?_eq_getElem h')
  have hmem : ∀ y ∈ ys, ∃ j : Nat, y = (j : Int) ∧ ∃ h : j < L.length, day ≤ L[j].f2 := by
    intro y hyy
    obtain ⟨i, h, rfl⟩ := List.getElem_of_mem hyy
    have hl := (p2 _ (List.getElem_mem (show i < xs.length by omega))).1
    refine ⟨xs[i]'(by omega), hy i h, hl, ?_⟩
    have := hus i (by omega) (by omega)
    rw [us_eq L day _ _ hl] at this
    exact (of_decide_eq_true this).2
  intro d
  induction d with
  | zero =>
    intro i hi
    have g1 : ¬ (i : Int) < (ys.length : Int) := by omega
    refine Ev.step (fun k => by simp only [laws_FnEquipped.l2, if_neg g1] <;> rfl) ?_
    have hsp := spareI_ev L hsz (by omega) ys (by omega)
    rw [hst] at hsp
    simp only [if_true] at hsp
    have hcount : (placesB (fun i => !decide ((i : Int) ∈ ys)) L.length 0).length + ys.length = L.length := by
      have h1 := places_cnt (fun i => decide ((i : Int) ∈ ys)) (fun _ => true) L.length 0
      have h2 := cnt_list p1 (fun x hx => (p2 x hx).1)
      have e : (fun i => decide (i ∈ xs)) = fun i : Nat => decide ((i : Int) ∈ ys) := by
        funext i
        refine decide_eq_decide.2 ?_
        rw [hys, List.mem_map]
        exact ⟨fun h => ⟨i, h, rfl⟩, fun ⟨j, h, he⟩ => by
          have : j = i := by omega
          exact this ▸ h⟩
      have e0 : cnt 0 (fun i => decide ((i : Int) ∈ ys)) (fun _ => true) = 0 := rfl
      have e1 : (fun j => !(fun i : Nat => decide ((i : Int) ∈ ys)) j && (fun _ => true) j) = fun i : Nat => !decide ((i : Int) ∈ ys) := by
        funext j
        simp
      rw [e1, e0, Nat.zero_add] at h1
      rw [e] at h2
      omega
    have hpl := places_length (fun i => !decide ((i : Int) ∈ ys)) L.length 0
    generalize placesB (fun i => !decide ((i : Int) ∈ ys)) L.length 0 = u at hsp hcount hpl
    rw [bind_eq hsp]
    obtain ⟨r, h1, h2⟩ := expiry_ev L hsz hlen hst day ys (by omega) hmem hd
    simp only [wrap_id (show -9223372036854775808 ≤ (u.length : Int) + (ys.length : Int) by omega) (by omega), if_pos (show (u.length : Int) + (ys.length : Int) = (L.length : Int) by omega)]
    rw [bind_eq h1, ev_some]
    exact decide_eq_true h2
  | succ d ih =>
    intro i hi
    have hlt : i < ys.length := by omega
    have hwi : wrap64 ((i : Int) + 1) = ((i + 1 : Nat) : Int) := by rw [wrap_id (by omega) (by omega)]; omega
    obtain ⟨j, hj, hjl, _⟩ := hmem ys[i] (List.getElem_mem hlt)
    have hxj : xs[i]'(by omega) = j := by
      have := hy i hlt
      omega
    have hju := hus i (by omega) (by omega)
    rw [hxj] at hju
    have hdis : ¬ (j : Int) ∈ ys.take i := by
      intro hm
      obtain ⟨q, hq, he⟩ := List.getElem_of_mem hm
      have hql : q < i := by
        rw [List.length_take] at hq
        omega
      rw [List.getElem_take, hy q (by omega)] at he
      have he' : xs[q]'(by omega) = xs[i]'(by omega) := by omega
      exact (List.pairwise_iff_getElem.1 p1) q i (by omega) (by omega) hql he'
    have hu := usable_ev L hsz (by omega) ns[i] day
    rw [hst] at hu
    simp only [if_true] at hu
    have hum : (j : Int) ∈ placesB (us L day ns[i]) L.length 0 := mem_places.2 ⟨j, by omega, by omega, hju, rfl⟩
    have hul := places_length (us L day ns[i]) L.length 0
    generalize placesB (us L day ns[i]) L.length 0 = u at hu hum hul
    have htk : (ys.take i).length ≤ ys.length := by rw [List.length_take]; omega
    have hitem := impl_item L[j] (hsz _ (List.getElem_mem hjl))
    have hitb : itemB L[j] = true := by
      simp only [stockB, Bool.and_eq_true, decide_eq_true_eq] at hst
      have := (allUp_iff _ _ _).1 hst.2 j (by omega) (by omega)
      rw [okAt_eq L j hjl, Bool.and_eq_true] at this
      exact this.1
    rw [hitb] at hitem
    have g1 : (i : Int) < (ys.length : Int) := by omega
    have g2 : (0 : Int) ≤ (i : Int) := by omega
    have g3 : ¬ (j : Int) < 0 := by omega
    have g4 : ¬ (j : Int) ≥ (L.length : Int) := by omega
    have g5 : (i : Int) ≤ (ys.length : Int) := by omega
    refine Ev.step (fun k => by simp only [laws_FnEquipped.l2, if_pos g1, if_pos g2, rd_int ys i hlt, hj, if_neg g3, if_neg g4, if_pos g5] <;> rfl) ?_
    simp only [Int.toNat_natCast]
    rw [bind_eq (has_ev (ys.take i) (by omega) (j : Int)), decide_eq_false hdis]
    simp only [Bool.false_eq_true, if_false, if_pos (show (i : Int) < (ns.length : Int) by omega), rd_int ns i (show i < ns.length by omega)]
    rw [bind_eq hu, bind_eq (has_ev u (by omega) (j : Int)), decide_eq_true hum]
    simp only [if_true, if_pos (show (0 : Int) ≤ (j : Int) by omega), if_pos (show (j : Int) < (L.length : Int) by omega), rd_nat L j hjl]
    rw [bind_eq hitem]
    simp only [if_true, hwi]
    exact ih (i + 1) (by omega)
end

theorem FnEquipped (c : List Int) (ok : (∀ x ∈ c, (Lit.int .u8 x).wf = true) ∧ c.length * 1 ≤ 140737488351232 ∧ c.length ≤ maxLen) : ∃ k, laws_FnEquipped.f k c = some true := by
  have hc := ok.2.1
  have hl : c.length ≤ 140737488351232 := by omega
  refine Ev.rounds (g := fun k => laws_FnEquipped.f k c) ?_
  unfold laws_FnEquipped.f
  by_cases c0 : (c.length : Int) > 1048576
  · simp only [if_pos c0, ev_some]
  · simp only [if_neg c0]
    obtain ⟨L, hL, hst, hlen, hsz⟩ := make_stock c hl
    obtain ⟨ns, hns, hnl, _⟩ := make_needs c hl 40 (by omega)
    obtain ⟨r, hr, hr0, _⟩ := make_num c hl 50 (by omega)
    have hday : Int.tmod r 5 ≤ 10001 := by
      have := Int.tmod_lt_of_pos r (show (0 : Int) < 5 by omega)
      omega
    have hns' : Ev (fun k => spec_MakeNeeds.f k c 40) ns := hns
    have hr' : Ev (fun k => spec_MakeNum.f k c 50) r := hr
    have hLl : L.length ≤ 140737488351232 := by omega
    rw [bind_eq hL]
    simp only [bind_eq hns', bind_eq hr']
    generalize Int.tmod r 5 = day at hday
    rw [bind_eq (equip_ev L hsz hLl ns day)]
    have hcan := can_ev L hsz hLl ns day
    have hstk := impl_stock L hsz hLl
    rw [hst] at hstk
    simp only [bind_eq hcan]
    have hn12 : decide (ns.length ≤ 12) = true := decide_eq_true (by omega)
    have hce : canB L ns day = enoughB L.length (us L day) (fun _ => false) ns := by
      unfold canB
      rw [hst, hn12]
      simp
    cases hcn : canB L ns day with
    | false =>
      simp only [Bool.false_eq_true, if_false, bne_self_eq_false, bind_eq hstk, Bool.not_true]
      refine Ev.step (fun k => by simp only [laws_FnEquipped.j0, Bool.false_eq_true, if_false] <;> rfl) ?_
      exact not_enough L hsz hlen hst ns hnl day (by rw [← hce]; exact hcn) ns.length 0 (by omega) (fun j h hj => by omega)
    | true =>
      have hen : enoughB L.length (us L day) (fun _ => false) ns = true := by rw [← hce]; exact hcn
      have p0 := choice_length hen
      simp only [if_true, bne_self_eq_false, Bool.false_eq_true, if_false, bind_eq hstk, Bool.not_true]
      generalize hys : (choice L.length (us L day) (fun _ => false) ns).map (fun n : Nat => (n : Int)) = ys
      have hyl : (ys.length : Int) = (ns.length : Int) := by rw [← hys, List.length_map, p0]
      refine Ev.step (fun k => by simp only [laws_FnEquipped.j0, Bool.false_eq_true, if_false, if_true, if_pos hyl] <;> rfl) ?_
      exact fine_choice L hsz hlen hst ns hnl day hen hday _ rfl ys hys.symm ys.length 0 (by omega)

end Go.Proofs.Ytkooomnoofnfpaa.Pure
