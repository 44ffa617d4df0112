/-
  The reference's StructureOk tells what a structure is.
  Conditions: none.
-/
import Derived.Test.YtkooomnoofnfpaaStructDFnExactFormatMember
import Derived.Test.YtkooomnoofnfpaaNameSFnExactFormatMember
namespace Go.Proofs.Ytkooomnoofnfpaa.StructSFnExactFormatMember
set_option linter.unusedSimpArgs false
set_option linter.unusedVariables false
open Go.RowKit Go.Proofs.YtkooomnoofnfpaaW.PrintWords Go.Proofs.YtkooomnoofnfpaaW.PrintLast Go.Proofs.YtkooomnoofnfpaaW.PrintMore Go.Proofs.Ytkooomnoofnfpaa.EvW Go.Proofs.Ytkooomnoofnfpaa.PFnExactFormatMember Go.Proofs.Ytkooomnoofnfpaa.NameB Go.Proofs.Ytkooomnoofnfpaa.StockB Go.Proofs.Ytkooomnoofnfpaa.StructDFnExactFormatMember Go.Proofs.Ytkooomnoofnfpaa.NameSFnExactFormatMember

theorem spec_joint (x : Jt) (hs : x.f0.size ≤ 140737488351232) : Ev (fun k => spec_JointOk.f k x.f0 x.f1 x.f2 x.f3) (jointB x) := by
  simp only [spec_JointOk.f, bind_eq (spec_name x.f0 hs), l01In_eq, Option.bind_some, decide_eq_true_eq, ite_and, ge_iff_le, jointB]
  cases nameB x.f0 <;> simp [ev_some]

theorem spec_jointNamed (l : List Jt) (m : List Mb) (a : ByteArray) (hl : l.length ≤ 140737488351232) : Ev (fun k => spec_JointNamed.f k l m a) (idxOf (fun y : Jt => y.f0.toList == a.toList) l 0) := by
  unfold spec_JointNamed.f
  have key : ∀ (d i : Nat), i + d = l.length → Ev (fun k => spec_JointNamed.l0 k a l (l.length : Int) (i : Int)) (idxOf (fun y : Jt => y.f0.toList == a.toList) (l.drop i) (i : Int)) := by
    intro d
    induction d with
    | zero =>
      intro i hi
      rw [List.drop_eq_nil_of_le (by omega)]
      exact Ev.step (fun k => by simp only [spec_JointNamed.l0]; rw [if_neg (by omega)]; rfl) (Ev.now _)
    | succ d ih =>
      intro i hi
      have hlt : i < l.length := by omega
      have hy := ih (i + 1) (by omega)
      rw [show ((i + 1 : Nat) : Int) = (i : Int) + 1 by omega] at hy
      rw [drop_cons _ i hlt, idxOf]
      refine Ev.step (fun k => by simp only [spec_JointNamed.l0]; rw [if_pos (by omega), if_pos (by omega), if_pos (by omega), rdj_nat l i hlt, wrap_id (by omega) (by omega)]) ?_
      by_cases e : l[i].f0.toList = a.toList
      · simp only [if_pos e, ev_some]
        simp [e]
      · simp only [if_neg e]
        rw [if_neg (by simpa using e)]
        exact hy
  have := key l.length 0 (by omega)
  rwa [List.drop_zero] at this

theorem spec_member (l : List Jt) (m x45 : List Mb) (n x46 i : Int) (y : Mb) (r : Bool) (hl : l.length ≤ 6) (hn : n = (l.length : Int) - 1) :
    (memOk l y.f0 y.f1 y.f2 = false → r = false) → (memOk l y.f0 y.f1 y.f2 = true → Ev (fun k => spec_StructureOk.l1 k n x45 x46 (wrap64 (i + 1)) l m) r) →
    Ev (fun k => (spec_l01In.f y.f0 0 n).bind fun t122 => (if t122 = true then ((spec_l01In.f y.f1 0 n).bind fun t123 => (if t123 = true then ((spec_l01In.f y.f2 1 3).bind fun t124 => (spec_StructureOk.j3 k n x45 x46 i (!t124) l m y.f0 y.f1 y.f2)) else (spec_StructureOk.j3 k n x45 x46 i true l m y.f0 y.f1 y.f2))) else (spec_StructureOk.j3 k n x45 x46 i true l m y.f0 y.f1 y.f2))) r := by
  intro h0 h1
  subst hn
  have bad : memOk l y.f0 y.f1 y.f2 = false → Ev (fun k => spec_StructureOk.j3 k ((l.length : Int) - 1) x45 x46 i true l m y.f0 y.f1 y.f2) r := fun h => by
    rw [h0 h]
    exact Ev.step (fun k => by simp only [spec_StructureOk.j3, if_true]) (Ev.now _)
  simp only [l01In_eq, Option.bind_some, decide_eq_true_eq]
  by_cases c1 : ¬ (0 ≤ y.f0 ∧ y.f0 ≤ (l.length : Int) - 1)
  · simp only [if_neg c1]
    refine bad ?_
    unfold memOk
    by_cases q1 : y.f0 < 0
    · rw [if_pos q1]
    rw [if_neg q1, if_pos (by omega)]
  replace c1 := Decidable.not_not.1 c1
  by_cases c2 : ¬ (0 ≤ y.f1 ∧ y.f1 ≤ (l.length : Int) - 1)
  · simp only [if_pos c1, if_neg c2]
    refine bad ?_
    unfold memOk
    rw [if_neg (by omega), if_neg (by omega)]
    by_cases q1 : y.f1 < 0
    · rw [if_pos q1]
    rw [if_neg q1, if_pos (by omega)]
  replace c2 := Decidable.not_not.1 c2
  simp only [if_pos c1, if_pos c2]
  by_cases c3 : ¬ (1 ≤ y.f2 ∧ y.f2 ≤ 3)
  · rw [decide_eq_false c3]
    refine bad ?_
    unfold memOk
    rw [if_neg (by omega), if_neg (by omega), if_neg (by omega), if_neg (by omega)]
    by_cases q1 : y.f2 < 1
    · rw [if_pos q1]
    rw [if_neg q1, if_pos (by omega)]
  replace c3 := Decidable.not_not.1 c3
  rw [decide_eq_true c3]
  have e : memOk l y.f0 y.f1 y.f2 = (((rd_T111 l y.f0).f1 != (rd_T111 l y.f1).f1 || (rd_T111 l y.f0).f2 != (rd_T111 l y.f1).f2) && !((rd_T111 l y.f0).f3 && (rd_T111 l y.f1).f3)) := by
    unfold memOk
    rw [if_neg (by omega), if_neg (by omega), if_neg (by omega), if_neg (by omega), if_neg (by omega), if_neg (by omega)]
  rw [e] at h0 h1
  clear e bad
  have g1 : 0 ≤ y.f0 := c1.1
  have g2 : y.f0 < (l.length : Int) := by omega
  have g3 : 0 ≤ y.f1 := c2.1
  have g4 : y.f1 < (l.length : Int) := by omega
  refine Ev.step (f := fun k => if (((rd_T111 l y.f0).f1 != (rd_T111 l y.f1).f1 || (rd_T111 l y.f0).f2 != (rd_T111 l y.f1).f2) && !((rd_T111 l y.f0).f3 && (rd_T111 l y.f1).f3)) = true then spec_StructureOk.l1 k ((l.length : Int) - 1) x45 x46 (wrap64 (i + 1)) l m else some false) (fun k => ?_) ?_
  · simp only [spec_StructureOk.j3, if_pos g1, if_pos g2, if_pos g3, if_pos g4]
    generalize rd_T111 l y.f0 = a
    generalize rd_T111 l y.f1 = b
    generalize spec_StructureOk.l1 k ((l.length : Int) - 1) x45 x46 (wrap64 (i + 1)) l m = q
    by_cases e1 : a.f1 = b.f1 <;> by_cases e2 : a.f2 = b.f2 <;> cases ha : a.f3 <;> cases hb : b.f3 <;> simp [e1, e2]
  · by_cases q : (((rd_T111 l y.f0).f1 != (rd_T111 l y.f1).f1 || (rd_T111 l y.f0).f2 != (rd_T111 l y.f1).f2) && !((rd_T111 l y.f0).f3 && (rd_T111 l y.f1).f3)) = true
    · simp only [if_pos q]
      exact h1 q
    · simp only [if_neg q, ev_some]
      exact (h0 (by simpa using q)).symm

theorem spec_members (l : List Jt) (m : List Mb) (hl : l.length ≤ 6) (hm : m.length ≤ 8) : ∀ (d i : Nat), i + d = m.length → Ev (fun k => spec_StructureOk.l1 k ((l.length : Int) - 1) m (m.length : Int) (i : Int) l m) ((m.drop i).all (fun y => memOk l y.f0 y.f1 y.f2)) := by
  intro d
  induction d with
  | zero =>
    intro i hi
    rw [List.drop_eq_nil_of_le (by omega)]
    exact Ev.step (fun k => by simp only [spec_StructureOk.l1]; rw [if_neg (by omega)]; rfl) (Ev.now _)
  | succ d ih =>
    intro i hi
    have hlt : i < m.length := by omega
    have hy := ih (i + 1) (by omega)
    rw [drop_cons _ i hlt, List.all_cons]
    refine Ev.step (fun k => by simp only [spec_StructureOk.l1]; rw [if_pos (by omega), if_pos (by omega), if_pos (by omega), rdm_nat m i hlt]) ?_
    refine spec_member l m m _ _ _ m[i] _ hl rfl (fun h => by simp [h]) (fun h => ?_)
    rw [h, Bool.true_and, wrap_id (by omega) (by omega)]
    rw [show ((i + 1 : Nat) : Int) = (i : Int) + 1 by omega] at hy
    exact hy

theorem spec_struct (l : List Jt) (m : List Mb) (hs : ∀ x ∈ l, x.f0.size ≤ 140737488351232) : Ev (fun k => spec_StructureOk.f k l m) (structB l m) := by
  unfold spec_StructureOk.f structB
  by_cases c : (l.length : Int) > 6
  · simp only [if_pos c]
    have : ¬ l.length ≤ 6 := by omega
    simp only [this, decide_false, Bool.false_and]
    exact Ev.step (fun k => by simp only [spec_StructureOk.j0, if_true]) (Ev.now _)
  by_cases c2 : (m.length : Int) > 8
  · simp only [if_neg c, decide_eq_true c2]
    have : ¬ m.length ≤ 8 := by omega
    simp only [this, decide_false, Bool.false_and, Bool.and_false]
    exact Ev.step (fun k => by simp only [spec_StructureOk.j0, if_true]) (Ev.now _)
  simp only [if_neg c, decide_eq_false c2]
  have e : decide (l.length ≤ 6) = true := decide_eq_true (by omega)
  have e2 : decide (m.length ≤ 8) = true := decide_eq_true (by omega)
  rw [e, e2, Bool.true_and, Bool.true_and]
  refine Ev.step (f := fun k => spec_StructureOk.l0 k l (l.length : Int) 0 l m) (fun k => by simp only [spec_StructureOk.j0, Bool.false_eq_true, if_false]) ?_
  refine ev_allUp (fun k i => spec_StructureOk.l0 k l (l.length : Int) i l m) (okJ l) l.length _ ?_ ?_ ?_
  · intro i h r hp hr
    refine Ev.step (fun k => by simp only [spec_StructureOk.l0]; rw [if_pos (by omega), if_pos (by omega), if_pos (by omega), rdj_nat l i h]) ?_
    rw [okJ_eq l i h, Bool.and_eq_true] at hp
    rw [bind_eq (spec_joint l[i] (hs _ (List.getElem_mem h))), hp.1]
    simp only [if_true]
    rw [bind_eq (spec_jointNamed l m _ (by omega))]
    simp only [if_pos (of_decide_eq_true hp.2), wrap_id (show -9223372036854775808 ≤ (i : Int) + 1 by omega) (by omega)]
    exact hr
  · intro i h hp
    refine Ev.step (fun k => by simp only [spec_StructureOk.l0]; rw [if_pos (by omega), if_pos (by omega), if_pos (by omega), rdj_nat l i h]) ?_
    rw [okJ_eq l i h] at hp
    rw [bind_eq (spec_joint l[i] (hs _ (List.getElem_mem h)))]
    cases hi : jointB l[i] with
    | false => simp [ev_some]
    | true =>
      rw [hi, Bool.true_and] at hp
      simp only [if_true]
      rw [bind_eq (spec_jointNamed l m _ (by omega))]
      simp only [if_neg (of_decide_eq_false hp)]
      exact Ev.now _
  · have := spec_members l m (by omega) (by omega) m.length 0 (by omega)
    rw [List.drop_zero] at this
    refine Ev.step (fun k => by simp only [spec_StructureOk.l0]; rw [if_neg (by omega), wrap_id (by omega) (by omega)]) ?_
    exact this

end Go.Proofs.Ytkooomnoofnfpaa.StructSFnExactFormatMember
