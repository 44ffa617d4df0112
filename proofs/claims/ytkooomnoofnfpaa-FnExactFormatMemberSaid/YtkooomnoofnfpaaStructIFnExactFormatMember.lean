/-
  The program's StructureOk tells what a structure is.
  Conditions: none.
-/
import Derived.Test.YtkooomnoofnfpaaStructDFnExactFormatMember
import Derived.Test.YtkooomnoofnfpaaNameIFnExactFormatMember
namespace Go.Proofs.Ytkooomnoofnfpaa.StructIFnExactFormatMember
set_option linter.unusedSimpArgs false
set_option linter.unusedVariables false
open Go.RowKit Go.Proofs.YtkooomnoofnfpaaW.PrintWords Go.Proofs.YtkooomnoofnfpaaW.PrintLast Go.Proofs.YtkooomnoofnfpaaW.PrintMore Go.Proofs.Ytkooomnoofnfpaa.EvW Go.Proofs.Ytkooomnoofnfpaa.PFnExactFormatMember Go.Proofs.Ytkooomnoofnfpaa.NameB Go.Proofs.Ytkooomnoofnfpaa.StockB Go.Proofs.Ytkooomnoofnfpaa.StructDFnExactFormatMember Go.Proofs.Ytkooomnoofnfpaa.NameIFnExactFormatMember

theorem isPlace_eq (a : Int) : impl_isPlace.f a = some (decide (-50 ≤ a ∧ a ≤ 50)) := by
  simp only [impl_isPlace.f, ite_and, ge_iff_le]

theorem impl_joint (x : Jt) (hs : x.f0.size ≤ 140737488351232) : Ev (fun k => impl_JointOk.f k x.f0 x.f1 x.f2 x.f3) (jointB x) := by
  simp only [impl_JointOk.f, bind_eq (impl_name x.f0 hs), isPlace_eq, Option.bind_some, decide_eq_true_eq, ite_and, ge_iff_le, jointB]
  cases nameB x.f0 <;> simp [ev_some]

theorem impl_struct (l : List Jt) (m : List Mb) (hs : ∀ x ∈ l, x.f0.size ≤ 140737488351232) : Ev (fun k => impl_StructureOk.f k l m) (structB l m) := by
  unfold impl_StructureOk.f structB
  by_cases c : (l.length : Int) > 6
  · simp only [if_pos c, ev_some]
    have : ¬ l.length ≤ 6 := by omega
    simp [this]
  by_cases c2 : (m.length : Int) > 8
  · simp only [if_neg c, if_pos c2, ev_some]
    have : ¬ m.length ≤ 8 := by omega
    simp [this]
  simp only [if_neg c, if_neg c2]
  have e : decide (l.length ≤ 6) = true := decide_eq_true (by omega)
  have e2 : decide (m.length ≤ 8) = true := decide_eq_true (by omega)
  rw [e, e2, Bool.true_and, Bool.true_and]
  refine ev_allUp (fun k i => impl_StructureOk.l0 k l m i) (okJ l) l.length _ ?_ ?_ ?_
  · intro i h r hp hr
    refine Ev.step (fun k => by simp only [impl_StructureOk.l0]; rw [if_pos (by omega), rdj_nat l i h]) ?_
    rw [okJ_eq l i h, Bool.and_eq_true] at hp
    rw [bind_eq (impl_joint l[i] (hs _ (List.getElem_mem h))), hp.1]
    simp only [if_true]
    simp only [if_pos (of_decide_eq_true hp.2), wrap_id (show -9223372036854775808 ≤ (i : Int) + 1 by omega) (by omega)]
    exact hr
  · intro i h hp
    refine Ev.step (fun k => by simp only [impl_StructureOk.l0]; rw [if_pos (by omega), rdj_nat l i h]) ?_
    rw [okJ_eq l i h] at hp
    rw [bind_eq (impl_joint l[i] (hs _ (List.getElem_mem h)))]
    cases hi : jointB l[i] with
    | false => simp [ev_some]
    | true =>
      rw [hi, Bool.true_and] at hp
      simp only [if_true]
      simp only [if_neg (of_decide_eq_false hp)]
      exact Ev.now _
  · rw [← all_mem]
    exact Ev.step (fun k => by simp only [impl_StructureOk.l0]; rw [if_neg (by omega)]) (Ev.now _)

end Go.Proofs.Ytkooomnoofnfpaa.StructIFnExactFormatMember
