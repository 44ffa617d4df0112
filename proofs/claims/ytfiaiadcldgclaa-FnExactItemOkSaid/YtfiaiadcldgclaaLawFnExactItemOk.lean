import Derived.Test.YtfiaiadcldgclaaRows
import Derived.Test.YtfiaiadcldgclaaPFnExactItemOkx
import Derived.Test.YtfiaiadcldgclaaPureFnExactItemOk
import Derived.Test.YtfiaiadcldgclaaOpen
import Derived.WalkKit
import Derived.ProofKit
import Derived.OpenShut
import Derived.ShutString
import Derived.ChangeOld
import Derived.Below
import Derived.SizedLaws
namespace Go.Proofs.Ytfiaiadcldgclaa.fnExactItemOk
open Go.ChangeShapes Go.WideShapes Go.ChangeAt Go.RowKit Go.Proofs.YtfiaiadcldgclaaW.PrintWords Go.Proofs.Ytfiaiadcldgclaa.Open Go.Proofs.Ytfiaiadcldgclaa.PFnExactItemOk
open Go.ChangeMaps (open_string shut_string)
set_option linter.unusedVariables false
theorem own : ownKnob Try.prog.godebug = none := by kernel_rfl
theorem laidOut : laidOutB Try.prog = true := by kernel_rfl
theorem op31_ : Opens Try.prog 31 (Kd.pair Kd.string (Kd.pair (Kd.int .i64) (Kd.int .i64))) (fun x => (fun s => s.size ≤ 140737488351232) x.1 ∧ (fun x => (fun n => (Lit.int .i64 n).wf = true) x.1 ∧ (fun n => (Lit.int .i64 n).wf = true) x.2) x.2) := opens_struct Try.underlying31 (opensF_cons rfl rfl (opens_string Try.underlying9) (by kernel_rfl) (opensF_cons rfl rfl (opens_int Try.underlying3) (by kernel_rfl) (opensF_one rfl rfl (opens_int Try.underlying3) (by kernel_rfl)) (by rfl)) (by rfl)) (by kernel_rfl)
set_option maxRecDepth 100000 in
theorem lifted (os : Os) (started : os.Started) (H : Type) (enc : TypeId × Value → H) :
    ReturnsInHanded {} Try.checked os 5 .any (Rows.fnExactItemOkSpec.pre6 enc Try.prog Try.f5 Rows.fnExactItemOkRow.domain false) (Rows.fnExactItemOkSpec.post enc Try.prog Try.f5 false true false false) := by
  refine returnsInHanded_of_change_sized (C := Try.checked) own started (by kernel_rfl) Try.func5
    (ChangeSpec.witness6 (enc := enc) (C := Try.checked) false ⟨#[], #[.agg #[.string ByteArray.empty, .int .i64 0, .int .i64 0]], []⟩ 8 (by kernel_rfl) (by kernel_rfl) (by kernel_rfl) (by kernel_rfl)) ?_
  intro W base args ds gs before hval0 hW hcnd hsz0 _
  have hsz : (DataW.weightsEach Try.prog (Try.f5.params.toList ++ Rows.fnExactItemOkSpec.plain.varTypes Try.prog) (ds ++ gs)).all (· ≤ reachBytes) = true := hsz0
  have hval : ∀ (j : Nat) t v, Try.f5.params[j]? = some t → args[j]? = some v → Value.okWide Try.prog W .any base t v := hval0
  have hW' := hW
  obtain ⟨p, q, hA0, hV, rfl, hfz, hnd⟩ := hW
  have hA : DataW.TrodAll enc Try.prog W 0 (fun _ => true) true Try.f5.params.toList args.toList ds p := hA0
  rw [Try.params5] at hA hval hsz
  obtain ⟨v0, vs0, d0, ds0, p0, q0, hargs, rfl, rfl, h0, r0⟩ := trodAll_cons hA
  obtain ⟨rfl, rfl, rfl⟩ := trodAll_nil r0
  obtain rfl : args = #[v0] := by cases args; simp_all
  obtain ⟨rfl, rfl⟩ := trodVars_none hV
  have k0_ := h0
  have lt0 : ∀ x ∈ p0, x.block < W.heap.size := by obtain ⟨m, hm⟩ := k0_; exact DataW.trod_lt m _ _ _ hm
  obtain ⟨cs0, rfl, _⟩ := okWide_struct Try.underlying31 (hval 0 31 v0 rfl rfl)
  obtain ⟨x0, K0, ok0⟩ := opens_param op31_ h0 hsz (j := 0) rfl rfl
  obtain ⟨a0_0, a0_1, a0_2⟩ := x0
  have e0 : cs0.toList = [.string a0_0, .int .i64 a0_1, .int .i64 a0_2] := by
    have K := K0
    simp only [Value.cells] at K
    obtain ⟨_, _, K, rfl, K2⟩ := K; obtain ⟨_, _, rfl, rfl, K2⟩ := K2; obtain rfl := K2
    simpa using K
  rw [agg_of e0] at *
  clear hA0 hval0 hsz0 hsz
  have hP := Pure.FnExactItemOk a0_0 a0_1 a0_2 ok0
  obtain ⟨k, hP⟩ := hP
  refine (PFnExactItemOk.laws_FnExactItemOk.calls k a0_0 a0_1 a0_2 true W  hP).mono fun e W' ⟨he, bel0⟩ => ?_
  have bel : Below W.heap.size W W' := bel0
  subst he
  exact ⟨_, rfl, _, _, _, [], _, [], hW', trodAll_mk1 (shut_bool Try.underlying4 _), (trodAll_cons_mk (Below.trod laidOut (by kernel_rfl) (of_decide_eq_true (by kernel_rfl)) k0_ bel lt0) trodAll_mk0), rfl, bel.frame _, fun h => by cases h⟩
theorem over : Rows.fnExactItemOkRow.holds Try.pinned (OpenSpec.ofChange Rows.fnExactItemOkSpec) :=
  OpenClaim.holds_of_wide 5 Try.f5 rfl rfl rfl rfl rfl rfl rfl ⟨rfl, rfl, rfl, rfl, rfl⟩ rfl rfl rfl rfl rfl (by kernel_rfl) Try.func5 (by kernel_rfl)
    (of_decide_eq_true (by kernel_rfl)) (by unfold Func.isWrapper; first | (rw [if_pos (by decide +kernel)]; kernel_rfl) | (rw [if_neg (by decide +kernel)]; exact ⟨rfl, rfl⟩))
    (fun os started H enc _ => lifted os started H enc)
theorem proved : Rows.FnExactItemOkSaid := over
end Go.Proofs.Ytfiaiadcldgclaa.fnExactItemOk
namespace Go.Proofs.Ytfiaiadcldgclaa
/-- The row, under a short name, for the claim. -/
theorem fnExactItemOk_holds : Rows.FnExactItemOkSaid := fnExactItemOk.proved
end Go.Proofs.Ytfiaiadcldgclaa
