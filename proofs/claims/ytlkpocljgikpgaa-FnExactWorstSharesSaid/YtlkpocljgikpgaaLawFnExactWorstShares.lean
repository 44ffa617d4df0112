import Derived.Test.YtlkpocljgikpgaaRows
import Derived.Test.YtlkpocljgikpgaaPureFnExactWorstShares
import Derived.WalkKit
import Derived.ProofKit
import Derived.OpenShut
import Derived.ShutString
import Derived.ChangeOld
import Derived.Below
import Derived.SizedLaws
namespace Go.Proofs.Ytlkpocljgikpgaa.fnExactWorstShares
open Go.ChangeShapes Go.WideShapes Go.ChangeAt Go.RowKit Go.TV
open Go.ChangeMaps (open_string shut_string)
set_option linter.unusedVariables false
theorem own : ownKnob Try.prog.godebug = none := by kernel_rfl
theorem laidOut : laidOutB Try.prog = true := by kernel_rfl
set_option maxRecDepth 100000 in
theorem op46 : OpensV Try.prog 46 cBeam okBeam := opensV_iso (fun y : Beam => (y.left, y.right, y.low, y.high, y.weight)) (fun x => ⟨x.1, x.2.1, x.2.2.1, x.2.2.2.1, x.2.2.2.2⟩) (fun _ => rfl) (opensV_struct Try.underlying46 (opensVF_cons (off := 0) (sz := 1) (off' := 1) rfl rfl (opensV_int Try.underlying3) (by kernel_rfl) (opensVF_cons (off := 1) (sz := 1) (off' := 2) rfl rfl (opensV_int Try.underlying3) (by kernel_rfl) (opensVF_cons (off := 2) (sz := 1) (off' := 3) rfl rfl (opensV_int Try.underlying3) (by kernel_rfl) (opensVF_cons (off := 3) (sz := 1) (off' := 4) rfl rfl (opensV_int Try.underlying3) (by kernel_rfl) (opensVF_one (off := 4) (sz := 1) rfl rfl (opensV_int Try.underlying3) (by kernel_rfl)) (by rfl)) (by rfl)) (by rfl)) (by rfl)) (by kernel_rfl))
set_option maxRecDepth 100000 in
theorem lifted (os : Os) (started : os.Started) (H : Type) (enc : TypeId × Value → H) :
    ReturnsInHanded {} Try.checked os 6 .any (Rows.fnExactWorstSharesSpec.pre6 enc Try.prog Try.f6 Rows.fnExactWorstSharesRow.domain false) (Rows.fnExactWorstSharesSpec.post enc Try.prog Try.f6 false true false false) := by
  refine returnsInHanded_of_change_sized (C := Try.checked) own started (by kernel_rfl) Try.func6
    (ChangeSpec.witness6 (enc := enc) (C := Try.checked) false ⟨#[], #[.agg #[.int .i64 0, .int .i64 0, .int .i64 0, .int .i64 0, .int .i64 0]], []⟩ 8 (by kernel_rfl) (by kernel_rfl) (by kernel_rfl) (by kernel_rfl)) ?_
  intro W base args ds gs before hval0 hW hcnd hsz0 _
  have hsz : (DataW.weightsEach Try.prog (Try.f6.params.toList ++ Rows.fnExactWorstSharesSpec.plain.varTypes Try.prog) (ds ++ gs)).all (· ≤ reachBytes) = true := hsz0
  have hval : ∀ (j : Nat) t v, Try.f6.params[j]? = some t → args[j]? = some v → Value.okWide Try.prog W .any base t v := hval0
  have hW' := hW
  obtain ⟨p, q, hA0, hV, rfl, hfz, hnd⟩ := hW
  have hA : DataW.TrodAll enc Try.prog W 0 (fun _ => true) true Try.f6.params.toList args.toList ds p := hA0
  rw [Try.params6] at hA hval hsz
  obtain ⟨v0, vs0, d0, ds0, p0, q0, hargs, rfl, rfl, h0, r0⟩ := trodAll_cons hA
  obtain ⟨rfl, rfl, rfl⟩ := trodAll_nil r0
  obtain rfl : args = #[v0] := by cases args; simp_all
  obtain ⟨rfl, rfl⟩ := trodVars_none hV
  have k0_ := h0
  have lt0 : ∀ x ∈ p0, x.block < W.heap.size := by obtain ⟨m, hm⟩ := k0_; exact DataW.trod_lt m _ _ _ hm
  obtain ⟨x0, K0, ok0⟩ := opensV_param op46 h0 hsz (j := 0) rfl rfl
  obtain ⟨cs0, rfl, _⟩ := okWide_struct Try.underlying46 (hval 0 46 v0 rfl rfl)
  clear hA0 hval0 hsz0 hsz
  have hP := Pure.FnExactWorstShares x0 ok0
  have hv : VRs (TV.start W) [.agg (cBeam x0)] [Value.agg cs0] := by unfold VRs; exact ⟨_, _, rfl, VR_aggv K0, by unfold VRs; rfl⟩
  refine (calls_of_fn (by kernel_rfl) extMOk hv hP).mono fun e W' ⟨he, bel⟩ => ?_
  subst he
  exact ⟨_, rfl, _, _, _, [], _, [], hW', trodAll_mk1 (shut_bool Try.underlying4 _), (trodAll_cons_mk (Below.trod laidOut (by kernel_rfl) (of_decide_eq_true (by kernel_rfl)) k0_ bel lt0) trodAll_mk0), rfl, bel.frame _, fun h => by cases h⟩
theorem over : Rows.fnExactWorstSharesRow.holds Try.pinned (OpenSpec.ofChange Rows.fnExactWorstSharesSpec) :=
  OpenClaim.holds_of_wide 6 Try.f6 rfl rfl rfl rfl rfl rfl rfl ⟨rfl, rfl, rfl, rfl, rfl⟩ rfl rfl rfl rfl rfl (by kernel_rfl) Try.func6 (by kernel_rfl)
    (of_decide_eq_true (by kernel_rfl)) (by unfold Func.isWrapper; first | (rw [if_pos (by decide +kernel)]; kernel_rfl) | (rw [if_neg (by decide +kernel)]; exact ⟨rfl, rfl⟩))
    (fun os started H enc _ => lifted os started H enc)
theorem proved : Rows.FnExactWorstSharesSaid := over
end Go.Proofs.Ytlkpocljgikpgaa.fnExactWorstShares
namespace Go.Proofs.Ytlkpocljgikpgaa
/-- The row, under a short name, for the claim. -/
theorem fnExactWorstShares_holds : Rows.FnExactWorstSharesSaid := fnExactWorstShares.proved
end Go.Proofs.Ytlkpocljgikpgaa
