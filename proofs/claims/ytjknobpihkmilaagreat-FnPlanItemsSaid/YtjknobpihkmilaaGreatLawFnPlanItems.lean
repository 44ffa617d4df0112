import Derived.Test.YtjknobpihkmilaaGreatRows
import Derived.Test.YtjknobpihkmilaaGreatPureFnPlanItems
import Derived.WalkKit
import Derived.ProofKit
import Derived.OpenShut
import Derived.ShutString
import Derived.ChangeOld
import Derived.Below
import Derived.SizedLaws
namespace Go.Proofs.YtjknobpihkmilaaGreat.fnPlanItems
open Go.ChangeShapes Go.WideShapes Go.ChangeAt Go.RowKit Go.TV
open Go.ChangeMaps (open_string shut_string)
set_option linter.unusedVariables false
theorem own : ownKnob Tryz.prog.godebug = none := by kernel_rfl
theorem laidOut : laidOutB Tryz.prog = true := by kernel_rfl
set_option maxRecDepth 100000 in
theorem op22 : OpensV Tryz.prog 22 (fun xs : List Int => [LL (fun n : Int => [.sc (.int .u8 n)]) xs]) (okL 1 (fun n => (Lit.int .u8 n).wf = true)) := opensV_slice (B := 1) (size := 1) Tryz.underlying22 (opensV_int Tryz.underlying5) (fun _ => rfl) (by kernel_rfl) (by kernel_rfl)
set_option maxRecDepth 100000 in
theorem lifted (os : Os) (started : os.Started) (H : Type) (enc : TypeId × Value → H) :
    ReturnsInHanded {} Tryz.checked os 4 .any (Rows.fnPlanItemsSpec.pre6 enc Tryz.prog Tryz.f4 Rows.fnPlanItemsRow.domain false) (Rows.fnPlanItemsSpec.post enc Tryz.prog Tryz.f4 false true false false) := by
  refine returnsInHanded_of_change_sized (C := Tryz.checked) own started (by kernel_rfl) Tryz.func4
    (ChangeSpec.witness6 (enc := enc) (C := Tryz.checked) false ⟨#[], #[.slice none 0 0], []⟩ 8 (by kernel_rfl) (by kernel_rfl) (by kernel_rfl) (by kernel_rfl)) ?_
  intro W base args ds gs before hval0 hW hcnd hsz0 _
  have hsz : (DataW.weightsEach Tryz.prog (Tryz.f4.params.toList ++ Rows.fnPlanItemsSpec.plain.varTypes Tryz.prog) (ds ++ gs)).all (· ≤ reachBytes) = true := hsz0
  have hval : ∀ (j : Nat) t v, Tryz.f4.params[j]? = some t → args[j]? = some v → Value.okWide Tryz.prog W .any base t v := hval0
  have hW' := hW
  obtain ⟨p, q, hA0, hV, rfl, hfz, hnd⟩ := hW
  have hA : DataW.TrodAll enc Tryz.prog W 0 (fun _ => true) true Tryz.f4.params.toList args.toList ds p := hA0
  rw [Tryz.params4] at hA hval hsz
  obtain ⟨v0, vs0, d0, ds0, p0, q0, hargs, rfl, rfl, h0, r0⟩ := trodAll_cons hA
  obtain ⟨rfl, rfl, rfl⟩ := trodAll_nil r0
  obtain rfl : args = #[v0] := by cases args; simp_all
  obtain ⟨rfl, rfl⟩ := trodVars_none hV
  have k0_ := h0
  have lt0 : ∀ x ∈ p0, x.block < W.heap.size := by obtain ⟨m, hm⟩ := k0_; exact DataW.trod_lt m _ _ _ hm
  obtain ⟨x0, K0, ok0⟩ := opensV_param op22 h0 hsz (j := 0) rfl rfl
  obtain ⟨A0, len0, c0, rfl⟩ := okWide_slice Tryz.underlying22 (hval 0 22 v0 rfl rfl)
  clear hA0 hval0 hsz0 hsz
  have hP := Pure.FnPlanItems x0 ok0
  have hv : VRs (TV.start W) [LL (fun n : Int => [.sc (.int .u8 n)]) x0] [Value.slice A0 len0 c0] := by unfold VRs; exact ⟨_, _, rfl, VR_cell rfl K0, by unfold VRs; rfl⟩
  refine (calls_of_fn (by kernel_rfl) extSOk (kn0 W) hv hP).mono fun e W' ⟨he, bel⟩ => ?_
  subst he
  exact ⟨_, rfl, _, _, _, [], _, [], hW', trodAll_mk1 (shut_bool Tryz.underlying4 _), (trodAll_cons_mk (Below.trod laidOut (by kernel_rfl) (of_decide_eq_true (by kernel_rfl)) k0_ bel lt0) trodAll_mk0), rfl, bel.frame _, fun h => by cases h⟩
theorem kIn : (Rows.fnPlanItemsRow.inPlace == Tryz.pinned.checked.prog.inPlace 4) = true := by kernel_rfl
theorem kUn : (Rows.fnPlanItemsRow.unfollowed == Tryz.pinned.checked.prog.unfollowed 4) = true := by kernel_rfl
theorem kRe : (Rows.fnPlanItemsRow.recurses == Tryz.pinned.checked.prog.recurses 4) = true := by kernel_rfl
theorem kNa : (Rows.fnPlanItemsRow.named == Tryz.pinned.checked.prog.varsNamed 4) = true := by kernel_rfl
theorem closed : joinedFacts Tryz.pinned.checked.prog 4 Tryz.f4 Rows.fnPlanItemsSpec Rows.fnPlanItemsRow = true := by
  unfold joinedFacts
  rw [kIn, kUn, kRe, kNa]
  kernel_rfl
theorem over : Rows.fnPlanItemsRow.holds Tryz.pinned (OpenSpec.ofChange Rows.fnPlanItemsSpec) :=
  OpenClaim.holds_of_wide 4 Tryz.f4 rfl rfl rfl rfl rfl rfl rfl ⟨rfl, rfl, rfl, rfl, rfl⟩ rfl rfl rfl rfl rfl (by kernel_rfl) Tryz.func4 closed
    (of_decide_eq_true (by kernel_rfl)) (by unfold Func.isWrapper; first | (rw [if_pos (by decide +kernel)]; kernel_rfl) | (rw [if_neg (by decide +kernel)]; exact ⟨rfl, rfl⟩))
    (fun os started H enc _ => lifted os started H enc)
theorem proved : Rows.FnPlanItemsSaid := over
end Go.Proofs.YtjknobpihkmilaaGreat.fnPlanItems
namespace Go.Proofs.YtjknobpihkmilaaGreat
/-- The row, under a short name, for the claim. -/
theorem fnPlanItems_holds : Rows.FnPlanItemsSaid := fnPlanItems.proved
end Go.Proofs.YtjknobpihkmilaaGreat
