import Derived.Test.YtjknobpihkmilaaGreatRows
import Derived.Test.YtjknobpihkmilaaGreatPureFnPlans
import Derived.WalkKit
import Derived.ProofKit
import Derived.OpenShut
import Derived.ShutString
import Derived.ChangeOld
import Derived.Below
import Derived.SizedLaws
namespace Go.Proofs.YtjknobpihkmilaaGreat.fnPlans
open Go.ChangeShapes Go.WideShapes Go.ChangeAt Go.RowKit Go.TV
open Go.ChangeMaps (open_string shut_string)
set_option linter.unusedVariables false
theorem own : ownKnob Tryz.prog.godebug = none := by kernel_rfl
theorem laidOut : laidOutB Tryz.prog = true := by kernel_rfl
set_option maxRecDepth 100000 in
theorem op22 : OpensV Tryz.prog 22 (fun xs : List Int => [LL (fun n : Int => [.sc (.int .u8 n)]) xs]) (okL 1 (fun n => (Lit.int .u8 n).wf = true)) := opensV_slice (B := 1) (size := 1) Tryz.underlying22 (opensV_int Tryz.underlying5) (fun _ => rfl) (by kernel_rfl) (by kernel_rfl)
set_option maxRecDepth 100000 in
theorem lifted (os : Os) (started : os.Started) (H : Type) (enc : TypeId × Value → H) :
    ReturnsInHanded {} Tryz.checked os 3 .any (Rows.fnPlansSpec.pre6 enc Tryz.prog Tryz.f3 Rows.fnPlansRow.domain false) (Rows.fnPlansSpec.post enc Tryz.prog Tryz.f3 false true false false) := by
  refine returnsInHanded_of_change_sized (C := Tryz.checked) own started (by kernel_rfl) Tryz.func3
    (ChangeSpec.witness6 (enc := enc) (C := Tryz.checked) false ⟨#[], #[.slice none 0 0], []⟩ 8 (by kernel_rfl) (by kernel_rfl) (by kernel_rfl) (by kernel_rfl)) ?_
  intro W base args ds gs before hval0 hW hcnd hsz0 _
  have hsz : (DataW.weightsEach Tryz.prog (Tryz.f3.params.toList ++ Rows.fnPlansSpec.plain.varTypes Tryz.prog) (ds ++ gs)).all (· ≤ reachBytes) = true := hsz0
  have hval : ∀ (j : Nat) t v, Tryz.f3.params[j]? = some t → args[j]? = some v → Value.okWide Tryz.prog W .any base t v := hval0
  have hW' := hW
  obtain ⟨p, q, hA0, hV, rfl, hfz, hnd⟩ := hW
  have hA : DataW.TrodAll enc Tryz.prog W 0 (fun _ => true) true Tryz.f3.params.toList args.toList ds p := hA0
  rw [Tryz.params3] at hA hval hsz
  obtain ⟨v0, vs0, d0, ds0, p0, q0, hargs, rfl, rfl, h0, r0⟩ := trodAll_cons hA
  obtain ⟨rfl, rfl, rfl⟩ := trodAll_nil r0
  obtain rfl : args = #[v0] := by cases args; simp_all
  obtain ⟨rfl, rfl⟩ := trodVars_none hV
  have k0_ := h0
  have lt0 : ∀ x ∈ p0, x.block < W.heap.size := by obtain ⟨m, hm⟩ := k0_; exact DataW.trod_lt m _ _ _ hm
  obtain ⟨x0, K0, ok0⟩ := opensV_param op22 h0 hsz (j := 0) rfl rfl
  obtain ⟨A0, len0, c0, rfl⟩ := okWide_slice Tryz.underlying22 (hval 0 22 v0 rfl rfl)
  clear hA0 hval0 hsz0 hsz
  have hP := Pure.FnPlans x0 ok0
  have hv : VRs (TV.start W) [LL (fun n : Int => [.sc (.int .u8 n)]) x0] [Value.slice A0 len0 c0] := by unfold VRs; exact ⟨_, _, rfl, VR_cell rfl K0, by unfold VRs; rfl⟩
  refine (calls_of_fn (by kernel_rfl) extSOk (kn0 W) hv hP).mono fun e W' ⟨he, bel⟩ => ?_
  subst he
  exact ⟨_, rfl, _, _, _, [], _, [], hW', trodAll_mk1 (shut_bool Tryz.underlying4 _), (trodAll_cons_mk (Below.trod laidOut (by kernel_rfl) (of_decide_eq_true (by kernel_rfl)) k0_ bel lt0) trodAll_mk0), rfl, bel.frame _, fun h => by cases h⟩
theorem kIn : (Rows.fnPlansRow.inPlace == Tryz.pinned.checked.prog.inPlace 3) = true := by kernel_rfl
theorem kUn : (Rows.fnPlansRow.unfollowed == Tryz.pinned.checked.prog.unfollowed 3) = true := by kernel_rfl
theorem kRe : (Rows.fnPlansRow.recurses == Tryz.pinned.checked.prog.recurses 3) = true := by kernel_rfl
theorem kNa : (Rows.fnPlansRow.named == Tryz.pinned.checked.prog.varsNamed 3) = true := by kernel_rfl
theorem closed : joinedFacts Tryz.pinned.checked.prog 3 Tryz.f3 Rows.fnPlansSpec Rows.fnPlansRow = true := by
  unfold joinedFacts
  rw [kIn, kUn, kRe, kNa]
  kernel_rfl
theorem over : Rows.fnPlansRow.holds Tryz.pinned (OpenSpec.ofChange Rows.fnPlansSpec) :=
  OpenClaim.holds_of_wide 3 Tryz.f3 rfl rfl rfl rfl rfl rfl rfl ⟨rfl, rfl, rfl, rfl, rfl⟩ rfl rfl rfl rfl rfl (by kernel_rfl) Tryz.func3 closed
    (of_decide_eq_true (by kernel_rfl)) (by unfold Func.isWrapper; first | (rw [if_pos (by decide +kernel)]; kernel_rfl) | (rw [if_neg (by decide +kernel)]; exact ⟨rfl, rfl⟩))
    (fun os started H enc _ => lifted os started H enc)
theorem proved : Rows.FnPlansSaid := over
end Go.Proofs.YtjknobpihkmilaaGreat.fnPlans
namespace Go.Proofs.YtjknobpihkmilaaGreat
/-- The row, under a short name, for the claim. -/
theorem fnPlans_holds : Rows.FnPlansSaid := fnPlans.proved
end Go.Proofs.YtjknobpihkmilaaGreat
