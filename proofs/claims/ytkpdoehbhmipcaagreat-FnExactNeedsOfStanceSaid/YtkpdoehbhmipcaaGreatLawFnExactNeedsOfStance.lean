import Derived.Test.YtkpdoehbhmipcaaGreatRows
import Derived.Test.YtkpdoehbhmipcaaGreatPureFnExactNeedsOfStance
import Derived.WalkKit
import Derived.ProofKit
import Derived.OpenShut
import Derived.ShutString
import Derived.ChangeOld
import Derived.Below
import Derived.SizedLaws
namespace Go.Proofs.YtkpdoehbhmipcaaGreat.fnExactNeedsOfStance
open Go.ChangeShapes Go.WideShapes Go.ChangeAt Go.RowKit Go.TV
open Go.ChangeMaps (open_string shut_string)
set_option linter.unusedVariables false
theorem own : ownKnob Tryz.prog.godebug = none := by kernel_rfl
theorem laidOut : laidOutB Tryz.prog = true := by kernel_rfl
set_option maxRecDepth 100000 in
theorem op231 : OpensV Tryz.prog 231 cJoint okJoint := opensV_iso (fun y : Joint => (y.name, y.x, y.y, y.fixed)) (fun x => ⟨x.1, x.2.1, x.2.2.1, x.2.2.2⟩) (fun _ => rfl) (opensV_struct Tryz.underlying231 (opensVF_cons (off := 0) (sz := 1) (off' := 1) rfl rfl (opensV_string Tryz.underlying9) (by kernel_rfl) (opensVF_cons (off := 1) (sz := 1) (off' := 2) rfl rfl (opensV_int Tryz.underlying3) (by kernel_rfl) (opensVF_cons (off := 2) (sz := 1) (off' := 3) rfl rfl (opensV_int Tryz.underlying3) (by kernel_rfl) (opensVF_one (off := 3) (sz := 1) rfl rfl (opensV_bool Tryz.underlying4) (by kernel_rfl)) (by rfl)) (by rfl)) (by rfl)) (by kernel_rfl))
set_option maxRecDepth 100000 in
theorem op58 : OpensV Tryz.prog 58 (fun xs : List Joint => [LL cJoint xs]) (okL 40 okJoint) := opensV_slice (B := 40) (size := 4) Tryz.underlying58 op231 (fun _ => rfl) (by kernel_rfl) (by kernel_rfl)
set_option maxRecDepth 100000 in
theorem op251 : OpensV Tryz.prog 251 cMember okMember := opensV_iso (fun y : Member => (y.a, y.b, y.kind)) (fun x => ⟨x.1, x.2.1, x.2.2⟩) (fun _ => rfl) (opensV_struct Tryz.underlying251 (opensVF_cons (off := 0) (sz := 1) (off' := 1) rfl rfl (opensV_int Tryz.underlying3) (by kernel_rfl) (opensVF_cons (off := 1) (sz := 1) (off' := 2) rfl rfl (opensV_int Tryz.underlying3) (by kernel_rfl) (opensVF_one (off := 2) (sz := 1) rfl rfl (opensV_int Tryz.underlying3) (by kernel_rfl)) (by rfl)) (by rfl)) (by kernel_rfl))
set_option maxRecDepth 100000 in
theorem op59 : OpensV Tryz.prog 59 (fun xs : List Member => [LL cMember xs]) (okL 24 okMember) := opensV_slice (B := 24) (size := 3) Tryz.underlying59 op251 (fun _ => rfl) (by kernel_rfl) (by kernel_rfl)
set_option maxRecDepth 100000 in
theorem op61 : OpensV Tryz.prog 61 cStructure okStructure := opensV_iso (fun y : Structure => (y.joints, y.members)) (fun x => ⟨x.1, x.2⟩) (fun _ => rfl) (opensV_struct Tryz.underlying61 (opensVF_cons (off := 0) (sz := 1) (off' := 1) rfl rfl op58 (by kernel_rfl) (opensVF_one (off := 1) (sz := 1) rfl rfl op59 (by kernel_rfl)) (by rfl)) (by kernel_rfl))
set_option maxRecDepth 100000 in
theorem op27 : OpensV Tryz.prog 27 (fun xs : List Int => [LL cI xs]) (okL 8 okI) := opensV_slice (B := 8) (size := 1) Tryz.underlying27 (opensV_int Tryz.underlying3) (fun _ => rfl) (by kernel_rfl) (by kernel_rfl)
set_option maxRecDepth 100000 in
theorem op63 : OpensV Tryz.prog 63 cStance okStance := opensV_iso (fun y : Stance => (y.name, y.st, y.load, y.limits)) (fun x => ⟨x.1, x.2.1, x.2.2.1, x.2.2.2⟩) (fun _ => rfl) (opensV_struct Tryz.underlying63 (opensVF_cons (off := 0) (sz := 1) (off' := 1) rfl rfl (opensV_string Tryz.underlying9) (by kernel_rfl) (opensVF_cons (off := 1) (sz := 2) (off' := 3) rfl rfl op61 (by kernel_rfl) (opensVF_cons (off := 3) (sz := 1) (off' := 4) rfl rfl op27 (by kernel_rfl) (opensVF_one (off := 4) (sz := 1) rfl rfl op27 (by kernel_rfl)) (by rfl)) (by rfl)) (by rfl)) (by kernel_rfl))
set_option maxRecDepth 100000 in
theorem lifted (os : Os) (started : os.Started) (H : Type) (enc : TypeId × Value → H) :
    ReturnsInHanded {} Tryz.checked os 5 .any (Rows.fnExactNeedsOfStanceSpec.pre6 enc Tryz.prog Tryz.f5 Rows.fnExactNeedsOfStanceRow.domain false) (Rows.fnExactNeedsOfStanceSpec.post enc Tryz.prog Tryz.f5 false true false false) := by
  refine returnsInHanded_of_change_sized (C := Tryz.checked) own started (by kernel_rfl) Tryz.func5
    (ChangeSpec.witness6 (enc := enc) (C := Tryz.checked) false ⟨#[], #[.agg #[.string ByteArray.empty, .slice none 0 0, .slice none 0 0, .slice none 0 0, .slice none 0 0]], []⟩ 8 (by kernel_rfl) (by kernel_rfl) (by kernel_rfl) (by kernel_rfl)) ?_
  intro W base args ds gs before hval0 hW hcnd hsz0 _
  have hsz : (DataW.weightsEach Tryz.prog (Tryz.f5.params.toList ++ Rows.fnExactNeedsOfStanceSpec.plain.varTypes Tryz.prog) (ds ++ gs)).all (· ≤ reachBytes) = true := hsz0
  have hval : ∀ (j : Nat) t v, Tryz.f5.params[j]? = some t → args[j]? = some v → Value.okWide Tryz.prog W .any base t v := hval0
  have hW' := hW
  obtain ⟨p, q, hA0, hV, rfl, hfz, hnd⟩ := hW
  have hA : DataW.TrodAll enc Tryz.prog W 0 (fun _ => true) true Tryz.f5.params.toList args.toList ds p := hA0
  rw [Tryz.params5] at hA hval hsz
  obtain ⟨v0, vs0, d0, ds0, p0, q0, hargs, rfl, rfl, h0, r0⟩ := trodAll_cons hA
  obtain ⟨rfl, rfl, rfl⟩ := trodAll_nil r0
  obtain rfl : args = #[v0] := by cases args; simp_all
  obtain ⟨rfl, rfl⟩ := trodVars_none hV
  have k0_ := h0
  have lt0 : ∀ x ∈ p0, x.block < W.heap.size := by obtain ⟨m, hm⟩ := k0_; exact DataW.trod_lt m _ _ _ hm
  obtain ⟨x0, K0, ok0⟩ := opensV_param op63 h0 hsz (j := 0) rfl rfl
  obtain ⟨cs0, rfl, _⟩ := okWide_struct Tryz.underlying63 (hval 0 63 v0 rfl rfl)
  clear hA0 hval0 hsz0 hsz
  have hP := Pure.FnExactNeedsOfStance x0 ok0
  have hv : VRs (TV.start W) [.agg (cStance x0)] [Value.agg cs0] := by unfold VRs; exact ⟨_, _, rfl, VR_aggv K0, by unfold VRs; rfl⟩
  refine (calls_of_fn (by kernel_rfl) extSOk (kn0 W) hv hP).mono fun e W' ⟨he, bel⟩ => ?_
  subst he
  exact ⟨_, rfl, _, _, _, [], _, [], hW', trodAll_mk1 (shut_bool Tryz.underlying4 _), (trodAll_cons_mk (Below.trod laidOut (by kernel_rfl) (of_decide_eq_true (by kernel_rfl)) k0_ bel lt0) trodAll_mk0), rfl, bel.frame _, fun h => by cases h⟩
theorem kIn : (Rows.fnExactNeedsOfStanceRow.inPlace == Tryz.pinned.checked.prog.inPlace 5) = true := by kernel_rfl
theorem kUn : (Rows.fnExactNeedsOfStanceRow.unfollowed == Tryz.pinned.checked.prog.unfollowed 5) = true := by kernel_rfl
theorem kRe : (Rows.fnExactNeedsOfStanceRow.recurses == Tryz.pinned.checked.prog.recurses 5) = true := by kernel_rfl
theorem kNa : (Rows.fnExactNeedsOfStanceRow.named == Tryz.pinned.checked.prog.varsNamed 5) = true := by kernel_rfl
theorem closed : joinedFacts Tryz.pinned.checked.prog 5 Tryz.f5 Rows.fnExactNeedsOfStanceSpec Rows.fnExactNeedsOfStanceRow = true := by
  unfold joinedFacts
  rw [kIn, kUn, kRe, kNa]
  kernel_rfl
theorem over : Rows.fnExactNeedsOfStanceRow.holds Tryz.pinned (OpenSpec.ofChange Rows.fnExactNeedsOfStanceSpec) :=
  OpenClaim.holds_of_wide 5 Tryz.f5 rfl rfl rfl rfl rfl rfl rfl ⟨rfl, rfl, rfl, rfl, rfl⟩ rfl rfl rfl rfl rfl (by kernel_rfl) Tryz.func5 closed
    (of_decide_eq_true (by kernel_rfl)) (by unfold Func.isWrapper; first | (rw [if_pos (by decide +kernel)]; kernel_rfl) | (rw [if_neg (by decide +kernel)]; exact ⟨rfl, rfl⟩))
    (fun os started H enc _ => lifted os started H enc)
theorem proved : Rows.FnExactNeedsOfStanceSaid := over
end Go.Proofs.YtkpdoehbhmipcaaGreat.fnExactNeedsOfStance
namespace Go.Proofs.YtkpdoehbhmipcaaGreat
/-- The row, under a short name, for the claim. -/
theorem fnExactNeedsOfStance_holds : Rows.FnExactNeedsOfStanceSaid := fnExactNeedsOfStance.proved
end Go.Proofs.YtkpdoehbhmipcaaGreat
