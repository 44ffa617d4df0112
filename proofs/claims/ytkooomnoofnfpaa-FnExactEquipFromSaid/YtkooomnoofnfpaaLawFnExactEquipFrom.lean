import Derived.Test.YtkooomnoofnfpaaRows
import Derived.Test.YtkooomnoofnfpaaPFnExactEquipFromx
import Derived.Test.YtkooomnoofnfpaaPureFnExactEquipFrom
import Derived.Test.YtkooomnoofnfpaaOpen
import Derived.WalkKit
import Derived.ProofKit
import Derived.OpenShut
import Derived.ShutString
import Derived.ChangeOld
import Derived.Below
import Derived.SizedLaws
namespace Go.Proofs.Ytkooomnoofnfpaa.fnExactEquipFrom
open Go.ChangeShapes Go.WideShapes Go.ChangeAt Go.RowKit Go.Proofs.YtkooomnoofnfpaaW.PrintWords Go.Proofs.Ytkooomnoofnfpaa.Open Go.Proofs.Ytkooomnoofnfpaa.PFnExactEquipFrom
open Go.ChangeMaps (open_string shut_string)
set_option linter.unusedVariables false
theorem own : ownKnob Try.prog.godebug = none := by kernel_rfl
theorem laidOut : laidOutB Try.prog = true := by kernel_rfl
set_option maxRecDepth 100000 in
theorem op79_ : Opens Try.prog 79 (Kd.pair Kd.string (Kd.pair (Kd.int .i64) (Kd.int .i64))) (fun x => (fun s => s.size ≤ 140737488351232) x.1 ∧ (fun x => (fun n => (Lit.int .i64 n).wf = true) x.1 ∧ (fun n => (Lit.int .i64 n).wf = true) x.2) x.2) := opens_struct Try.underlying79 (opensF_cons rfl rfl (opens_string Try.underlying9) (by kernel_rfl) (opensF_cons rfl rfl (opens_int Try.underlying3) (by kernel_rfl) (opensF_one rfl rfl (opens_int Try.underlying3) (by kernel_rfl)) (by rfl)) (by rfl)) (by kernel_rfl)
theorem op79 : Opens Try.prog 79 k79 (fun y : S79 => (fun x => (fun s => s.size ≤ 140737488351232) x.1 ∧ (fun x => (fun n => (Lit.int .i64 n).wf = true) x.1 ∧ (fun n => (Lit.int .i64 n).wf = true) x.2) x.2) (y.f0, y.f1, y.f2)) := opens_iso (fun y : S79 => (y.f0, y.f1, y.f2)) (fun x => ⟨x.1, x.2.1, x.2.2⟩) (fun _ => rfl) op79_
set_option maxRecDepth 100000 in
theorem op40 : Opens Try.prog 40 (Kd.slice 79 k79) (fun xs => (∀ x ∈ xs, (fun y : S79 => (fun x => (fun s => s.size ≤ 140737488351232) x.1 ∧ (fun x => (fun n => (Lit.int .i64 n).wf = true) x.1 ∧ (fun n => (Lit.int .i64 n).wf = true) x.2) x.2) (y.f0, y.f1, y.f2)) x) ∧ xs.length * 32 ≤ 140737488351232 ∧ xs.length ≤ maxLen) := opens_slice Try.underlying40 op79 (by kernel_rfl) (by kernel_rfl)
set_option maxRecDepth 100000 in
theorem op25 : Opens Try.prog 25 (Kd.slice 3 (Kd.int .i64)) (fun xs => (∀ x ∈ xs, (fun n => (Lit.int .i64 n).wf = true) x) ∧ xs.length * 8 ≤ 140737488351232 ∧ xs.length ≤ maxLen) := opens_slice Try.underlying25 (opens_int Try.underlying3) (by kernel_rfl) (by kernel_rfl)
set_option maxRecDepth 100000 in
theorem lifted (os : Os) (started : os.Started) (H : Type) (enc : TypeId × Value → H) :
    ReturnsInHanded {} Try.checked os 9 .any (Rows.fnExactEquipFromSpec.pre6 enc Try.prog Try.f9 Rows.fnExactEquipFromRow.domain false) (Rows.fnExactEquipFromSpec.post enc Try.prog Try.f9 false true false false) := by
  refine returnsInHanded_of_change_sized (C := Try.checked) own started (by kernel_rfl) Try.func9
    (ChangeSpec.witness6 (enc := enc) (C := Try.checked) false ⟨#[], #[.slice none 0 0, .slice none 0 0, .int .i64 0], []⟩ 8 (by kernel_rfl) (by kernel_rfl) (by kernel_rfl) (by kernel_rfl)) ?_
  intro W base args ds gs before hval0 hW hcnd hsz0 _
  have hsz : (DataW.weightsEach Try.prog (Try.f9.params.toList ++ Rows.fnExactEquipFromSpec.plain.varTypes Try.prog) (ds ++ gs)).all (· ≤ reachBytes) = true := hsz0
  have hval : ∀ (j : Nat) t v, Try.f9.params[j]? = some t → args[j]? = some v → Value.okWide Try.prog W .any base t v := hval0
  have hW' := hW
  obtain ⟨p, q, hA0, hV, rfl, hfz, hnd⟩ := hW
  have hA : DataW.TrodAll enc Try.prog W 0 (fun _ => true) true Try.f9.params.toList args.toList ds p := hA0
  rw [Try.params9] at hA hval hsz
  obtain ⟨v0, vs0, d0, ds0, p0, q0, hargs, rfl, rfl, h0, r0⟩ := trodAll_cons hA
  obtain ⟨v1, vs1, d1, ds1, p1, q1, rfl, rfl, rfl, h1, r1⟩ := trodAll_cons r0
  obtain ⟨v2, vs2, d2, ds2, p2, q2, rfl, rfl, rfl, h2, r2⟩ := trodAll_cons r1
  obtain ⟨rfl, rfl, rfl⟩ := trodAll_nil r2
  obtain rfl : args = #[v0, v1, v2] := by cases args; simp_all
  obtain ⟨rfl, rfl⟩ := trodVars_none hV
  have k0_ := h0
  have lt0 : ∀ x ∈ p0, x.block < W.heap.size := by obtain ⟨m, hm⟩ := k0_; exact DataW.trod_lt m _ _ _ hm
  obtain ⟨A0, len0, c0, rfl⟩ := okWide_slice Try.underlying40 (hval 0 40 v0 rfl rfl)
  obtain ⟨l0, K0, ok0⟩ := opens_param op40 h0 hsz (j := 0) rfl rfl
  obtain ⟨rfl, hc0, hr0⟩ := slice_of K0
  have k1_ := h1
  have lt1 : ∀ x ∈ p1, x.block < W.heap.size := by obtain ⟨m, hm⟩ := k1_; exact DataW.trod_lt m _ _ _ hm
  obtain ⟨A1, len1, c1, rfl⟩ := okWide_slice Try.underlying25 (hval 1 25 v1 rfl rfl)
  obtain ⟨l1, K1, ok1⟩ := opens_param op25 h1 hsz (j := 1) rfl rfl
  obtain ⟨rfl, hc1, hr1⟩ := slice_of K1
  have k2_ := h2
  have lt2 : ∀ x ∈ p2, x.block < W.heap.size := by obtain ⟨m, hm⟩ := k2_; exact DataW.trod_lt m _ _ _ hm
  obtain ⟨x2, K2, ok2⟩ := opens_param (opens_int Try.underlying3) h2 hsz (j := 2) rfl rfl
  obtain ⟨a2, rfl, rfl, rfl, y2⟩ := open_int Try.underlying3 (hval 2 3 v2 rfl rfl) h2
  obtain rfl : a2 = x2 := by cases K2; rfl
  clear hA0 hval0 hsz0 hsz
  have hP := Pure.FnExactEquipFrom l0 ok0 l1 ok1 a2 ok2
  obtain ⟨k, hP⟩ := hP
  refine (PFnExactEquipFrom.laws_FnExactEquipFrom.calls k A0 c0 l0 A1 c1 l1 a2 true W hr0 hc0 hr1 hc1 hP).mono fun e W' ⟨he, bel0⟩ => ?_
  have bel : Below W.heap.size W W' := bel0
  subst he
  exact ⟨_, rfl, _, _, _, [], _, [], hW', trodAll_mk1 (shut_bool Try.underlying4 _), (trodAll_cons_mk (Below.trod laidOut (by kernel_rfl) (of_decide_eq_true (by kernel_rfl)) k0_ bel lt0) (trodAll_cons_mk (Below.trod laidOut (by kernel_rfl) (of_decide_eq_true (by kernel_rfl)) k1_ bel lt1) (trodAll_cons_mk (Below.trod laidOut (by kernel_rfl) (of_decide_eq_true (by kernel_rfl)) k2_ bel lt2) trodAll_mk0))), rfl, bel.frame _, fun h => by cases h⟩
theorem over : Rows.fnExactEquipFromRow.holds Try.pinned (OpenSpec.ofChange Rows.fnExactEquipFromSpec) :=
  OpenClaim.holds_of_wide 9 Try.f9 rfl rfl rfl rfl rfl rfl rfl ⟨rfl, rfl, rfl, rfl, rfl⟩ rfl rfl rfl rfl rfl (by kernel_rfl) Try.func9 (by kernel_rfl)
    (of_decide_eq_true (by kernel_rfl)) (by unfold Func.isWrapper; first | (rw [if_pos (by decide +kernel)]; kernel_rfl) | (rw [if_neg (by decide +kernel)]; exact ⟨rfl, rfl⟩))
    (fun os started H enc _ => lifted os started H enc)
theorem proved : Rows.FnExactEquipFromSaid := over
end Go.Proofs.Ytkooomnoofnfpaa.fnExactEquipFrom
namespace Go.Proofs.Ytkooomnoofnfpaa
/-- The row, under a short name, for the claim. -/
theorem fnExactEquipFrom_holds : Rows.FnExactEquipFromSaid := fnExactEquipFrom.proved
end Go.Proofs.Ytkooomnoofnfpaa
