import Derived.Test.YtkooomnoofnfpaaRows
import Derived.Test.YtkooomnoofnfpaaPFnExactFormatMemberx
import Derived.Test.YtkooomnoofnfpaaPureFnExactFormatMember
import Derived.Test.YtkooomnoofnfpaaOpen
import Derived.WalkKit
import Derived.ProofKit
import Derived.OpenShut
import Derived.ShutString
import Derived.ChangeOld
import Derived.Below
import Derived.SizedLaws
namespace Go.Proofs.Ytkooomnoofnfpaa.fnExactFormatMember
open Go.ChangeShapes Go.WideShapes Go.ChangeAt Go.RowKit Go.Proofs.YtkooomnoofnfpaaW.PrintWords Go.Proofs.Ytkooomnoofnfpaa.Open Go.Proofs.Ytkooomnoofnfpaa.PFnExactFormatMember
open Go.ChangeMaps (open_string shut_string)
set_option linter.unusedVariables false
theorem own : ownKnob Try.prog.godebug = none := by kernel_rfl
theorem laidOut : laidOutB Try.prog = true := by kernel_rfl
set_option maxRecDepth 100000 in
theorem op110_ : Opens Try.prog 110 (Kd.pair Kd.string (Kd.pair (Kd.int .i64) (Kd.pair (Kd.int .i64) Kd.bool))) (fun x => (fun s => s.size ≤ 140737488351232) x.1 ∧ (fun x => (fun n => (Lit.int .i64 n).wf = true) x.1 ∧ (fun x => (fun n => (Lit.int .i64 n).wf = true) x.1 ∧ (fun _ => True) x.2) x.2) x.2) := opens_struct Try.underlying110 (opensF_cons (a := Kd.string) (b := (Kd.pair (Kd.int .i64) (Kd.pair (Kd.int .i64) Kd.bool))) (oka := (fun s => s.size ≤ 140737488351232)) (okb := (fun x => (fun n => (Lit.int .i64 n).wf = true) x.1 ∧ (fun x => (fun n => (Lit.int .i64 n).wf = true) x.1 ∧ (fun _ => True) x.2) x.2)) rfl rfl (opens_string Try.underlying9) (by kernel_rfl) (opensF_cons (a := (Kd.int .i64)) (b := (Kd.pair (Kd.int .i64) Kd.bool)) (oka := (fun n => (Lit.int .i64 n).wf = true)) (okb := (fun x => (fun n => (Lit.int .i64 n).wf = true) x.1 ∧ (fun _ => True) x.2)) rfl rfl (opens_int Try.underlying3) (by kernel_rfl) (opensF_cons (a := (Kd.int .i64)) (b := Kd.bool) (oka := (fun n => (Lit.int .i64 n).wf = true)) (okb := (fun _ => True)) rfl rfl (opens_int Try.underlying3) (by kernel_rfl) (opensF_one (d := Kd.bool) (ok := (fun _ => True)) rfl rfl (opens_bool Try.underlying4) (by kernel_rfl)) (by rfl)) (by rfl)) (by rfl)) (by kernel_rfl)
theorem op110 : Opens Try.prog 110 k110 (fun y : S110 => (fun x => (fun s => s.size ≤ 140737488351232) x.1 ∧ (fun x => (fun n => (Lit.int .i64 n).wf = true) x.1 ∧ (fun x => (fun n => (Lit.int .i64 n).wf = true) x.1 ∧ (fun _ => True) x.2) x.2) x.2) (y.f0, y.f1, y.f2, y.f3)) := opens_iso (fun y : S110 => (y.f0, y.f1, y.f2, y.f3)) (fun x => ⟨x.1, x.2.1, x.2.2.1, x.2.2.2⟩) (fun _ => rfl) op110_
set_option maxRecDepth 100000 in
theorem op53 : Opens Try.prog 53 (Kd.slice 110 k110) (fun xs => (∀ x ∈ xs, (fun y : S110 => (fun x => (fun s => s.size ≤ 140737488351232) x.1 ∧ (fun x => (fun n => (Lit.int .i64 n).wf = true) x.1 ∧ (fun x => (fun n => (Lit.int .i64 n).wf = true) x.1 ∧ (fun _ => True) x.2) x.2) x.2) (y.f0, y.f1, y.f2, y.f3)) x) ∧ xs.length * 40 ≤ 140737488351232 ∧ xs.length ≤ maxLen) := opens_slice Try.underlying53 op110 (by kernel_rfl) (by kernel_rfl)
set_option maxRecDepth 100000 in
theorem op116_ : Opens Try.prog 116 (Kd.pair (Kd.int .i64) (Kd.pair (Kd.int .i64) (Kd.int .i64))) (fun x => (fun n => (Lit.int .i64 n).wf = true) x.1 ∧ (fun x => (fun n => (Lit.int .i64 n).wf = true) x.1 ∧ (fun n => (Lit.int .i64 n).wf = true) x.2) x.2) := opens_struct Try.underlying116 (opensF_cons (a := (Kd.int .i64)) (b := (Kd.pair (Kd.int .i64) (Kd.int .i64))) (oka := (fun n => (Lit.int .i64 n).wf = true)) (okb := (fun x => (fun n => (Lit.int .i64 n).wf = true) x.1 ∧ (fun n => (Lit.int .i64 n).wf = true) x.2)) rfl rfl (opens_int Try.underlying3) (by kernel_rfl) (opensF_cons (a := (Kd.int .i64)) (b := (Kd.int .i64)) (oka := (fun n => (Lit.int .i64 n).wf = true)) (okb := (fun n => (Lit.int .i64 n).wf = true)) rfl rfl (opens_int Try.underlying3) (by kernel_rfl) (opensF_one (d := (Kd.int .i64)) (ok := (fun n => (Lit.int .i64 n).wf = true)) rfl rfl (opens_int Try.underlying3) (by kernel_rfl)) (by rfl)) (by rfl)) (by kernel_rfl)
theorem op116 : Opens Try.prog 116 k116 (fun y : S116 => (fun x => (fun n => (Lit.int .i64 n).wf = true) x.1 ∧ (fun x => (fun n => (Lit.int .i64 n).wf = true) x.1 ∧ (fun n => (Lit.int .i64 n).wf = true) x.2) x.2) (y.f0, y.f1, y.f2)) := opens_iso (fun y : S116 => (y.f0, y.f1, y.f2)) (fun x => ⟨x.1, x.2.1, x.2.2⟩) (fun _ => rfl) op116_
set_option maxRecDepth 100000 in
theorem op54 : Opens Try.prog 54 (Kd.slice 116 k116) (fun xs => (∀ x ∈ xs, (fun y : S116 => (fun x => (fun n => (Lit.int .i64 n).wf = true) x.1 ∧ (fun x => (fun n => (Lit.int .i64 n).wf = true) x.1 ∧ (fun n => (Lit.int .i64 n).wf = true) x.2) x.2) (y.f0, y.f1, y.f2)) x) ∧ xs.length * 24 ≤ 140737488351232 ∧ xs.length ≤ maxLen) := opens_slice Try.underlying54 op116 (by kernel_rfl) (by kernel_rfl)
set_option maxRecDepth 100000 in
theorem op56_ : Opens Try.prog 56 (Kd.pair (Kd.slice 110 k110) (Kd.slice 116 k116)) (fun x => (fun xs => (∀ x ∈ xs, (fun y : S110 => (fun x => (fun s => s.size ≤ 140737488351232) x.1 ∧ (fun x => (fun n => (Lit.int .i64 n).wf = true) x.1 ∧ (fun x => (fun n => (Lit.int .i64 n).wf = true) x.1 ∧ (fun _ => True) x.2) x.2) x.2) (y.f0, y.f1, y.f2, y.f3)) x) ∧ xs.length * 40 ≤ 140737488351232 ∧ xs.length ≤ maxLen) x.1 ∧ (fun xs => (∀ x ∈ xs, (fun y : S116 => (fun x => (fun n => (Lit.int .i64 n).wf = true) x.1 ∧ (fun x => (fun n => (Lit.int .i64 n).wf = true) x.1 ∧ (fun n => (Lit.int .i64 n).wf = true) x.2) x.2) (y.f0, y.f1, y.f2)) x) ∧ xs.length * 24 ≤ 140737488351232 ∧ xs.length ≤ maxLen) x.2) := opens_struct Try.underlying56 (opensF_cons (a := (Kd.slice 110 k110)) (b := (Kd.slice 116 k116)) (oka := (fun xs => (∀ x ∈ xs, (fun y : S110 => (fun x => (fun s => s.size ≤ 140737488351232) x.1 ∧ (fun x => (fun n => (Lit.int .i64 n).wf = true) x.1 ∧ (fun x => (fun n => (Lit.int .i64 n).wf = true) x.1 ∧ (fun _ => True) x.2) x.2) x.2) (y.f0, y.f1, y.f2, y.f3)) x) ∧ xs.length * 40 ≤ 140737488351232 ∧ xs.length ≤ maxLen)) (okb := (fun xs => (∀ x ∈ xs, (fun y : S116 => (fun x => (fun n => (Lit.int .i64 n).wf = true) x.1 ∧ (fun x => (fun n => (Lit.int .i64 n).wf = true) x.1 ∧ (fun n => (Lit.int .i64 n).wf = true) x.2) x.2) (y.f0, y.f1, y.f2)) x) ∧ xs.length * 24 ≤ 140737488351232 ∧ xs.length ≤ maxLen)) rfl rfl op53 (by kernel_rfl) (opensF_one (d := (Kd.slice 116 k116)) (ok := (fun xs => (∀ x ∈ xs, (fun y : S116 => (fun x => (fun n => (Lit.int .i64 n).wf = true) x.1 ∧ (fun x => (fun n => (Lit.int .i64 n).wf = true) x.1 ∧ (fun n => (Lit.int .i64 n).wf = true) x.2) x.2) (y.f0, y.f1, y.f2)) x) ∧ xs.length * 24 ≤ 140737488351232 ∧ xs.length ≤ maxLen)) rfl rfl op54 (by kernel_rfl)) (by rfl)) (by kernel_rfl)
set_option maxRecDepth 100000 in
theorem lifted (os : Os) (started : os.Started) (H : Type) (enc : TypeId × Value → H) :
    ReturnsInHanded {} Try.checked os 8 .any (Rows.fnExactFormatMemberSpec.pre6 enc Try.prog Try.f8 Rows.fnExactFormatMemberRow.domain false) (Rows.fnExactFormatMemberSpec.post enc Try.prog Try.f8 false true false false) := by
  refine returnsInHanded_of_change_sized (C := Try.checked) own started (by kernel_rfl) Try.func8
    (ChangeSpec.witness6 (enc := enc) (C := Try.checked) false ⟨#[], #[.agg #[.slice none 0 0, .slice none 0 0], .int .i64 0], []⟩ 8 (by kernel_rfl) (by kernel_rfl) (by kernel_rfl) (by kernel_rfl)) ?_
  intro W base args ds gs before hval0 hW hcnd hsz0 _
  have hsz : (DataW.weightsEach Try.prog (Try.f8.params.toList ++ Rows.fnExactFormatMemberSpec.plain.varTypes Try.prog) (ds ++ gs)).all (· ≤ reachBytes) = true := hsz0
  have hval : ∀ (j : Nat) t v, Try.f8.params[j]? = some t → args[j]? = some v → Value.okWide Try.prog W .any base t v := hval0
  have hW' := hW
  obtain ⟨p, q, hA0, hV, rfl, hfz, hnd⟩ := hW
  have hA : DataW.TrodAll enc Try.prog W 0 (fun _ => true) true Try.f8.params.toList args.toList ds p := hA0
  rw [Try.params8] at hA hval hsz
  obtain ⟨v0, vs0, d0, ds0, p0, q0, hargs, rfl, rfl, h0, r0⟩ := trodAll_cons hA
  obtain ⟨v1, vs1, d1, ds1, p1, q1, rfl, rfl, rfl, h1, r1⟩ := trodAll_cons r0
  obtain ⟨rfl, rfl, rfl⟩ := trodAll_nil r1
  obtain rfl : args = #[v0, v1] := by cases args; simp_all
  obtain ⟨rfl, rfl⟩ := trodVars_none hV
  have k0_ := h0
  have lt0 : ∀ x ∈ p0, x.block < W.heap.size := by obtain ⟨m, hm⟩ := k0_; exact DataW.trod_lt m _ _ _ hm
  obtain ⟨cs0, rfl, _⟩ := okWide_struct Try.underlying56 (hval 0 56 v0 rfl rfl)
  obtain ⟨x0, K0, ok0⟩ := opens_param op56_ h0 hsz (j := 0) rfl rfl
  obtain ⟨l0_0, l0_1⟩ := x0
  simp only [Value.cells] at K0
  obtain ⟨_, _, E0, ⟨A0_0, c0_0, rfl, hc0_0, hr0_0⟩, ⟨A0_1, c0_1, rfl, hc0_1, hr0_1⟩⟩ := K0
  have e0 : cs0.toList = [.slice A0_0 l0_0.length c0_0, .slice A0_1 l0_1.length c0_1] := by simpa using E0
  clear E0
  rw [agg_of e0] at *
  have k1_ := h1
  have lt1 : ∀ x ∈ p1, x.block < W.heap.size := by obtain ⟨m, hm⟩ := k1_; exact DataW.trod_lt m _ _ _ hm
  obtain ⟨x1, K1, ok1⟩ := opens_param (opens_int Try.underlying3) h1 hsz (j := 1) rfl rfl
  obtain ⟨a1, rfl, rfl, rfl, y1⟩ := open_int Try.underlying3 (hval 1 3 v1 rfl rfl) h1
  obtain rfl : a1 = x1 := by cases K1; rfl
  clear hA0 hval0 hsz0 hsz
  have hP := Pure.FnExactFormatMember l0_0 l0_1 ok0 a1 ok1
  obtain ⟨k, hP⟩ := hP
  refine (PFnExactFormatMember.laws_FnExactFormatMember.calls k A0_0 c0_0 l0_0 A0_1 c0_1 l0_1 a1 true W hr0_0 hc0_0 hr0_1 hc0_1 hP).mono fun e W' ⟨he, bel0⟩ => ?_
  have bel : Below W.heap.size W W' := bel0
  subst he
  exact ⟨_, rfl, _, _, _, [], _, [], hW', trodAll_mk1 (shut_bool Try.underlying4 _), (trodAll_cons_mk (Below.trod laidOut (by kernel_rfl) (of_decide_eq_true (by kernel_rfl)) k0_ bel lt0) (trodAll_cons_mk (Below.trod laidOut (by kernel_rfl) (of_decide_eq_true (by kernel_rfl)) k1_ bel lt1) trodAll_mk0)), rfl, bel.frame _, fun h => by cases h⟩
theorem over : Rows.fnExactFormatMemberRow.holds Try.pinned (OpenSpec.ofChange Rows.fnExactFormatMemberSpec) :=
  OpenClaim.holds_of_wide 8 Try.f8 rfl rfl rfl rfl rfl rfl rfl ⟨rfl, rfl, rfl, rfl, rfl⟩ rfl rfl rfl rfl rfl (by kernel_rfl) Try.func8 (by kernel_rfl)
    (of_decide_eq_true (by kernel_rfl)) (by unfold Func.isWrapper; first | (rw [if_pos (by decide +kernel)]; kernel_rfl) | (rw [if_neg (by decide +kernel)]; exact ⟨rfl, rfl⟩))
    (fun os started H enc _ => lifted os started H enc)
theorem proved : Rows.FnExactFormatMemberSaid := over
end Go.Proofs.Ytkooomnoofnfpaa.fnExactFormatMember
namespace Go.Proofs.Ytkooomnoofnfpaa
/-- The row, under a short name, for the claim. -/
theorem fnExactFormatMember_holds : Rows.FnExactFormatMemberSaid := fnExactFormatMember.proved
end Go.Proofs.Ytkooomnoofnfpaa
