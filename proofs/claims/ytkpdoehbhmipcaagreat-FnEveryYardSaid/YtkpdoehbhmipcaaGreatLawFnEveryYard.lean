import Derived.Test.YtkpdoehbhmipcaaGreatRows
import Derived.Test.YtkpdoehbhmipcaaGreatPureFnEveryYard
import Derived.WalkKit
import Derived.ProofKit
import Derived.OpenShut
import Derived.ShutString
import Derived.ChangeOld
import Derived.Below
import Derived.SizedLaws
namespace Go.Proofs.YtkpdoehbhmipcaaGreat.fnEveryYard
open Go.ChangeShapes Go.WideShapes Go.ChangeAt Go.RowKit Go.TV
open Go.ChangeMaps (open_string shut_string)
set_option linter.unusedVariables false
theorem own : ownKnob Tryz.prog.godebug = none := by kernel_rfl
theorem laidOut : laidOutB Tryz.prog = true := by kernel_rfl
set_option maxRecDepth 100000 in
theorem op103 : OpensV Tryz.prog 103 cJoint okJoint := opensV_iso (fun y : Joint => (y.name, y.x, y.y, y.fixed)) (fun x => ⟨x.1, x.2.1, x.2.2.1, x.2.2.2⟩) (fun _ => rfl) (opensV_struct Tryz.underlying103 (opensVF_cons (off := 0) (sz := 1) (off' := 1) rfl rfl (opensV_string Tryz.underlying9) (by kernel_rfl) (opensVF_cons (off := 1) (sz := 1) (off' := 2) rfl rfl (opensV_int Tryz.underlying3) (by kernel_rfl) (opensVF_cons (off := 2) (sz := 1) (off' := 3) rfl rfl (opensV_int Tryz.underlying3) (by kernel_rfl) (opensVF_one (off := 3) (sz := 1) rfl rfl (opensV_bool Tryz.underlying4) (by kernel_rfl)) (by rfl)) (by rfl)) (by rfl)) (by kernel_rfl))
set_option maxRecDepth 100000 in
theorem op33 : OpensV Tryz.prog 33 (fun xs : List Joint => [LL cJoint xs]) (okL 40 okJoint) := opensV_slice (B := 40) (size := 4) Tryz.underlying33 op103 (fun _ => rfl) (by kernel_rfl) (by kernel_rfl)
set_option maxRecDepth 100000 in
theorem op105 : OpensV Tryz.prog 105 cMember okMember := opensV_iso (fun y : Member => (y.a, y.b, y.kind)) (fun x => ⟨x.1, x.2.1, x.2.2⟩) (fun _ => rfl) (opensV_struct Tryz.underlying105 (opensVF_cons (off := 0) (sz := 1) (off' := 1) rfl rfl (opensV_int Tryz.underlying3) (by kernel_rfl) (opensVF_cons (off := 1) (sz := 1) (off' := 2) rfl rfl (opensV_int Tryz.underlying3) (by kernel_rfl) (opensVF_one (off := 2) (sz := 1) rfl rfl (opensV_int Tryz.underlying3) (by kernel_rfl)) (by rfl)) (by rfl)) (by kernel_rfl))
set_option maxRecDepth 100000 in
theorem op34 : OpensV Tryz.prog 34 (fun xs : List Member => [LL cMember xs]) (okL 24 okMember) := opensV_slice (B := 24) (size := 3) Tryz.underlying34 op105 (fun _ => rfl) (by kernel_rfl) (by kernel_rfl)
set_option maxRecDepth 100000 in
theorem op36 : OpensV Tryz.prog 36 cStructure okStructure := opensV_iso (fun y : Structure => (y.joints, y.members)) (fun x => ⟨x.1, x.2⟩) (fun _ => rfl) (opensV_struct Tryz.underlying36 (opensVF_cons (off := 0) (sz := 1) (off' := 1) rfl rfl op33 (by kernel_rfl) (opensVF_one (off := 1) (sz := 1) rfl rfl op34 (by kernel_rfl)) (by rfl)) (by kernel_rfl))
set_option maxRecDepth 100000 in
theorem op27 : OpensV Tryz.prog 27 (fun xs : List Int => [LL cI xs]) (okL 8 okI) := opensV_slice (B := 8) (size := 1) Tryz.underlying27 (opensV_int Tryz.underlying3) (fun _ => rfl) (by kernel_rfl) (by kernel_rfl)
set_option maxRecDepth 100000 in
theorem op38 : OpensV Tryz.prog 38 cStance okStance := opensV_iso (fun y : Stance => (y.name, y.st, y.load, y.limits)) (fun x => ⟨x.1, x.2.1, x.2.2.1, x.2.2.2⟩) (fun _ => rfl) (opensV_struct Tryz.underlying38 (opensVF_cons (off := 0) (sz := 1) (off' := 1) rfl rfl (opensV_string Tryz.underlying9) (by kernel_rfl) (opensVF_cons (off := 1) (sz := 2) (off' := 3) rfl rfl op36 (by kernel_rfl) (opensVF_cons (off := 3) (sz := 1) (off' := 4) rfl rfl op27 (by kernel_rfl) (opensVF_one (off := 4) (sz := 1) rfl rfl op27 (by kernel_rfl)) (by rfl)) (by rfl)) (by rfl)) (by kernel_rfl))
set_option maxRecDepth 100000 in
theorem op22 : OpensV Tryz.prog 22 (fun xs : List Stance => [LL cStance xs]) (okL 112 okStance) := opensV_slice (B := 112) (size := 5) Tryz.underlying22 op38 (fun _ => rfl) (by kernel_rfl) (by kernel_rfl)
set_option maxRecDepth 100000 in
theorem op87 : OpensV Tryz.prog 87 cMove okMove := opensV_iso (fun y : TV.Move => (y.fr, y.to)) (fun x => ⟨x.1, x.2⟩) (fun _ => rfl) (opensV_struct Tryz.underlying87 (opensVF_cons (off := 0) (sz := 1) (off' := 1) rfl rfl (opensV_int Tryz.underlying3) (by kernel_rfl) (opensVF_one (off := 1) (sz := 1) rfl rfl (opensV_int Tryz.underlying3) (by kernel_rfl)) (by rfl)) (by kernel_rfl))
set_option maxRecDepth 100000 in
theorem op23 : OpensV Tryz.prog 23 (fun xs : List TV.Move => [LL cMove xs]) (okL 16 okMove) := opensV_slice (B := 16) (size := 2) Tryz.underlying23 op87 (fun _ => rfl) (by kernel_rfl) (by kernel_rfl)
set_option maxRecDepth 100000 in
theorem op25 : OpensV Tryz.prog 25 cYard okYard := opensV_iso (fun y : Yard => (y.stances, y.moves, y.strict)) (fun x => ⟨x.1, x.2.1, x.2.2⟩) (fun _ => rfl) (opensV_struct Tryz.underlying25 (opensVF_cons (off := 0) (sz := 1) (off' := 1) rfl rfl op22 (by kernel_rfl) (opensVF_cons (off := 1) (sz := 1) (off' := 2) rfl rfl op23 (by kernel_rfl) (opensVF_one (off := 2) (sz := 1) rfl rfl (opensV_bool Tryz.underlying4) (by kernel_rfl)) (by rfl)) (by rfl)) (by kernel_rfl))
set_option maxRecDepth 100000 in
theorem lifted (os : Os) (started : os.Started) (H : Type) (enc : TypeId × Value → H) :
    ReturnsInHanded {} Tryz.checked os 3 .any (Rows.fnEveryYardSpec.pre6 enc Tryz.prog Tryz.f3 Rows.fnEveryYardRow.domain false) (Rows.fnEveryYardSpec.post enc Tryz.prog Tryz.f3 false true false false) := by
  refine returnsInHanded_of_change_sized (C := Tryz.checked) own started (by kernel_rfl) Tryz.func3
    (ChangeSpec.witness6 (enc := enc) (C := Tryz.checked) false ⟨#[], #[.agg #[.slice none 0 0, .slice none 0 0, .bool false], .int .i64 0, .int .i64 0], []⟩ 8 (by kernel_rfl) (by kernel_rfl) (by kernel_rfl) (by kernel_rfl)) ?_
  intro W base args ds gs before hval0 hW hcnd hsz0 _
  have hsz : (DataW.weightsEach Tryz.prog (Tryz.f3.params.toList ++ Rows.fnEveryYardSpec.plain.varTypes Tryz.prog) (ds ++ gs)).all (· ≤ reachBytes) = true := hsz0
  have hval : ∀ (j : Nat) t v, Tryz.f3.params[j]? = some t → args[j]? = some v → Value.okWide Tryz.prog W .any base t v := hval0
  have hW' := hW
  obtain ⟨p, q, hA0, hV, rfl, hfz, hnd⟩ := hW
  have hA : DataW.TrodAll enc Tryz.prog W 0 (fun _ => true) true Tryz.f3.params.toList args.toList ds p := hA0
  rw [Tryz.params3] at hA hval hsz
  obtain ⟨v0, vs0, d0, ds0, p0, q0, hargs, rfl, rfl, h0, r0⟩ := trodAll_cons hA
  obtain ⟨v1, vs1, d1, ds1, p1, q1, rfl, rfl, rfl, h1, r1⟩ := trodAll_cons r0
  obtain ⟨v2, vs2, d2, ds2, p2, q2, rfl, rfl, rfl, h2, r2⟩ := trodAll_cons r1
  obtain ⟨rfl, rfl, rfl⟩ := trodAll_nil r2
  obtain rfl : args = #[v0, v1, v2] := by cases args; simp_all
  obtain ⟨rfl, rfl⟩ := trodVars_none hV
  have k0_ := h0
  have lt0 : ∀ x ∈ p0, x.block < W.heap.size := by obtain ⟨m, hm⟩ := k0_; exact DataW.trod_lt m _ _ _ hm
  obtain ⟨x0, K0, ok0⟩ := opensV_param op25 h0 hsz (j := 0) rfl rfl
  obtain ⟨cs0, rfl, _⟩ := okWide_struct Tryz.underlying25 (hval 0 25 v0 rfl rfl)
  have k1_ := h1
  have lt1 : ∀ x ∈ p1, x.block < W.heap.size := by obtain ⟨m, hm⟩ := k1_; exact DataW.trod_lt m _ _ _ hm
  obtain ⟨x1, K1, ok1⟩ := opensV_param (opensV_int Tryz.underlying3) h1 hsz (j := 1) rfl rfl
  obtain ⟨a1, rfl, rfl, rfl, y1⟩ := open_int Tryz.underlying3 (hval 1 3 v1 rfl rfl) h1
  have k2_ := h2
  have lt2 : ∀ x ∈ p2, x.block < W.heap.size := by obtain ⟨m, hm⟩ := k2_; exact DataW.trod_lt m _ _ _ hm
  obtain ⟨x2, K2, ok2⟩ := opensV_param (opensV_int Tryz.underlying3) h2 hsz (j := 2) rfl rfl
  obtain ⟨a2, rfl, rfl, rfl, y2⟩ := open_int Tryz.underlying3 (hval 2 3 v2 rfl rfl) h2
  clear hA0 hval0 hsz0 hsz
  have hP := Pure.FnEveryYard x0 ok0 x1 ok1 x2 ok2
  have hv : VRs (TV.start W) [.agg (cYard x0), I x1, I x2] [Value.agg cs0, Value.int .i64 a1, Value.int .i64 a2] := by unfold VRs; exact ⟨_, _, rfl, VR_aggv K0, by unfold VRs; exact ⟨_, _, rfl, VR_cell rfl K1, by unfold VRs; exact ⟨_, _, rfl, VR_cell rfl K2, by unfold VRs; rfl⟩⟩⟩
  refine (calls_of_fn (by kernel_rfl) extSOk (kn0 W) hv hP).mono fun e W' ⟨he, bel⟩ => ?_
  subst he
  exact ⟨_, rfl, _, _, _, [], _, [], hW', trodAll_mk1 (shut_bool Tryz.underlying4 _), (trodAll_cons_mk (Below.trod laidOut (by kernel_rfl) (of_decide_eq_true (by kernel_rfl)) k0_ bel lt0) (trodAll_cons_mk (Below.trod laidOut (by kernel_rfl) (of_decide_eq_true (by kernel_rfl)) k1_ bel lt1) (trodAll_cons_mk (Below.trod laidOut (by kernel_rfl) (of_decide_eq_true (by kernel_rfl)) k2_ bel lt2) trodAll_mk0))), rfl, bel.frame _, fun h => by cases h⟩
theorem kIn : (Rows.fnEveryYardRow.inPlace == Tryz.pinned.checked.prog.inPlace 3) = true := by kernel_rfl
theorem kUn : (Rows.fnEveryYardRow.unfollowed == Tryz.pinned.checked.prog.unfollowed 3) = true := by kernel_rfl
theorem kRe : (Rows.fnEveryYardRow.recurses == Tryz.pinned.checked.prog.recurses 3) = true := by kernel_rfl
theorem kNa : (Rows.fnEveryYardRow.named == Tryz.pinned.checked.prog.varsNamed 3) = true := by kernel_rfl
theorem closed : joinedFacts Tryz.pinned.checked.prog 3 Tryz.f3 Rows.fnEveryYardSpec Rows.fnEveryYardRow = true := by
  unfold joinedFacts
  rw [kIn, kUn, kRe, kNa]
  kernel_rfl
theorem over : Rows.fnEveryYardRow.holds Tryz.pinned (OpenSpec.ofChange Rows.fnEveryYardSpec) :=
  OpenClaim.holds_of_wide 3 Tryz.f3 rfl rfl rfl rfl rfl rfl rfl ⟨rfl, rfl, rfl, rfl, rfl⟩ rfl rfl rfl rfl rfl (by kernel_rfl) Tryz.func3 closed
    (of_decide_eq_true (by kernel_rfl)) (by unfold Func.isWrapper; first | (rw [if_pos (by decide +kernel)]; kernel_rfl) | (rw [if_neg (by decide +kernel)]; exact ⟨rfl, rfl⟩))
    (fun os started H enc _ => lifted os started H enc)
theorem proved : Rows.FnEveryYardSaid := over
end Go.Proofs.YtkpdoehbhmipcaaGreat.fnEveryYard
namespace Go.Proofs.YtkpdoehbhmipcaaGreat
/-- The row, under a short name, for the claim. -/
theorem fnEveryYard_holds : Rows.FnEveryYardSaid := fnEveryYard.proved
end Go.Proofs.YtkpdoehbhmipcaaGreat
