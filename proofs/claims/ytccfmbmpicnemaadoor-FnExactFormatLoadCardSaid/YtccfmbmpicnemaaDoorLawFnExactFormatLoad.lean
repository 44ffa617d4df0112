import Derived.Test.YtccfmbmpicnemaaDoorCards
import Derived.Test.YtccfmbmpicnemaaDoorTie
import Derived.Test.YtccfmbmpicnemaaDoorRows
import Derived.Test.YtccfmbmpicnemaaDoorPureFnExactFormatLoad
import Derived.WalkKit
import Derived.ProofKit
import Derived.OpenShut
import Derived.ShutString
import Derived.ChangeOld
import Derived.Below
import Derived.SizedLaws
import Derived.LaidMore
import Derived.Stop.Joined
import Derived.Stop.LaidErr
import Derived.Lib.LaidTab
import Derived.Lib.ItoaNum
import Derived.SevenTiedAt
namespace Go.Proofs.YtccfmbmpicnemaaDoor.fnExactFormatLoad
open Go.ChangeShapes Go.WideShapes Go.ChangeAt Go.RowKit Go.TV
open Go.ChangeMaps (open_string shut_string)
set_option linter.unusedVariables false
theorem own : ownKnob Tryd.prog.godebug = none := by kernel_rfl
theorem laidOut : laidOutB Tryd.prog = true := by kernel_rfl
set_option maxRecDepth 100000 in
theorem op66 : OpensV Tryd.prog 66 cJoint okJoint := opensV_iso (fun y : Joint => (y.name, y.x, y.y, y.fixed)) (fun x => ⟨x.1, x.2.1, x.2.2.1, x.2.2.2⟩) (fun _ => rfl) (opensV_struct Tryd.underlying66 (opensVF_cons (off := 0) (sz := 1) (off' := 1) rfl rfl (opensV_string Tryd.underlying9) (by kernel_rfl) (opensVF_cons (off := 1) (sz := 1) (off' := 2) rfl rfl (opensV_int Tryd.underlying3) (by kernel_rfl) (opensVF_cons (off := 2) (sz := 1) (off' := 3) rfl rfl (opensV_int Tryd.underlying3) (by kernel_rfl) (opensVF_one (off := 3) (sz := 1) rfl rfl (opensV_bool Tryd.underlying4) (by kernel_rfl)) (by rfl)) (by rfl)) (by rfl)) (by kernel_rfl))
set_option maxRecDepth 100000 in
theorem op22 : OpensV Tryd.prog 22 (fun xs : List Joint => [LL cJoint xs]) (okL 40 okJoint) := opensV_slice (B := 40) (size := 4) Tryd.underlying22 op66 (fun _ => rfl) (by kernel_rfl) (by kernel_rfl)
set_option maxRecDepth 100000 in
theorem op72 : OpensV Tryd.prog 72 cMember okMember := opensV_iso (fun y : Member => (y.a, y.b, y.kind)) (fun x => ⟨x.1, x.2.1, x.2.2⟩) (fun _ => rfl) (opensV_struct Tryd.underlying72 (opensVF_cons (off := 0) (sz := 1) (off' := 1) rfl rfl (opensV_int Tryd.underlying3) (by kernel_rfl) (opensVF_cons (off := 1) (sz := 1) (off' := 2) rfl rfl (opensV_int Tryd.underlying3) (by kernel_rfl) (opensVF_one (off := 2) (sz := 1) rfl rfl (opensV_int Tryd.underlying3) (by kernel_rfl)) (by rfl)) (by rfl)) (by kernel_rfl))
set_option maxRecDepth 100000 in
theorem op23 : OpensV Tryd.prog 23 (fun xs : List Member => [LL cMember xs]) (okL 24 okMember) := opensV_slice (B := 24) (size := 3) Tryd.underlying23 op72 (fun _ => rfl) (by kernel_rfl) (by kernel_rfl)
set_option maxRecDepth 100000 in
theorem op25 : OpensV Tryd.prog 25 cStructure okStructure := opensV_iso (fun y : Structure => (y.joints, y.members)) (fun x => ⟨x.1, x.2⟩) (fun _ => rfl) (opensV_struct Tryd.underlying25 (opensVF_cons (off := 0) (sz := 1) (off' := 1) rfl rfl op22 (by kernel_rfl) (opensVF_one (off := 1) (sz := 1) rfl rfl op23 (by kernel_rfl)) (by rfl)) (by kernel_rfl))
set_option maxRecDepth 100000 in
theorem op35 : OpensV Tryd.prog 35 (fun xs : List Int => [LL cI xs]) (okL 8 okI) := opensV_slice (B := 8) (size := 1) Tryd.underlying35 (opensV_int Tryd.underlying3) (fun _ => rfl) (by kernel_rfl) (by kernel_rfl)
theorem door_met (os : Os) (args : Array Value) : laidMetH Tryd.prog Rows.fnExactFormatLoadRow.laid ((World.doorLaid Tryd.prog 24 os).forCall (fun _ _ => 0) ⟨#[], args, []⟩).memory :=
  laidMetH_of_parts3 (fuel := 8) (laidMet_of_run' 8 (by kernel_rfl) (by kernel_rfl)) (by kernel_rfl) (by kernel_rfl)
theorem tabE : (Rows.laid_internal_strconv_uint64pow10 : DataW Unit) = Lib.tabData .u64 Lib.pow10Tab := by kernel_rfl
theorem tabT {W : World} (h : laidMet Tryd.prog Rows.fnExactFormatLoadRow.laid W) : Lib.TabIs Tryd.prog W "internal/strconv.uint64pow10" .u64 Lib.pow10Tab := by
  have h1 : laidMet Tryd.prog [("math/bits.deBruijn32tab", Rows.laid_math_bits_deBruijn32tab), ("math/bits.deBruijn64tab", Rows.laid_math_bits_deBruijn64tab), ("internal/strconv.uint64pow10", Rows.laid_internal_strconv_uint64pow10)] W := h
  have h2 := h1.tail.tail
  rw [tabE] at h2
  exact Lib.tabIs_of_head (g := 0) (t := 100) (e := 92) (n := 20) (by kernel_rfl) (by kernel_rfl) (by kernel_rfl) (by kernel_rfl) (by kernel_rfl) (by kernel_rfl) h2
set_option maxRecDepth 100000 in
theorem lifted (os : Os) (started : os.Started) (H : Type) (enc : TypeId × Value → H) :
    ReturnsInHanded {} Tryd.checked os 4 .any (fun w args => (Rows.fnExactFormatLoadSpec.pre enc Tryd.prog Tryd.f4 [] false w args ∧ laidMetH Tryd.prog Rows.fnExactFormatLoadRow.laid w) ∧ sizedMet enc Tryd.prog Tryd.f4 (OpenSpec.ofChange Rows.fnExactFormatLoadSpec) false w args) (Rows.fnExactFormatLoadSpec.post enc Tryd.prog Tryd.f4 false true false false) := by
  refine returnsInHanded_of_change_and (C := Tryd.checked) (X := (fun w _ => laidMetH Tryd.prog Rows.fnExactFormatLoadRow.laid w)) (fun _ _ _ hh h => h.of_heap hh) own started (by kernel_rfl) Tryd.func4
    (ChangeSpec.witness_shaped (enc := enc) (C := Tryd.checked) (os := os) (X := (fun w _ => laidMetH Tryd.prog Rows.fnExactFormatLoadRow.laid w)) false (World.doorLaid Tryd.prog 24 os) #[.agg #[.slice none 0 0, .slice none 0 0], .slice none 0 0] 8 rfl (World.shaped_of_RefB (by kernel_rfl) (by kernel_rfl)) (by kernel_rfl) (by kernel_rfl) (by kernel_rfl) (door_met os _)) ?_
  intro W base args ds gs before hval0 hW hcnd hsz0 hL _
  rw [MakeChecks.laidMetH_plain _ _ _ (by kernel_rfl)] at hL
  have hT := tabT hL
  have hsz : (DataW.weightsEach Tryd.prog (Tryd.f4.params.toList ++ Rows.fnExactFormatLoadSpec.plain.varTypes Tryd.prog) (ds ++ gs)).all (· ≤ reachBytes) = true := hsz0
  have hval : ∀ (j : Nat) t v, Tryd.f4.params[j]? = some t → args[j]? = some v → Value.okWide Tryd.prog W .any base t v := hval0
  have hW' := hW
  obtain ⟨p, q, hA0, hV, rfl, hfz, hnd⟩ := hW
  have hA : DataW.TrodAll enc Tryd.prog W 0 (fun _ => true) true Tryd.f4.params.toList args.toList ds p := hA0
  rw [Tryd.params4] at hA hval hsz
  obtain ⟨v0, vs0, d0, ds0, p0, q0, hargs, rfl, rfl, h0, r0⟩ := trodAll_cons hA
  obtain ⟨v1, vs1, d1, ds1, p1, q1, rfl, rfl, rfl, h1, r1⟩ := trodAll_cons r0
  obtain ⟨rfl, rfl, rfl⟩ := trodAll_nil r1
  obtain rfl : args = #[v0, v1] := by cases args; simp_all
  obtain ⟨rfl, rfl⟩ := trodVars_none hV
  have k0_ := h0
  have lt0 : ∀ x ∈ p0, x.block < W.heap.size := by obtain ⟨m, hm⟩ := k0_; exact DataW.trod_lt m _ _ _ hm
  obtain ⟨x0, K0, ok0⟩ := opensV_param op25 h0 hsz (j := 0) rfl rfl
  obtain ⟨cs0, rfl, _⟩ := okWide_struct Tryd.underlying25 (hval 0 25 v0 rfl rfl)
  have k1_ := h1
  have lt1 : ∀ x ∈ p1, x.block < W.heap.size := by obtain ⟨m, hm⟩ := k1_; exact DataW.trod_lt m _ _ _ hm
  obtain ⟨x1, K1, ok1⟩ := opensV_param op35 h1 hsz (j := 1) rfl rfl
  obtain ⟨A1, len1, c1, rfl⟩ := okWide_slice Tryd.underlying35 (hval 1 35 v1 rfl rfl)
  clear hA0 hval0 hsz0 hsz
  have hP := Pure.FnExactFormatLoad x0 ok0 x1 ok1
  have hv : VRs (TV.start W) [.agg (cStructure x0), LL cI x1] [Value.agg cs0, Value.slice A1 len1 c1] := by unfold VRs; exact ⟨_, _, rfl, VR_aggv K0, by unfold VRs; exact ⟨_, _, rfl, VR_cell rfl K1, by unfold VRs; rfl⟩⟩
  refine (calls_of_fn (by kernel_rfl) extOk (kn0 W hT) hv hP).mono fun e W' ⟨he, bel⟩ => ?_
  subst he
  exact ⟨_, rfl, _, _, _, [], _, [], hW', trodAll_mk1 (shut_bool Tryd.underlying4 _), (trodAll_cons_mk (Below.trod laidOut (by kernel_rfl) (of_decide_eq_true (by kernel_rfl)) k0_ bel lt0) (trodAll_cons_mk (Below.trod laidOut (by kernel_rfl) (of_decide_eq_true (by kernel_rfl)) k1_ bel lt1) trodAll_mk0)), rfl, bel.frame _, fun h => by cases h⟩
theorem kIn : (Rows.fnExactFormatLoadRow.inPlace == Tryd.pinned.checked.prog.inPlace 4) = true := by kernel_rfl
theorem kUn : (Rows.fnExactFormatLoadRow.unfollowed == Tryd.pinned.checked.prog.unfollowed 4) = true := by kernel_rfl
theorem kRe : (Rows.fnExactFormatLoadRow.recurses == Tryd.pinned.checked.prog.recurses 4) = true := by kernel_rfl
theorem kNa : (Rows.fnExactFormatLoadRow.named == Tryd.pinned.checked.prog.varsNamed 4) = true := by kernel_rfl
theorem closed : joinedFacts Tryd.pinned.checked.prog 4 Tryd.f4 Rows.fnExactFormatLoadSpec Rows.fnExactFormatLoadRow = true := by
  unfold joinedFacts
  rw [kIn, kUn, kRe, kNa]
  kernel_rfl
theorem over : Rows.fnExactFormatLoadRow.holds Tryd.pinned (OpenSpec.ofChange Rows.fnExactFormatLoadSpec) :=
  OpenClaim.holds_of_wide 4 Tryd.f4 rfl rfl rfl rfl rfl rfl rfl ⟨rfl, rfl, rfl, rfl, rfl⟩ rfl rfl rfl rfl rfl (by kernel_rfl) Tryd.func4 closed
    (of_decide_eq_true (by kernel_rfl)) (by unfold Func.isWrapper; first | (rw [if_pos (by decide +kernel)]; kernel_rfl) | (rw [if_neg (by decide +kernel)]; exact ⟨rfl, rfl⟩))
    (fun os started H enc _ => lifted os started H enc)
theorem proved : Rows.FnExactFormatLoadCardSaid :=
  Claim7.holds_tied_plain_at .later [] [.data, .data, .data] true (true, "6271b02d6116fd9165d19943cf0251732a4f483b28afd67b36eaa43c4c594154") false
    over (fun _ h => by cases h) (by kernel_rfl) (fun _ h => by cases h) fnExactFormatLoad_row_tie rfl ⟨rfl, rfl⟩ (by kernel_rfl) rfl
    (fun f fn hf hfn => by
      obtain rfl : f = 4 := Option.some.inj ((show Tryd.prog.funcNamed "loop.example/g00830/laws.FnExactFormatLoad" = some 4 by kernel_rfl).symm.trans hf) |>.symm
      obtain rfl : fn = Tryd.f4 := (Option.some.inj (Tryd.func4.symm.trans hfn)).symm
      exact ⟨by kernel_rfl, fun j t ht => by
        rw [Tryd.params4] at ht
        have hm : t ∈ [25, 35] := by simpa using Array.mem_of_getElem? ht
        have hall : ([25, 35].all fun u => !Tryd.prog.wantsStandIn u) = true := by kernel_rfl
        exact (show Tryd.prog.wantsStandIn t = false by simpa using List.all_eq_true.1 hall t hm)⟩)
    (by kernel_rfl)
end Go.Proofs.YtccfmbmpicnemaaDoor.fnExactFormatLoad
namespace Go.Proofs.YtccfmbmpicnemaaDoor
/-- The row, under a short name, for the claim. -/
theorem fnExactFormatLoad_holds : Rows.FnExactFormatLoadCardSaid := fnExactFormatLoad.proved
end Go.Proofs.YtccfmbmpicnemaaDoor
