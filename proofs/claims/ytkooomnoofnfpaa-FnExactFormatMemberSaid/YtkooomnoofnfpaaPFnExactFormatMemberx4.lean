-- Printed by this session's own copy of the print, functions that were proved by hand among them.
import Derived.Test.YtkooomnoofnfpaaPFnExactFormatMemberx0
import Derived.Test.YtkooomnoofnfpaaPFnExactFormatMemberx3
namespace Go.Proofs.Ytkooomnoofnfpaa.PFnExactFormatMember
open Go.RowKit Go.Proofs.YtkooomnoofnfpaaW.PrintWords Go.Proofs.YtkooomnoofnfpaaW.PrintLast Go.Proofs.YtkooomnoofnfpaaW.PrintMore
attribute [local go_sem] max2_int min2_int max_two min_two max_three min_three max_four min_four   -- for this text's walks alone
set_option linter.unusedVariables false
set_option linter.unusedSimpArgs false

/-! ### laws_toStructure: function 36 -/
def laws_toStructure.f (k : Nat) (l0_0 : List (S110)) (l0_1 : List (S116)) : Option ((List (S111)) × (List (S96))) := (laws_toJointS.f k l0_0).bind fun t170 => ((laws_toMemberS.f k l0_1).bind fun t173 => (some (t170, t173)))
theorem laws_toStructure.mono : ∀ a0 a1 k, LeO (laws_toStructure.f k a0 a1) (laws_toStructure.f (k + 1) a0 a1) := by
  intro a0 a1 k
  unfold laws_toStructure.f
  repeat' first
      | (with_reducible exact laws_toJointS.mono _ _)
      | (with_reducible exact laws_toMemberS.mono _ _)
      | (with_reducible exact LeO.refl _)
      | (with_reducible exact LeO.none _)
      | (with_reducible refine LeO.ite ?_ ?_)
      | (with_reducible refine LeO.bind ?_ (fun _ => ?_))
      | exact laws_toJointS.mono _ _
      | exact laws_toMemberS.mono _ _
      | exact LeO.none _
      | refine LeO.ite ?_ ?_
      | refine LeO.bind ?_ (fun _ => ?_)
set_option maxHeartbeats 8000000 in
set_option maxRecDepth 100000 in
theorem laws_toStructure.calls (k : Nat) (A0_0 : Option Addr) (c0_0 : Nat) (l0_0 : List (S110)) (A0_1 : Option Addr) (c0_1 : Nat) (l0_1 : List (S116)) (r1 : List (S111)) (r2 : List (S96)) (w : World) (hr0_0 : Kd.C k110 w A0_0 l0_0.length l0_0) (hc0_0 : l0_0.length ≤ c0_0) (hr0_1 : Kd.C k116 w A0_1 l0_1.length l0_1) (hc0_1 : l0_1.length ≤ c0_1) (h : laws_toStructure.f k l0_0 l0_1 = some (r1, r2)) :
    Calls Try.prog 36 #[.agg #[.slice A0_0 l0_0.length c0_0, .slice A0_1 l0_1.length c0_1]] w fun e w' => ∃ v0_ v1_ : Value, e = .returned (.agg #[v0_, v1_]) ∧ Kd.R k111 111 w' w.heap.size (fun _ => True) v0_ r1 ∧ Kd.R k96 96 w' w.heap.size (fun _ => True) v1_ r2 ∧ Below w.heap.size w w' := by
  have hu56 := Try.underlying56
  have hu62 := Try.underlying62
  have HR0_0 := Aside0.mk hr0_0
  have HC0_0 := Aside0.mk hc0_0
  clear hr0_0 hc0_0
  have HR0_1 := Aside0.mk hr0_1
  have HC0_1 := Aside0.mk hc0_1
  clear hr0_1 hc0_1
  have HB := Aside0.mk (Below.refl w.heap.size w)
  have H : ((laws_toJointS.f k l0_0).bind fun t170 => ((laws_toMemberS.f k l0_1).bind fun t173 => (some (t170, t173)))) = some (r1, r2) := h
  clear h
  replace H := Option.bind_eq_some_iff.mp H
  obtain ⟨t170, A20, H⟩ := H
  replace H : ((laws_toMemberS.f k l0_1).bind fun t173 => (some (t170, t173))) = some (r1, r2) := H
  have A2 := Aside0.mk A20
  clear A20
  replace H := Option.bind_eq_some_iff.mp H
  obtain ⟨t173, A30, H⟩ := H
  replace H : (some (t170, t173)) = some (r1, r2) := H
  have A3 := Aside0.mk A30
  clear A30
  simp only [Option.some.injEq, Prod.mk.injEq] at H
  obtain ⟨rfl, rfl⟩ := H
  go_enter Try.func36, Try.ntmps36
  go_wp2_with (first | ((with_reducible refine gate_dst (N := 1) rfl ?_); refine box_event ?hg (N := 1) ?hd (cs := #[.slice A0_0 l0_0.length c0_0, .slice A0_1 l0_1.length c0_1]) (t := 56) ?hr ?_; (case hd => rfl); (case hg => rfl); (case hr => first | (go_simp; done) | (go_simp; rfl)); intro gb167 hg w4 hbox hb; have n0_ := Aside0.mk (below_step (by repeat (first | (with_reducible first | exact HB.out | apply below_alloc | apply pw_below_drewN | apply below_drew1) | exact HB.out)) hb); have n1_ := Aside0.mk (hbox); have n2_ := Aside0.mk ((by rw [hg]; exact (below_size (by repeat (first | (with_reducible first | exact HB.out | apply below_alloc | apply pw_below_drewN | apply below_drew1) | exact HB.out))) : w.heap.size ≤ gb167)); have n3_ := Aside0.mk ((by rw [hg]; exact (below_size (by repeat (first | (with_reducible first | exact HB.out | apply below_alloc | apply pw_below_drewN | apply below_drew1) | exact HB.out))) : w.heap.size ≤ gb167)); clear HB; have HB := n0_; have BK167 := n1_; have GW167 := n2_; have GE167 := n3_; clear n0_ n1_ n2_ n3_; clear hb hbox hg) | ((with_reducible refine gate_dst (N := 2) rfl ?_); refine box_event ?hg (N := 2) ?hd (cs := #[.slice none 0 0, .slice none 0 0]) (t := 62) ?hr ?_; (case hd => rfl); (case hg => rfl); (case hr => first | (go_simp; done) | (go_simp; rfl)); intro gb168 hg w5 hbox hb; have n0_ := Aside0.mk (blk_below (g := gb167) (o := .cells #[.slice A0_0 l0_0.length c0_0, .slice A0_1 l0_1.length c0_1] 56 (0, 0)) (by (with_reducible repeat (first | refine blk_drewN ?_ _ | refine blk_drew ?_ | refine blk_alloc ?_ _)); exact BK167.out) hb); have n1_ := Aside0.mk (below_step (by repeat (first | (with_reducible first | exact HB.out | apply below_alloc | apply pw_below_drewN | apply below_drew1 | refine below_set ?_ GE167.out) | exact HB.out)) hb); have n2_ := Aside0.mk (hbox); have n3_ := Aside0.mk ((by rw [hg]; exact (below_size (by repeat (first | (with_reducible first | exact HB.out | apply below_alloc | apply pw_below_drewN | apply below_drew1 | refine below_set ?_ GE167.out) | exact HB.out))) : w.heap.size ≤ gb168)); have n4_ := Aside0.mk ((by rw [hg]; exact (below_size (by repeat (first | (with_reducible first | exact HB.out | apply below_alloc | apply pw_below_drewN | apply below_drew1 | refine below_set ?_ GE167.out) | exact HB.out))) : w.heap.size ≤ gb168)); have n5_ := Aside0.mk ((by rw [hg]; exact Nat.ne_of_lt (blk_lt (g := gb167) (o := .cells #[.slice A0_0 l0_0.length c0_0, .slice A0_1 l0_1.length c0_1] 56 (0, 0)) (by (with_reducible repeat (first | refine blk_drewN ?_ _ | refine blk_drew ?_ | refine blk_alloc ?_ _)); exact BK167.out)) : gb167 ≠ gb168)); have n6_ := Aside0.mk ((by rw [hg]; exact Nat.ne_of_gt (blk_lt (g := gb167) (o := .cells #[.slice A0_0 l0_0.length c0_0, .slice A0_1 l0_1.length c0_1] 56 (0, 0)) (by (with_reducible repeat (first | refine blk_drewN ?_ _ | refine blk_drew ?_ | refine blk_alloc ?_ _)); exact BK167.out)) : gb168 ≠ gb167)); clear BK167; clear HB; have BK167 := n0_; have HB := n1_; have BK168 := n2_; have GW168 := n3_; have GE168 := n4_; have NB167_168 := n5_; have NB168_167 := n6_; clear n0_ n1_ n2_ n3_ n4_ n5_ n6_; clear hb hbox hg) | ((with_reducible refine gate_dst (N := 3) rfl ?_); refine box_event ?hg (N := 3) ?hd (cs := #[.slice none 0 0, .slice none 0 0]) (t := 62) ?hr ?_; (case hd => rfl); (case hg => rfl); (case hr => first | (go_simp; done) | (go_simp; rfl)); intro gb169 hg w6 hbox hb; have n0_ := Aside0.mk (blk_below (g := gb167) (o := .cells #[.slice A0_0 l0_0.length c0_0, .slice A0_1 l0_1.length c0_1] 56 (0, 0)) (by (with_reducible repeat (first | refine blk_drewN ?_ _ | refine blk_drew ?_ | refine blk_alloc ?_ _)); exact BK167.out) hb); have n1_ := Aside0.mk (blk_below (g := gb168) (o := .cells #[.slice none 0 0, .slice none 0 0] 62 (0, 0)) (by (with_reducible repeat (first | refine blk_drewN ?_ _ | refine blk_drew ?_ | refine blk_alloc ?_ _)); exact BK168.out) hb); have n2_ := Aside0.mk (below_step (by repeat (first | (with_reducible first | exact HB.out | apply below_alloc | apply pw_below_drewN | apply below_drew1 | refine below_set ?_ GE167.out | refine below_set ?_ GE168.out) | exact HB.out)) hb); have n3_ := Aside0.mk (hbox); have n4_ := Aside0.mk ((by rw [hg]; exact (below_size (by repeat (first | (with_reducible first | exact HB.out | apply below_alloc | apply pw_below_drewN | apply below_drew1 | refine below_set ?_ GE167.out | refine below_set ?_ GE168.out) | exact HB.out))) : w.heap.size ≤ gb169)); have n5_ := Aside0.mk ((by rw [hg]; exact (below_size (by repeat (first | (with_reducible first | exact HB.out | apply below_alloc | apply pw_below_drewN | apply below_drew1 | refine below_set ?_ GE167.out | refine below_set ?_ GE168.out) | exact HB.out))) : w.heap.size ≤ gb169)); have n6_ := Aside0.mk ((by rw [hg]; exact Nat.ne_of_lt (blk_lt (g := gb167) (o := .cells #[.slice A0_0 l0_0.length c0_0, .slice A0_1 l0_1.length c0_1] 56 (0, 0)) (by (with_reducible repeat (first | refine blk_drewN ?_ _ | refine blk_drew ?_ | refine blk_alloc ?_ _)); exact BK167.out)) : gb167 ≠ gb169)); have n7_ := Aside0.mk ((by rw [hg]; exact Nat.ne_of_gt (blk_lt (g := gb167) (o := .cells #[.slice A0_0 l0_0.length c0_0, .slice A0_1 l0_1.length c0_1] 56 (0, 0)) (by (with_reducible repeat (first | refine blk_drewN ?_ _ | refine blk_drew ?_ | refine blk_alloc ?_ _)); exact BK167.out)) : gb169 ≠ gb167)); have n8_ := Aside0.mk ((by rw [hg]; exact Nat.ne_of_lt (blk_lt (g := gb168) (o := .cells #[.slice none 0 0, .slice none 0 0] 62 (0, 0)) (by (with_reducible repeat (first | refine blk_drewN ?_ _ | refine blk_drew ?_ | refine blk_alloc ?_ _)); exact BK168.out)) : gb168 ≠ gb169)); have n9_ := Aside0.mk ((by rw [hg]; exact Nat.ne_of_gt (blk_lt (g := gb168) (o := .cells #[.slice none 0 0, .slice none 0 0] 62 (0, 0)) (by (with_reducible repeat (first | refine blk_drewN ?_ _ | refine blk_drew ?_ | refine blk_alloc ?_ _)); exact BK168.out)) : gb169 ≠ gb168)); clear BK167; clear BK168; clear HB; have BK167 := n0_; have BK168 := n1_; have HB := n2_; have BK169 := n3_; have GW169 := n4_; have GE169 := n5_; have NB167_169 := n6_; have NB169_167 := n7_; have NB168_169 := n8_; have NB169_168 := n9_; clear n0_ n1_ n2_ n3_ n4_ n5_ n6_ n7_ n8_ n9_; clear hb hbox hg; have hnb7 := NB167_168.out; have hnc7 := NB168_167.out; have hnb8 := NB167_169.out; have hnc8 := NB169_167.out; have hcz9_0 : w6.cell? ⟨gb167, 0, none⟩ = some (.slice A0_0 l0_0.length c0_0) := (blk_cell BK167.out 0).trans rfl; have hcz9_1 : w6.cell? ⟨gb167, 1, none⟩ = some (.slice A0_1 l0_1.length c0_1) := (blk_cell BK167.out 1).trans rfl; have hfz9_0 := blk_frozen BK167.out 0; have hfz9_1 := blk_frozen BK167.out 1) | ((with_reducible refine gate_callee (f := 67) rfl ?_); refine goesL_ (some 6) rfl rfl Try.func67 (by kernel_rfl) rfl #[.slice A0_0 l0_0.length c0_0] rfl (by (try simp only [List.map_toArray, List.map_cons, List.map_nil]); first | done | rfl | (simp only [List.length_drop, List.length_take]; rfl)) ?_; (with_reducible refine (laws_toJointS.calls k _ _ l0_0 t170 _ ?side1 ?side2 A2.out).mono ?_); (case side1 => repeat (first | exact (Kd.C_below HR0_0.out HB.out) | (with_reducible refine Kd.C_alloc ?_ _) | (with_reducible refine Kd.C_drewN ?_ _) | (with_reducible refine Kd.C_drew ?_))); (case side2 => exact HC0_0.out); rintro e w10 ⟨v171, rfl, ho0, hb⟩; refine ⟨_, rfl, ?_⟩; have n0_ := Aside0.mk (Kd.R_lower ho0 (below_size (by repeat (first | (with_reducible first | exact HB.out | apply below_alloc | apply pw_below_drewN | apply below_drew1 | refine below_set ?_ GE167.out | refine below_set ?_ GE168.out | refine below_set ?_ GE169.out) | exact HB.out)))); have n1_ := Aside0.mk (blk_below (g := gb167) (o := .cells #[.slice A0_0 l0_0.length c0_0, .slice A0_1 l0_1.length c0_1] 56 (0, 0)) (by (with_reducible repeat (first | refine blk_drewN ?_ _ | refine blk_drew ?_ | refine blk_alloc ?_ _)); exact BK167.out) hb); have n2_ := Aside0.mk (blk_below (g := gb168) (o := .cells #[.slice none 0 0, .slice none 0 0] 62 (0, 0)) (by (with_reducible repeat (first | refine blk_drewN ?_ _ | refine blk_drew ?_ | refine blk_alloc ?_ _)); exact BK168.out) hb); have n3_ := Aside0.mk (blk_below (g := gb169) (o := .cells #[.slice none 0 0, .slice none 0 0] 62 (0, 0)) (by (with_reducible repeat (first | refine blk_drewN ?_ _ | refine blk_drew ?_ | refine blk_alloc ?_ _)); exact BK169.out) hb); have n4_ := Aside0.mk (below_step (by repeat (first | (with_reducible first | exact HB.out | apply below_alloc | apply pw_below_drewN | apply below_drew1 | refine below_set ?_ GE167.out | refine below_set ?_ GE168.out | refine below_set ?_ GE169.out) | exact HB.out)) hb); clear BK167; clear BK168; clear BK169; clear HB; have HO172 := n0_; have BK167 := n1_; have BK168 := n2_; have BK169 := n3_; have HB := n4_; clear n0_ n1_ n2_ n3_ n4_; (try clear hb); (try clear hb2); (try clear hk); (try clear hi); (try clear ho0); obtain ⟨Ao11, co11, eo11⟩ := Kd.R_slice HO172.out; subst eo11; have hnb12 := NB169_168.out; have hnc12 := NB168_169.out; have hcz13_0 : w10.cell? ⟨gb169, 0, none⟩ = some (.slice none 0 0) := (blk_cell BK169.out 0).trans rfl; have hcz13_1 : w10.cell? ⟨gb169, 1, none⟩ = some (.slice none 0 0) := (blk_cell BK169.out 1).trans rfl; have hfz13_0 := blk_frozen BK169.out 0; have hfz13_1 := blk_frozen BK169.out 1; have hcz14_0 : w10.cell? ⟨gb167, 0, none⟩ = some (.slice A0_0 l0_0.length c0_0) := (blk_cell BK167.out 0).trans rfl; have hcz14_1 : w10.cell? ⟨gb167, 1, none⟩ = some (.slice A0_1 l0_1.length c0_1) := (blk_cell BK167.out 1).trans rfl; have hfz14_0 := blk_frozen BK167.out 0; have hfz14_1 := blk_frozen BK167.out 1) | ((with_reducible refine gate_callee (f := 68) rfl ?_); refine goesL_ (some 10) rfl rfl Try.func68 (by kernel_rfl) rfl #[.slice A0_1 l0_1.length c0_1] rfl (by (try simp only [List.map_toArray, List.map_cons, List.map_nil]); first | done | rfl | (simp only [List.length_drop, List.length_take]; rfl)) ?_; (with_reducible refine (laws_toMemberS.calls k _ _ l0_1 t173 _ ?side1 ?side2 A3.out).mono ?_); (case side1 => exact Kd.C_below HR0_1.out (by repeat (first | (with_reducible first | exact HB.out | apply below_alloc | apply pw_below_drewN | apply below_drew1 | refine below_set ?_ GE167.out | refine below_set ?_ GE168.out | refine below_set ?_ GE169.out) | exact HB.out))); (case side2 => exact HC0_1.out); rintro e w15 ⟨v174, rfl, ho0, hb⟩; refine ⟨_, rfl, ?_⟩; have n0_ := Aside0.mk (Kd.R_below (by (with_reducible repeat (first | apply Kd.R_alloc | apply Kd.R_drewN | apply Kd.R_drew)); exact (Kd.R_mono (Kd.R_far (p := ⟨gb169, 0, none⟩) (Kd.R_types HO172.out BK169.out (by decide)) (fun _ hk => hk.2) (.slice Ao11 t170.length co11)) (fun _ h_ => h_.1))) hb); have n1_ := Aside0.mk (Kd.R_lower ho0 (below_size (by repeat (first | (with_reducible first | exact HB.out | apply below_alloc | apply pw_below_drewN | apply below_drew1 | refine below_set ?_ GE167.out | refine below_set ?_ GE168.out | refine below_set ?_ GE169.out) | exact HB.out)))); have n2_ := Aside0.mk (blk_below (g := gb167) (o := .cells #[.slice A0_0 l0_0.length c0_0, .slice A0_1 l0_1.length c0_1] 56 (0, 0)) (by (with_reducible repeat (first | refine blk_drewN ?_ _ | refine blk_drew ?_ | refine blk_alloc ?_ _)); refine blk_far ?_ NB167_169.out _; (with_reducible repeat (first | refine blk_drewN ?_ _ | refine blk_drew ?_ | refine blk_alloc ?_ _)); exact BK167.out) hb); have n3_ := Aside0.mk (blk_below (g := gb168) (o := .cells #[.slice none 0 0, .slice none 0 0] 62 (0, 0)) (by (with_reducible repeat (first | refine blk_drewN ?_ _ | refine blk_drew ?_ | refine blk_alloc ?_ _)); refine blk_far ?_ NB168_169.out _; (with_reducible repeat (first | refine blk_drewN ?_ _ | refine blk_drew ?_ | refine blk_alloc ?_ _)); exact BK168.out) hb); have n4_ := Aside0.mk (blk_below (g := gb169) (o := .cells #[.slice Ao11 t170.length co11, .slice none 0 0] 62 (0, 0)) (by (with_reducible repeat (first | refine blk_drewN ?_ _ | refine blk_drew ?_ | refine blk_alloc ?_ _)); refine blk_put (cs := #[.slice none 0 0, .slice none 0 0]) ?_ 0 _ rfl; (with_reducible repeat (first | refine blk_drewN ?_ _ | refine blk_drew ?_ | refine blk_alloc ?_ _)); exact BK169.out) hb); have n5_ := Aside0.mk (below_step (by repeat (first | (with_reducible first | exact HB.out | apply below_alloc | apply pw_below_drewN | apply below_drew1 | refine below_set ?_ GE167.out | refine below_set ?_ GE168.out | refine below_set ?_ GE169.out) | exact HB.out)) hb); clear HO172; clear BK167; clear BK168; clear BK169; clear HB; have HO172 := n0_; have HO175 := n1_; have BK167 := n2_; have BK168 := n3_; have BK169 := n4_; have HB := n5_; clear n0_ n1_ n2_ n3_ n4_ n5_; (try clear hb); (try clear hb2); (try clear hk); (try clear hi); (try clear ho0); obtain ⟨Ao16, co16, eo16⟩ := Kd.R_slice HO175.out; subst eo16; have hcz17_0 : w15.cell? ⟨gb169, 0, none⟩ = some (.slice Ao11 t170.length co11) := (blk_cell BK169.out 0).trans rfl; have hcz17_1 : w15.cell? ⟨gb169, 1, none⟩ = some (.slice none 0 0) := (blk_cell BK169.out 1).trans rfl; have hfz17_0 := blk_frozen BK169.out 0; have hfz17_1 := blk_frozen BK169.out 1; have hcz18_0 : w15.cell? ⟨gb168, 0, none⟩ = some (.slice none 0 0) := (blk_cell BK168.out 0).trans rfl; have hcz18_1 : w15.cell? ⟨gb168, 1, none⟩ = some (.slice none 0 0) := (blk_cell BK168.out 1).trans rfl; have hfz18_0 := blk_frozen BK168.out 0; have hfz18_1 := blk_frozen BK168.out 1))
  refine bodyPost_ret (results_cell_row rfl _ _ gb168 62 #[.slice Ao11 t170.length co11, .slice Ao16 t173.length co16] (0, 0) _ rfl (by (with_reducible repeat (first | refine blk_drewN ?_ _ | refine blk_drew ?_ | refine blk_alloc ?_ _)); refine blk_put (cs := #[.slice Ao11 t170.length co11, .slice none 0 0]) ?_ 1 _ rfl; (with_reducible repeat (first | refine blk_drewN ?_ _ | refine blk_drew ?_ | refine blk_alloc ?_ _)); refine blk_put (cs := #[.slice none 0 0, .slice none 0 0]) ?_ 0 _ rfl; (with_reducible repeat (first | refine blk_drewN ?_ _ | refine blk_drew ?_ | refine blk_alloc ?_ _)); refine blk_far ?_ NB168_169.out _; (with_reducible repeat (first | refine blk_drewN ?_ _ | refine blk_drew ?_ | refine blk_alloc ?_ _)); exact BK168.out) Try.underlying62 rfl (by kernel_rfl)) rfl ?_
  exact ⟨_, _, by first | rfl | (simp [errW_none, errW_some] <;> rfl) | (simp [*, errW_none, errW_some] <;> rfl), by (with_reducible repeat (first | apply Kd.R_alloc | apply Kd.R_drewN | apply Kd.R_drew)); exact Kd.R_mono (Kd.R_far (p := ⟨gb168, 1, none⟩) (Kd.R_far (p := ⟨gb168, 0, none⟩) (Kd.R_far (p := ⟨gb169, 1, none⟩) (Kd.R_types (Kd.R_types HO172.out BK169.out (by decide)) BK168.out (by decide)) (fun _ hk => hk.1.2) (.slice Ao16 t173.length co16)) (fun _ hk => hk.2) (.slice Ao11 t170.length co11)) (fun _ hk => hk.2) (.slice Ao16 t173.length co16)) (fun _ hk => trivial), by (with_reducible repeat (first | apply Kd.R_alloc | apply Kd.R_drewN | apply Kd.R_drew)); exact Kd.R_mono (Kd.R_far (p := ⟨gb168, 1, none⟩) (Kd.R_far (p := ⟨gb168, 0, none⟩) (Kd.R_far (p := ⟨gb169, 1, none⟩) (Kd.R_types (Kd.R_types HO175.out BK169.out (by decide)) BK168.out (by decide)) (fun _ hk => hk.1.2) (.slice Ao16 t173.length co16)) (fun _ hk => hk.2) (.slice Ao11 t170.length co11)) (fun _ hk => hk.2) (.slice Ao16 t173.length co16)) (fun _ hk => trivial), by repeat (first | (with_reducible first | exact HB.out | apply below_alloc | apply pw_below_drewN | apply below_drew1 | refine below_set ?_ GE167.out | refine below_set ?_ GE168.out | refine below_set ?_ GE169.out) | exact HB.out)⟩

/-! ### impl_isLetter: function 74 -/
def impl_isLetter.f (a0 : Int) : Option (Bool) := if a0 ≥ 97 then (some (decide (a0 ≤ 122))) else (some false)
set_option maxHeartbeats 8000000 in
set_option maxRecDepth 100000 in
theorem impl_isLetter.calls (a0 : Int) (r : Bool) (w : World) (h : impl_isLetter.f a0 = some r) :
    Calls Try.prog 74 #[.int .u8 a0] w fun e w' => e = .returned (.bool r) ∧ Drawn0 w w' := by
  have H : (if a0 ≥ 97 then (some (decide (a0 ≤ 122))) else (some false)) = some r := h
  clear h
  by_cases c2 : a0 ≥ 97
  · rw [if_pos c2] at H
    have c2b0 : decide (97 ≤ a0) = true := decide_eq_true c2
    clear c2
    obtain rfl := Option.some.inj H
    go_enter Try.func74, Try.ntmps74
    go_wp2
    go_ret
    exact ⟨by first | rfl | (simp; done) | (simp [*]; done), by repeat (first | exact Drawn0.refl _ | apply Drawn0.step)⟩
  · rw [if_neg c2] at H
    have c2b0 : decide (97 ≤ a0) = false := decide_eq_false c2
    clear c2
    obtain rfl := Option.some.inj H
    go_enter Try.func74, Try.ntmps74
    go_wp2
    go_ret
    exact ⟨by first | rfl | (simp; done) | (simp [*]; done), by repeat (first | exact Drawn0.refl _ | apply Drawn0.step)⟩

/-! ### impl_isDigit: function 75 -/
def impl_isDigit.f (a0 : Int) : Option (Bool) := if a0 ≥ 48 then (some (decide (a0 ≤ 57))) else (some false)
set_option maxHeartbeats 8000000 in
set_option maxRecDepth 100000 in
theorem impl_isDigit.calls (a0 : Int) (r : Bool) (w : World) (h : impl_isDigit.f a0 = some r) :
    Calls Try.prog 75 #[.int .u8 a0] w fun e w' => e = .returned (.bool r) ∧ Drawn0 w w' := by
  have H : (if a0 ≥ 48 then (some (decide (a0 ≤ 57))) else (some false)) = some r := h
  clear h
  by_cases c2 : a0 ≥ 48
  · rw [if_pos c2] at H
    have c2b0 : decide (48 ≤ a0) = true := decide_eq_true c2
    clear c2
    obtain rfl := Option.some.inj H
    go_enter Try.func75, Try.ntmps75
    go_wp2
    go_ret
    exact ⟨by first | rfl | (simp; done) | (simp [*]; done), by repeat (first | exact Drawn0.refl _ | apply Drawn0.step)⟩
  · rw [if_neg c2] at H
    have c2b0 : decide (48 ≤ a0) = false := decide_eq_false c2
    clear c2
    obtain rfl := Option.some.inj H
    go_enter Try.func75, Try.ntmps75
    go_wp2
    go_ret
    exact ⟨by first | rfl | (simp; done) | (simp [*]; done), by repeat (first | exact Drawn0.refl _ | apply Drawn0.step)⟩

/-! ### impl_IsName: function 49 -/
def impl_IsName.l0 : Nat → ByteArray → Int → Int → Option (Bool)
  | 0, _, _, _ => none
  | k + 1, x0, x5, x6 => if x6 < x5 then (if 0 ≤ x6 then (if x6 < (x0.size : Int) then ((impl_isLetter.f (bt x0 x6)).bind fun t176 => (if t176 = true then (impl_IsName.l0 k x0 x5 (wrap64 (x6 + 1))) else (if x6 = 0 then (some false) else ((impl_isDigit.f (bt x0 x6)).bind fun t177 => (if t177 = true then (impl_IsName.l0 k x0 x5 (wrap64 (x6 + 1))) else (some false)))))) else (none)) else (none)) else (if x0.toList = ([] : List UInt8) then (some false) else (some (decide ((x0.size : Int) ≤ 8))))
def impl_IsName.f (k : Nat) (a0 : ByteArray) : Option (Bool) := impl_IsName.l0 k a0 (a0.size : Int) 0
theorem impl_IsName.mono_l : ∀ k, (∀ y0 y1 y2, LeO (impl_IsName.l0 k y0 y1 y2) (impl_IsName.l0 (k + 1) y0 y1 y2))
  | 0 => fun _ _ _ r h => by simp [impl_IsName.l0] at h
  | k + 1 => by
    have ih0 := impl_IsName.mono_l k
    · intro y0 y1 y2
      unfold impl_IsName.l0
      repeat' first
      | (with_reducible exact ih0 _ _ _)
      | (with_reducible exact LeO.refl _)
      | (with_reducible exact LeO.none _)
      | (with_reducible refine LeO.ite ?_ ?_)
      | (with_reducible refine LeO.bind ?_ (fun _ => ?_))
      | exact ih0 _ _ _
      | exact LeO.none _
      | refine LeO.ite ?_ ?_
      | refine LeO.bind ?_ (fun _ => ?_)
theorem impl_IsName.mono : ∀ a0 k, LeO (impl_IsName.f k a0) (impl_IsName.f (k + 1) a0) := by
  intro a0 k
  have ih0 := impl_IsName.mono_l k
  unfold impl_IsName.f
  repeat' first
      | (with_reducible exact ih0 _ _ _)
      | (with_reducible exact LeO.refl _)
      | (with_reducible exact LeO.none _)
      | (with_reducible refine LeO.ite ?_ ?_)
      | (with_reducible refine LeO.bind ?_ (fun _ => ?_))
      | exact ih0 _ _ _
      | exact LeO.none _
      | refine LeO.ite ?_ ?_
      | refine LeO.bind ?_ (fun _ => ?_)
set_option maxHeartbeats 8000000 in
set_option maxRecDepth 100000 in
theorem impl_IsName.calls (k : Nat) (a0 : ByteArray) (r : Bool) (w : World) (h : impl_IsName.f k a0 = some r) :
    Calls Try.prog 49 #[.string a0] w fun e w' => e = .returned (.bool r) ∧ Drawn0 w w' := by
  have H : (impl_IsName.l0 k a0 (a0.size : Int) 0) = some r := h
  clear h
  have H' := Aside0.mk H
  clear H
  go_enter Try.func49, Try.ntmps49
  go_wp2
  go_loopg [6] k (fun kq v6 w' => ∃ (x6_1 : Int), v6 = .int .i64 x6_1 ∧ Aside0 (impl_IsName.l0 kq a0 (a0.size : Int) x6_1 = some r) ∧ Aside0 (kq ≤ k) ∧ Drawn0 w w')
  case atStart => exact ⟨(0), (by first | rfl | (simp; done) | (simp [*]; done)), H', ⟨Nat.le_refl _⟩, by repeat (first | exact Drawn0.refl _ | apply Drawn0.step)⟩
  case round =>
    clear H'
    obtain ⟨x6_1, rfl, HA, HK1, ⟨m1, rfl⟩⟩ := hrel
    cases gk with
    | zero => exact absurd HA.out (by simp [impl_IsName.l0])
    | succ k1 =>
      have H := HA.out
      clear HA
      simp only [impl_IsName.l0] at H
      by_cases c2 : x6_1 < (a0.size : Int)
      · rw [if_pos c2] at H
        have c2b0 : decide (x6_1 < (a0.size : Int)) = true := decide_eq_true c2
        clear c2
        by_cases c3 : 0 ≤ x6_1
        · rw [if_pos c3] at H
          have c3b0 : decide (0 ≤ x6_1) = true := decide_eq_true c3
          clear c3
          by_cases c4 : x6_1 < (a0.size : Int)
          · rw [if_pos c4] at H
            have c4b0 : decide (x6_1 < (a0.size : Int)) = true := decide_eq_true c4
            clear c4
            replace H := Option.bind_eq_some_iff.mp H
            obtain ⟨t176, A60, H⟩ := H
            replace H : (if t176 = true then (impl_IsName.l0 k1 a0 (a0.size : Int) (wrap64 (x6_1 + 1))) else (if x6_1 = 0 then (some false) else ((impl_isDigit.f (bt a0 x6_1)).bind fun t177 => (if t177 = true then (impl_IsName.l0 k1 a0 (a0.size : Int) (wrap64 (x6_1 + 1))) else (some false))))) = some r := H
            have A6 := Aside0.mk A60
            clear A60
            by_cases c7 : t176 = true
            · subst c7
              have H1 : (impl_IsName.l0 k1 a0 (a0.size : Int) (wrap64 (x6_1 + 1))) = some r := by rw [if_pos rfl] at H; exact H
              clear H
              have H := H1
              clear H1
              have H' := Aside0.mk H
              clear H
              have p5 : 0 ≤ (x6_1 : Int) := of_decide_eq_true (by first | (with_reducible assumption) | assumption)
              have q5 : x6_1 < (a0.size : Int) := of_decide_eq_true (by first | (with_reducible assumption) | assumption)
              have hx5 := bt_at a0 x6_1
              replace p5 := eq_true p5
              replace q5 := eq_true q5
              go_wp2_with (first | ((with_reducible refine gate_callee (f := 74) rfl ?_); refine goesL_ (some 12) rfl rfl Try.func74 (by kernel_rfl) rfl #[.int .u8 (bt a0 x6_1)] rfl (by (try simp only [List.map_toArray, List.map_cons, List.map_nil]); first | done | rfl | (simp only [List.length_drop, List.length_take]; rfl)) ?_; (with_reducible refine (impl_isLetter.calls (bt a0 x6_1) true _ A6.out).mono ?_); rintro e w' ⟨rfl, ⟨nd, rfl⟩⟩; refine ⟨_, rfl, ?_⟩))
              go_roundg k1
              case measure => have := HK1.out; omega
              case rel => exact ⟨(wrap64 (x6_1 + 1)), (by first | rfl | (simp; done) | (simp [*]; done)), H', ⟨by have := HK1.out; omega⟩, by repeat (first | exact Drawn0.refl _ | apply Drawn0.step)⟩
            · replace c7 := Bool.eq_false_iff.mpr c7
              subst c7
              have H1 : (if x6_1 = 0 then (some false) else ((impl_isDigit.f (bt a0 x6_1)).bind fun t177 => (if t177 = true then (impl_IsName.l0 k1 a0 (a0.size : Int) (wrap64 (x6_1 + 1))) else (some false)))) = some r := by rw [if_neg (show ¬ (false = true) by decide)] at H; exact H
              clear H
              have H := H1
              clear H1
              by_cases c8 : x6_1 = 0
              · rw [if_pos c8] at H
                have c8b0 : (x6_1 == 0) = true := beq_iff_eq.mpr c8
                have c8b1 : (x6_1 != 0) = false := bne_eq_false_iff_eq.mpr c8
                clear c8
                obtain rfl := Option.some.inj H
                have p5 : 0 ≤ (x6_1 : Int) := of_decide_eq_true (by first | (with_reducible assumption) | assumption)
                have q5 : x6_1 < (a0.size : Int) := of_decide_eq_true (by first | (with_reducible assumption) | assumption)
                have hx5 := bt_at a0 x6_1
                replace p5 := eq_true p5
                replace q5 := eq_true q5
                go_wp2_with (first | ((with_reducible refine gate_callee (f := 74) rfl ?_); refine goesL_ (some 12) rfl rfl Try.func74 (by kernel_rfl) rfl #[.int .u8 (bt a0 x6_1)] rfl (by (try simp only [List.map_toArray, List.map_cons, List.map_nil]); first | done | rfl | (simp only [List.length_drop, List.length_take]; rfl)) ?_; (with_reducible refine (impl_isLetter.calls (bt a0 x6_1) false _ A6.out).mono ?_); rintro e w' ⟨rfl, ⟨nd, rfl⟩⟩; refine ⟨_, rfl, ?_⟩))
                go_ret
                exact ⟨by first | rfl | (simp; done) | (simp [*]; done), by repeat (first | exact Drawn0.refl _ | apply Drawn0.step)⟩
              · rw [if_neg c8] at H
                have c8b0 : (x6_1 == 0) = false := beq_eq_false_iff_ne.mpr c8
                have c8b1 : (x6_1 != 0) = true := bne_iff_ne.mpr c8
                replace H := Option.bind_eq_some_iff.mp H
                obtain ⟨t177, A100, H⟩ := H
                replace H : (if t177 = true then (impl_IsName.l0 k1 a0 (a0.size : Int) (wrap64 (x6_1 + 1))) else (some false)) = some r := H
                have A10 := Aside0.mk A100
                clear A100
                by_cases c11 : t177 = true
                · subst c11
                  have H1 : (impl_IsName.l0 k1 a0 (a0.size : Int) (wrap64 (x6_1 + 1))) = some r := by rw [if_pos rfl] at H; exact H
                  clear H
                  have H := H1
                  clear H1
                  have H' := Aside0.mk H
                  clear H
                  have p5 : 0 ≤ (x6_1 : Int) := of_decide_eq_true (by first | (with_reducible assumption) | assumption)
                  have q5 : x6_1 < (a0.size : Int) := of_decide_eq_true (by first | (with_reducible assumption) | assumption)
                  have hx5 := bt_at a0 x6_1
                  replace p5 := eq_true p5
                  replace q5 := eq_true q5
                  go_wp2_with (first | ((with_reducible refine gate_callee (f := 74) rfl ?_); refine goesL_ (some 12) rfl rfl Try.func74 (by kernel_rfl) rfl #[.int .u8 (bt a0 x6_1)] rfl (by (try simp only [List.map_toArray, List.map_cons, List.map_nil]); first | done | rfl | (simp only [List.length_drop, List.length_take]; rfl)) ?_; (with_reducible refine (impl_isLetter.calls (bt a0 x6_1) false _ A6.out).mono ?_); rintro e w' ⟨rfl, ⟨nd, rfl⟩⟩; refine ⟨_, rfl, ?_⟩; have p9 : 0 ≤ (x6_1 : Int) := of_decide_eq_true (by first | (with_reducible assumption) | assumption); have q9 : x6_1 < (a0.size : Int) := of_decide_eq_true (by first | (with_reducible assumption) | assumption); have hx9 := bt_at a0 x6_1; replace p9 := eq_true p9; replace q9 := eq_true q9) | (go_at_call 75; (with_reducible refine (impl_isDigit.calls (bt a0 x6_1) true _ A10.out).mono ?_); rintro e w' ⟨rfl, ⟨nd, rfl⟩⟩))
                  go_roundg k1
                  case measure => have := HK1.out; omega
                  case rel => exact ⟨(wrap64 (x6_1 + 1)), (by first | rfl | (simp; done) | (simp [*]; done)), H', ⟨by have := HK1.out; omega⟩, by repeat (first | exact Drawn0.refl _ | apply Drawn0.step)⟩
                · replace c11 := Bool.eq_false_iff.mpr c11
                  subst c11
                  have H1 : (some false) = some r := by rw [if_neg (show ¬ (false = true) by decide)] at H; exact H
                  clear H
                  have H := H1
                  clear H1
                  obtain rfl := Option.some.inj H
                  have p5 : 0 ≤ (x6_1 : Int) := of_decide_eq_true (by first | (with_reducible assumption) | assumption)
                  have q5 : x6_1 < (a0.size : Int) := of_decide_eq_true (by first | (with_reducible assumption) | assumption)
                  have hx5 := bt_at a0 x6_1
                  replace p5 := eq_true p5
                  replace q5 := eq_true q5
                  go_wp2_with (first | ((with_reducible refine gate_callee (f := 74) rfl ?_); refine goesL_ (some 12) rfl rfl Try.func74 (by kernel_rfl) rfl #[.int .u8 (bt a0 x6_1)] rfl (by (try simp only [List.map_toArray, List.map_cons, List.map_nil]); first | done | rfl | (simp only [List.length_drop, List.length_take]; rfl)) ?_; (with_reducible refine (impl_isLetter.calls (bt a0 x6_1) false _ A6.out).mono ?_); rintro e w' ⟨rfl, ⟨nd, rfl⟩⟩; refine ⟨_, rfl, ?_⟩; have p9 : 0 ≤ (x6_1 : Int) := of_decide_eq_true (by first | (with_reducible assumption) | assumption); have q9 : x6_1 < (a0.size : Int) := of_decide_eq_true (by first | (with_reducible assumption) | assumption); have hx9 := bt_at a0 x6_1; replace p9 := eq_true p9; replace q9 := eq_true q9) | (go_at_call 75; (with_reducible refine (impl_isDigit.calls (bt a0 x6_1) false _ A10.out).mono ?_); rintro e w' ⟨rfl, ⟨nd, rfl⟩⟩))
                  go_ret
                  exact ⟨by first | rfl | (simp; done) | (simp [*]; done), by repeat (first | exact Drawn0.refl _ | apply Drawn0.step)⟩
          · rw [if_neg c4] at H
            exact absurd H (by simp)
        · rw [if_neg c3] at H
          exact absurd H (by simp)
      · rw [if_neg c2] at H
        have c2b0 : decide (x6_1 < (a0.size : Int)) = false := decide_eq_false c2
        clear c2
        by_cases c12 : a0.toList = ([] : List UInt8)
        · rw [if_pos c12] at H
          have c12b0 : (a0.toList == ([] : List UInt8)) = true := beq_iff_eq.mpr c12
          have c12b1 : (a0.toList != ([] : List UInt8)) = false := bne_eq_false_iff_eq.mpr c12
          clear c12
          obtain rfl := Option.some.inj H
          go_wp2
          go_ret
          exact ⟨by first | rfl | (simp; done) | (simp [*]; done), by repeat (first | exact Drawn0.refl _ | apply Drawn0.step)⟩
        · rw [if_neg c12] at H
          have c12b0 : (a0.toList == ([] : List UInt8)) = false := beq_eq_false_iff_ne.mpr c12
          have c12b1 : (a0.toList != ([] : List UInt8)) = true := bne_iff_ne.mpr c12
          obtain rfl := Option.some.inj H
          go_wp2
          go_ret
          exact ⟨by first | rfl | (simp; done) | (simp [*]; done), by repeat (first | exact Drawn0.refl _ | apply Drawn0.step)⟩

/-! ### impl_isPlace: function 101 -/
def impl_isPlace.f (a0 : Int) : Option (Bool) := if a0 ≥ (-50) then (some (decide (a0 ≤ 50))) else (some false)
set_option maxHeartbeats 8000000 in
set_option maxRecDepth 100000 in
theorem impl_isPlace.calls (a0 : Int) (r : Bool) (w : World) (h : impl_isPlace.f a0 = some r) :
    Calls Try.prog 101 #[.int .i64 a0] w fun e w' => e = .returned (.bool r) ∧ Drawn0 w w' := by
  have H : (if a0 ≥ (-50) then (some (decide (a0 ≤ 50))) else (some false)) = some r := h
  clear h
  by_cases c2 : a0 ≥ (-50)
  · rw [if_pos c2] at H
    have c2b0 : decide ((-50) ≤ a0) = true := decide_eq_true c2
    clear c2
    obtain rfl := Option.some.inj H
    go_enter Try.func101, Try.ntmps101
    go_wp2
    go_ret
    exact ⟨by first | rfl | (simp; done) | (simp [*]; done), by repeat (first | exact Drawn0.refl _ | apply Drawn0.step)⟩
  · rw [if_neg c2] at H
    have c2b0 : decide ((-50) ≤ a0) = false := decide_eq_false c2
    clear c2
    obtain rfl := Option.some.inj H
    go_enter Try.func101, Try.ntmps101
    go_wp2
    go_ret
    exact ⟨by first | rfl | (simp; done) | (simp [*]; done), by repeat (first | exact Drawn0.refl _ | apply Drawn0.step)⟩

/-! ### impl_JointOk: function 92 -/
def impl_JointOk.f (k : Nat) (a0_0 : ByteArray) (a0_1 : Int) (a0_2 : Int) (a0_3 : Bool) : Option (Bool) := (impl_IsName.f k a0_0).bind fun t179 => (if t179 = true then ((impl_isPlace.f a0_1).bind fun t180 => (if t180 = true then ((impl_isPlace.f a0_2).bind fun t181 => (some t181)) else (some false))) else (some false))
theorem impl_JointOk.mono : ∀ a0 a1 a2 a3 k, LeO (impl_JointOk.f k a0 a1 a2 a3) (impl_JointOk.f (k + 1) a0 a1 a2 a3) := by
  intro a0 a1 a2 a3 k
  unfold impl_JointOk.f
  repeat' first
      | (with_reducible exact impl_IsName.mono _ _)
      | (with_reducible exact LeO.refl _)
      | (with_reducible exact LeO.none _)
      | (with_reducible refine LeO.ite ?_ ?_)
      | (with_reducible refine LeO.bind ?_ (fun _ => ?_))
      | exact impl_IsName.mono _ _
      | exact LeO.none _
      | refine LeO.ite ?_ ?_
      | refine LeO.bind ?_ (fun _ => ?_)
set_option maxHeartbeats 8000000 in
set_option maxRecDepth 100000 in
theorem impl_JointOk.calls (k : Nat) (a0_0 : ByteArray) (a0_1 : Int) (a0_2 : Int) (a0_3 : Bool) (r : Bool) (w : World) (h : impl_JointOk.f k a0_0 a0_1 a0_2 a0_3 = some r) :
    Calls Try.prog 92 #[.agg #[.string a0_0, .int .i64 a0_1, .int .i64 a0_2, .bool a0_3]] w fun e w' => e = .returned (.bool r) ∧ Below w.heap.size w w' := by
  have hu111 := Try.underlying111
  have HB := Aside0.mk (Below.refl w.heap.size w)
  have H : ((impl_IsName.f k a0_0).bind fun t179 => (if t179 = true then ((impl_isPlace.f a0_1).bind fun t180 => (if t180 = true then ((impl_isPlace.f a0_2).bind fun t181 => (some t181)) else (some false))) else (some false))) = some r := h
  clear h
  replace H := Option.bind_eq_some_iff.mp H
  obtain ⟨t179, A20, H⟩ := H
  replace H : (if t179 = true then ((impl_isPlace.f a0_1).bind fun t180 => (if t180 = true then ((impl_isPlace.f a0_2).bind fun t181 => (some t181)) else (some false))) else (some false)) = some r := H
  have A2 := Aside0.mk A20
  clear A20
  by_cases c3 : t179 = true
  · subst c3
    have H1 : ((impl_isPlace.f a0_1).bind fun t180 => (if t180 = true then ((impl_isPlace.f a0_2).bind fun t181 => (some t181)) else (some false))) = some r := by rw [if_pos rfl] at H; exact H
    clear H
    have H := H1
    clear H1
    replace H := Option.bind_eq_some_iff.mp H
    obtain ⟨t180, A40, H⟩ := H
    replace H : (if t180 = true then ((impl_isPlace.f a0_2).bind fun t181 => (some t181)) else (some false)) = some r := H
    have A4 := Aside0.mk A40
    clear A40
    by_cases c5 : t180 = true
    · subst c5
      have H1 : ((impl_isPlace.f a0_2).bind fun t181 => (some t181)) = some r := by rw [if_pos rfl] at H; exact H
      clear H
      have H := H1
      clear H1
      replace H := Option.bind_eq_some_iff.mp H
      obtain ⟨t181, A60, H⟩ := H
      replace H : (some t181) = some r := H
      have A6 := Aside0.mk A60
      clear A60
      obtain rfl := Option.some.inj H
      go_enter Try.func92, Try.ntmps92
      go_wp2_with (first | ((with_reducible refine gate_dst (N := 1) rfl ?_); refine box_event ?hg (N := 1) ?hd (cs := #[.string a0_0, .int .i64 a0_1, .int .i64 a0_2, .bool a0_3]) (t := 111) ?hr ?_; (case hd => rfl); (case hg => rfl); (case hr => first | (go_simp; done) | (go_simp; rfl)); intro gb178 hg w7 hbox hb; have n0_ := Aside0.mk (below_step (by repeat (first | (with_reducible first | exact HB.out | apply below_alloc | apply pw_below_drewN | apply below_drew1) | exact HB.out)) hb); have n1_ := Aside0.mk (hbox); have n2_ := Aside0.mk ((by rw [hg]; exact (below_size (by repeat (first | (with_reducible first | exact HB.out | apply below_alloc | apply pw_below_drewN | apply below_drew1) | exact HB.out))) : w.heap.size ≤ gb178)); have n3_ := Aside0.mk ((by rw [hg]; exact (below_size (by repeat (first | (with_reducible first | exact HB.out | apply below_alloc | apply pw_below_drewN | apply below_drew1) | exact HB.out))) : w.heap.size ≤ gb178)); clear HB; have HB := n0_; have BK178 := n1_; have GW178 := n2_; have GE178 := n3_; clear n0_ n1_ n2_ n3_; clear hb hbox hg; have hcz8_0 : w7.cell? ⟨gb178, 0, none⟩ = some (.string a0_0) := (blk_cell BK178.out 0).trans rfl; have hcz8_1 : w7.cell? ⟨gb178, 1, none⟩ = some (.int .i64 a0_1) := (blk_cell BK178.out 1).trans rfl; have hcz8_2 : w7.cell? ⟨gb178, 2, none⟩ = some (.int .i64 a0_2) := (blk_cell BK178.out 2).trans rfl; have hcz8_3 : w7.cell? ⟨gb178, 3, none⟩ = some (.bool a0_3) := (blk_cell BK178.out 3).trans rfl; have hfz8_0 := blk_frozen BK178.out 0; have hfz8_1 := blk_frozen BK178.out 1; have hfz8_2 := blk_frozen BK178.out 2; have hfz8_3 := blk_frozen BK178.out 3) | ((with_reducible refine gate_callee (f := 49) rfl ?_); refine goesL_ (some 5) rfl rfl Try.func49 (by kernel_rfl) rfl #[.string a0_0] rfl (by (try simp only [List.map_toArray, List.map_cons, List.map_nil]); first | done | rfl | (simp only [List.length_drop, List.length_take]; rfl)) ?_; (with_reducible refine (impl_IsName.calls k a0_0 true _ A2.out).mono ?_); rintro e w' ⟨rfl, ⟨nd, rfl⟩⟩; refine ⟨_, rfl, ?_⟩) | (go_at_call 101; (with_reducible refine (impl_isPlace.calls a0_1 true _ A4.out).mono ?_); rintro e w' ⟨rfl, ⟨nd, rfl⟩⟩) | (go_at_call 101; (with_reducible refine (impl_isPlace.calls a0_2 t181 _ A6.out).mono ?_); rintro e w' ⟨rfl, ⟨nd, rfl⟩⟩))
      go_ret
      exact ⟨by first | rfl | (simp [errW_none, errW_some] <;> rfl) | (simp [*, errW_none, errW_some] <;> rfl), by repeat (first | (with_reducible first | exact HB.out | apply below_alloc | apply pw_below_drewN | apply below_drew1 | refine below_set ?_ GE178.out) | exact HB.out)⟩
    · replace c5 := Bool.eq_false_iff.mpr c5
      subst c5
      have H1 : (some false) = some r := by rw [if_neg (show ¬ (false = true) by decide)] at H; exact H
      clear H
      have H := H1
      clear H1
      obtain rfl := Option.some.inj H
      go_enter Try.func92, Try.ntmps92
      go_wp2_with (first | ((with_reducible refine gate_dst (N := 1) rfl ?_); refine box_event ?hg (N := 1) ?hd (cs := #[.string a0_0, .int .i64 a0_1, .int .i64 a0_2, .bool a0_3]) (t := 111) ?hr ?_; (case hd => rfl); (case hg => rfl); (case hr => first | (go_simp; done) | (go_simp; rfl)); intro gb178 hg w9 hbox hb; have n0_ := Aside0.mk (below_step (by repeat (first | (with_reducible first | exact HB.out | apply below_alloc | apply pw_below_drewN | apply below_drew1) | exact HB.out)) hb); have n1_ := Aside0.mk (hbox); have n2_ := Aside0.mk ((by rw [hg]; exact (below_size (by repeat (first | (with_reducible first | exact HB.out | apply below_alloc | apply pw_below_drewN | apply below_drew1) | exact HB.out))) : w.heap.size ≤ gb178)); have n3_ := Aside0.mk ((by rw [hg]; exact (below_size (by repeat (first | (with_reducible first | exact HB.out | apply below_alloc | apply pw_below_drewN | apply below_drew1) | exact HB.out))) : w.heap.size ≤ gb178)); clear HB; have HB := n0_; have BK178 := n1_; have GW178 := n2_; have GE178 := n3_; clear n0_ n1_ n2_ n3_; clear hb hbox hg; have hcz10_0 : w9.cell? ⟨gb178, 0, none⟩ = some (.string a0_0) := (blk_cell BK178.out 0).trans rfl; have hcz10_1 : w9.cell? ⟨gb178, 1, none⟩ = some (.int .i64 a0_1) := (blk_cell BK178.out 1).trans rfl; have hcz10_2 : w9.cell? ⟨gb178, 2, none⟩ = some (.int .i64 a0_2) := (blk_cell BK178.out 2).trans rfl; have hcz10_3 : w9.cell? ⟨gb178, 3, none⟩ = some (.bool a0_3) := (blk_cell BK178.out 3).trans rfl; have hfz10_0 := blk_frozen BK178.out 0; have hfz10_1 := blk_frozen BK178.out 1; have hfz10_2 := blk_frozen BK178.out 2; have hfz10_3 := blk_frozen BK178.out 3) | ((with_reducible refine gate_callee (f := 49) rfl ?_); refine goesL_ (some 5) rfl rfl Try.func49 (by kernel_rfl) rfl #[.string a0_0] rfl (by (try simp only [List.map_toArray, List.map_cons, List.map_nil]); first | done | rfl | (simp only [List.length_drop, List.length_take]; rfl)) ?_; (with_reducible refine (impl_IsName.calls k a0_0 true _ A2.out).mono ?_); rintro e w' ⟨rfl, ⟨nd, rfl⟩⟩; refine ⟨_, rfl, ?_⟩) | (go_at_call 101; (with_reducible refine (impl_isPlace.calls a0_1 false _ A4.out).mono ?_); rintro e w' ⟨rfl, ⟨nd, rfl⟩⟩))
      go_ret
      exact ⟨by first | rfl | (simp [errW_none, errW_some] <;> rfl) | (simp [*, errW_none, errW_some] <;> rfl), by repeat (first | (with_reducible first | exact HB.out | apply below_alloc | apply pw_below_drewN | apply below_drew1 | refine below_set ?_ GE178.out) | exact HB.out)⟩
  · replace c3 := Bool.eq_false_iff.mpr c3
    subst c3
    have H1 : (some false) = some r := by rw [if_neg (show ¬ (false = true) by decide)] at H; exact H
    clear H
    have H := H1
    clear H1
    obtain rfl := Option.some.inj H
    go_enter Try.func92, Try.ntmps92
    go_wp2_with (first | ((with_reducible refine gate_dst (N := 1) rfl ?_); refine box_event ?hg (N := 1) ?hd (cs := #[.string a0_0, .int .i64 a0_1, .int .i64 a0_2, .bool a0_3]) (t := 111) ?hr ?_; (case hd => rfl); (case hg => rfl); (case hr => first | (go_simp; done) | (go_simp; rfl)); intro gb178 hg w11 hbox hb; have n0_ := Aside0.mk (below_step (by repeat (first | (with_reducible first | exact HB.out | apply below_alloc | apply pw_below_drewN | apply below_drew1) | exact HB.out)) hb); have n1_ := Aside0.mk (hbox); have n2_ := Aside0.mk ((by rw [hg]; exact (below_size (by repeat (first | (with_reducible first | exact HB.out | apply below_alloc | apply pw_below_drewN | apply below_drew1) | exact HB.out))) : w.heap.size ≤ gb178)); have n3_ := Aside0.mk ((by rw [hg]; exact (below_size (by repeat (first | (with_reducible first | exact HB.out | apply below_alloc | apply pw_below_drewN | apply below_drew1) | exact HB.out))) : w.heap.size ≤ gb178)); clear HB; have HB := n0_; have BK178 := n1_; have GW178 := n2_; have GE178 := n3_; clear n0_ n1_ n2_ n3_; clear hb hbox hg; have hcz12_0 : w11.cell? ⟨gb178, 0, none⟩ = some (.string a0_0) := (blk_cell BK178.out 0).trans rfl; have hcz12_1 : w11.cell? ⟨gb178, 1, none⟩ = some (.int .i64 a0_1) := (blk_cell BK178.out 1).trans rfl; have hcz12_2 : w11.cell? ⟨gb178, 2, none⟩ = some (.int .i64 a0_2) := (blk_cell BK178.out 2).trans rfl; have hcz12_3 : w11.cell? ⟨gb178, 3, none⟩ = some (.bool a0_3) := (blk_cell BK178.out 3).trans rfl; have hfz12_0 := blk_frozen BK178.out 0; have hfz12_1 := blk_frozen BK178.out 1; have hfz12_2 := blk_frozen BK178.out 2; have hfz12_3 := blk_frozen BK178.out 3) | ((with_reducible refine gate_callee (f := 49) rfl ?_); refine goesL_ (some 5) rfl rfl Try.func49 (by kernel_rfl) rfl #[.string a0_0] rfl (by (try simp only [List.map_toArray, List.map_cons, List.map_nil]); first | done | rfl | (simp only [List.length_drop, List.length_take]; rfl)) ?_; (with_reducible refine (impl_IsName.calls k a0_0 false _ A2.out).mono ?_); rintro e w' ⟨rfl, ⟨nd, rfl⟩⟩; refine ⟨_, rfl, ?_⟩))
    go_ret
    exact ⟨by first | rfl | (simp [errW_none, errW_some] <;> rfl) | (simp [*, errW_none, errW_some] <;> rfl), by repeat (first | (with_reducible first | exact HB.out | apply below_alloc | apply pw_below_drewN | apply below_drew1 | refine below_set ?_ GE178.out) | exact HB.out)⟩

-- NOT PRINTED: function 102 (impl_Joint)

/-- The first place from i on at which p holds, or -1. -/
def idxOf {α : Type} (p : α → Bool) : List α → Int → Int
  | [], _ => -1
  | x :: l, i => if p x then i else idxOf p l (i + 1)

theorem drop_cons2 {α : Type} {l : List α} {i : Nat} {x : α} (h : l[i]? = some x) : l.drop i = x :: l.drop (i + 1) := by
  obtain ⟨hi, rfl⟩ := List.getElem?_eq_some_iff.1 h
  exact List.drop_eq_getElem_cons hi

set_option maxHeartbeats 1000000 in
theorem IndexFuncJoint_calls (p : S111 → Bool) (g : FuncId) (lb : Array Value) (A : Option Addr) (c : Nat) (l : List S111) (w : World)
    (hr : Kd.C k111 w A l.length l) (eg : ∀ args w, (callFunc g args).run Try.prog w = .ok (.enter g args) w)
    (hg : ∀ x ∈ l, ∀ W, Below w.heap.size w W → Calls Try.prog g (#[.agg #[.string x.f0, .int .i64 x.f1, .int .i64 x.f2, .bool x.f3]] ++ lb) W fun e W' => e = .returned (.bool (p x)) ∧ Below w.heap.size w W') :
    Calls Try.prog 102 #[.slice A l.length c, .func (.func g) #[] lb] w fun e w' => e = .returned (.int .i64 (idxOf p l 0)) ∧ Below w.heap.size w w' := by
  have hm : l.length ≤ 9223372036854775807 := hr.2.1
  go_enter Try.func102, Try.ntmps102
  go_wp2
  go_loopg [5, 8] l.length (fun gg _ s8 wr => ∃ kk : Nat, kk ≤ l.length ∧ l.length - kk ≤ gg ∧ s8 = .int .i64 kk ∧ Aside0 (Below w.heap.size w wr) ∧ Aside0 (idxOf p l 0 = idxOf p (l.drop kk) kk))
  case atStart => exact ⟨0, Nat.zero_le _, by omega, rfl, ⟨Below.refl _ w⟩, ⟨rfl⟩⟩
  case round =>
    obtain ⟨kk, hkk, hgg, rfl, BW, HI⟩ := hrel
    by_cases hlt : kk < l.length
    · have hltz : (kk : Int) < (l.length : Int) := by omega
      obtain ⟨ad, rfl, h0, h1, h2, h3⟩ := at_T111 (Kd.C_below hr BW.out) (kk : Int) (by omega) hltz
      have hx : rd_T111 l (kk : Int) = l[kk] := by
        simp [rd_T111, List.getD, hlt]
      have hcall := hg l[kk] (List.getElem_mem hlt) wr BW.out
      have hdr := Aside0.mk (drop_cons2 (List.getElem?_eq_getElem hlt))
      rw [hx] at h0 h1 h2 h3
      simp only [Int.toNat_natCast] at h0 h1 h2 h3
      clear hx hg
      generalize l[kk] = y at *
      cases hq : p y with
      | true =>
        rw [hq] at hcall
        have HQ := Aside0.mk hq
        clear hq
        go_wp2_with (go_at_fn g; refine hcall.mono ?_; rintro e w' ⟨rfl, hb'⟩)
        go_ret
        refine ⟨?_, hb'⟩
        rw [HI.out, hdr.out]
        simp [idxOf, HQ.out]
      | false =>
        rw [hq] at hcall
        have HQ := Aside0.mk hq
        clear hq
        go_wp2_with (go_at_fn g; refine hcall.mono ?_; rintro e w' ⟨rfl, hb'⟩)
        go_roundg (l.length - (kk + 1))
        case measure => omega
        case rel =>
          refine ⟨kk + 1, by omega, by omega, by go_num, ⟨hb'⟩, ⟨?_⟩⟩
          rw [HI.out, hdr.out]
          simp [idxOf, HQ.out]
    · have hltz : ¬ (kk : Int) < (l.length : Int) := by omega
      go_wp2
      go_ret
      refine ⟨?_, BW.out⟩
      rw [HI.out, List.drop_eq_nil_of_le (by omega)]
      rfl

set_option maxHeartbeats 1000000 in
theorem JointNamed1_calls (y0 : ByteArray) (y1 y2 : Int) (y3 : Bool) (B : Nat) (nm : ByteArray) (w : World) (hB : B < w.heap.size) (hc : w.cell? ⟨B, 0, none⟩ = some (.string nm)) :
    Calls Try.prog 103 #[.agg #[.string y0, .int .i64 y1, .int .i64 y2, .bool y3], .pointer (some ⟨B, 0, none⟩)] w fun e w' => e = .returned (.bool (y0.toList == nm.toList)) ∧ Below w.heap.size w w' := by
  go_enter Try.func103, Try.ntmps103
  go_wp2
  go_ret
  exact ⟨rfl, (Below.refl _ _).alloc (Nat.le_refl _) _⟩

def impl_JointNamed.f (l0_0 : List S111) (l0_1 : List S96) (a1 : ByteArray) : Option Int := some (idxOf (fun y => y.f0.toList == a1.toList) l0_0 0)
set_option maxHeartbeats 1000000 in
theorem impl_JointNamed.calls_nc (A0_0 : Option Addr) (c0_0 : Nat) (l0_0 : List S111) (A0_1 : Option Addr) (c0_1 : Nat) (l0_1 : List S96) (a1 : ByteArray) (r : Int) (w : World) (hr0_0 : Kd.C k111 w A0_0 l0_0.length l0_0) (hr0_1 : Kd.C k96 w A0_1 l0_1.length l0_1) (h : impl_JointNamed.f l0_0 l0_1 a1 = some r) :
    Calls Try.prog 93 #[.agg #[.slice A0_0 l0_0.length c0_0, .slice A0_1 l0_1.length c0_1], .string a1] w fun e w' => e = .returned (.int .i64 r) ∧ Below w.heap.size w w' := by
  obtain rfl := Option.some.inj h
  have en : ∀ args w, (callFunc 103 args).run Try.prog w = .ok (.enter 103 args) w := enters_of Try.func103 (by kernel_rfl) rfl
  have EN := Aside0.mk en
  have HR := Aside0.mk hr0_0
  clear en hr0_0 hr0_1 h
  go_enter Try.func93, Try.ntmps93
  go_wp2_with (go_at_call 102; refine (IndexFuncJoint_calls (fun y => y.f0.toList == a1.toList) 103 #[.pointer (some ⟨w.heap.size + 1, 0, none⟩)] _ _ l0_0 _ (Kd.C_below HR.out (below_alloc (below_alloc (Below.refl _ _) _) _)) EN.out (fun y _ W hW => (JointNamed1_calls y.f0 y.f1 y.f2 y.f3 (w.heap.size + 1) a1 W (Nat.lt_of_lt_of_le (by simp) hW.size) ((hW.cell (p := ⟨w.heap.size + 1, 0, none⟩) (by simp)).trans (by simp))).mono (fun e W' ⟨h1, h2⟩ => ⟨h1, below_step hW h2⟩))).mono ?_; rintro e w9 ⟨rfl, hb9⟩)
  go_ret
  exact ⟨rfl, below_step (below_alloc (below_alloc (Below.refl _ _) _) _) hb9⟩
theorem impl_JointNamed.calls (A0_0 : Option Addr) (c0_0 : Nat) (l0_0 : List S111) (A0_1 : Option Addr) (c0_1 : Nat) (l0_1 : List S96) (a1 : ByteArray) (r : Int) (w : World) (hr0_0 : Kd.C k111 w A0_0 l0_0.length l0_0) (hc0_0 : l0_0.length ≤ c0_0) (hr0_1 : Kd.C k96 w A0_1 l0_1.length l0_1) (hc0_1 : l0_1.length ≤ c0_1) (h : impl_JointNamed.f l0_0 l0_1 a1 = some r) :
    Calls Try.prog 93 #[.agg #[.slice A0_0 l0_0.length c0_0, .slice A0_1 l0_1.length c0_1], .string a1] w fun e w' => e = .returned (.int .i64 r) ∧ Below w.heap.size w w' := impl_JointNamed.calls_nc A0_0 c0_0 l0_0 A0_1 c0_1 l0_1 a1 r w hr0_0 hr0_1 h

-- NOT PRINTED: function 104 (impl_Member_104)

-- NOT PRINTED: function 94 (impl_Member_94)

/-- A state of type 62 at block g of W; what its slices lead to came in by w0. -/
def IsS62 (w0 W : World) (g : Nat) (f0 : List (S111)) (f1 : List (S96)) : Prop := ∃ A0 c0, ∃ A1 c1, W.heap[g]? = some (.cells #[.slice A0 f0.length c0, .slice A1 f1.length c1] 62 (0, 0)) ∧ w0.heap.size ≤ g ∧ Kd.C k111 w0 A0 f0.length f0 ∧ Kd.C k96 w0 A1 f1.length f1
theorem IsS62.grown {w0 W : World} {g : Nat} {f0 : List (S111)} {f1 : List (S96)} {W1 : World} {row : Option Nat} (h : IsS62 w0 W g f0 f1) (hw : W.grownBy W1 row) (hne : some g ≠ row) : IsS62 w0 W1 g f0 f1 := by
  obtain ⟨A0, c0, A1, c1, hb, hg, hr0, hr1⟩ := h
  exact ⟨A0, c0, A1, c1, blk_grown hb hw hne, hg, hr0, hr1⟩
theorem IsS62.own_neN {w0 W : World} {g : Nat} {f0 : List (S111)} {f1 : List (S96)} {α : Type} {d : Kd α} {e : Nat} {base : Nat} {ok : Nat → Prop} {v : Value} {xs : List α} (h : IsS62 w0 W g f0 f1) (ho : Kd.N d e W base ok v xs) (ht : e ≠ 62) : some g ≠ v.ownBlock := by
  obtain ⟨A0, c0, A1, c1, hb, hg, hr0, hr1⟩ := h
  exact Kd.N_ne ho hb ht
theorem IsS62.fresh {w0 W : World} {g : Nat} {f0 : List (S111)} {f1 : List (S96)} (h : IsS62 w0 W g f0 f1) : ∀ k, W.heap.size ≤ k → k ≠ g := by
  obtain ⟨A0, c0, A1, c1, hb, hg, hr0, hr1⟩ := h
  exact Kd.freshB hb
theorem IsS62.kept {w0 W : World} {g : Nat} {f0 : List (S111)} {f1 : List (S96)} {W1 : World} {S : Nat → Prop} (h : IsS62 w0 W g f0 f1) (hk : Kept W W1 S) (hne : ¬ S g) : IsS62 w0 W1 g f0 f1 := by
  obtain ⟨A0, c0, A1, c1, hb, hg, hr0, hr1⟩ := h
  exact ⟨A0, c0, A1, c1, blk_kept hb hk hne, hg, hr0, hr1⟩
theorem IsS62.below {w0 W : World} {g : Nat} {f0 : List (S111)} {f1 : List (S96)} {W1 : World} (h : IsS62 w0 W g f0 f1) (hw : Below W.heap.size W W1) : IsS62 w0 W1 g f0 f1 := h.grown (grown_of_below hw none) (by simp)
theorem IsS62.alloc {w0 W : World} {g : Nat} {f0 : List (S111)} {f1 : List (S96)} (h : IsS62 w0 W g f0 f1) (o : Obj) : IsS62 w0 (W.alloc o) g f0 f1 := h.below (below_alloc (Below.refl _ _) o)
theorem IsS62.drewN {w0 W : World} {g : Nat} {f0 : List (S111)} {f1 : List (S96)} (h : IsS62 w0 W g f0 f1) (m : Nat) : IsS62 w0 (W.drewN m) g f0 f1 := h
theorem IsS62.drew {w0 W : World} {g : Nat} {f0 : List (S111)} {f1 : List (S96)} (h : IsS62 w0 W g f0 f1) : IsS62 w0 W.drew g f0 f1 := h
theorem IsS62.at_ {w0 W : World} {g : Nat} {f0 : List (S111)} {f1 : List (S96)} {w' : World} {m : Nat} (hq : W.drewN m = w') (h : IsS62 w0 W g f0 f1) : IsS62 w0 w' g f0 f1 := by subst hq; exact IsS62.drewN h m
theorem IsS62.apart {w0 W : World} {g : Nat} {f0 : List (S111)} {f1 : List (S96)} {α : Type} {d : Kd α} {e : Nat} {base : Nat} {ok : Nat → Prop} {v : Value} {xs : List α} (h : IsS62 w0 W g f0 f1) (ho : d.R e W base ok v xs) (ht : ∀ q, q ∈ e :: d.E → q ≠ 62) : d.R e W base (fun k => ok k ∧ k ≠ g) v xs := by
  obtain ⟨A0, c0, A1, c1, hb, hg, hr0, hr1⟩ := h
  exact Kd.R_types ho hb ht
theorem IsS62.own_ne {w0 W : World} {g : Nat} {f0 : List (S111)} {f1 : List (S96)} {α : Type} {d : Kd α} {e : Nat} {base : Nat} {ok : Nat → Prop} {v : Value} {xs : List α} (h : IsS62 w0 W g f0 f1) (ho : d.R e W base ok v xs) (ht : e ≠ 62) : some g ≠ v.ownBlock := by
  obtain ⟨A0, c0, A1, c1, hb, hg, hr0, hr1⟩ := h
  exact Kd.R_ne ho hb ht
theorem IsS62.apartQ {w0 W : World} {g : Nat} {f0 : List (S111)} {f1 : List (S96)} {α : Type} {d : Kd α} {e : Nat} {base : Nat} {ok : Nat → Prop} {v : Value} {xs : List α} (h : IsS62 w0 W g f0 f1) (ho : d.Q e W base ok v xs) (ht : ∀ q, q ∈ e :: d.E → q ≠ 62) : d.Q e W base (fun k => ok k ∧ k ≠ g) v xs := by
  obtain ⟨A0, c0, A1, c1, hb, hg, hr0, hr1⟩ := h
  exact Kd.Q_types ho hb ht
theorem IsS62.own_neQ {w0 W : World} {g : Nat} {f0 : List (S111)} {f1 : List (S96)} {α : Type} {d : Kd α} {e : Nat} {base : Nat} {ok : Nat → Prop} {v : Value} {xs : List α} (h : IsS62 w0 W g f0 f1) (ho : d.Q e W base ok v xs) (ht : e ≠ 62) : some g ≠ v.ownBlock := by
  obtain ⟨A0, c0, A1, c1, hb, hg, hr0, hr1⟩ := h
  exact Kd.Q_ne ho hb ht
theorem IsS62.apartS {w0 W : World} {g : Nat} {f0 : List (S111)} {f1 : List (S96)} {α : Type} {d : Kd α} {e : Nat} {base : Nat} {ok : Nat → Prop} {v : Value} {xs : List α} (h : IsS62 w0 W g f0 f1) (ho : d.S e W base ok v xs) (ht : ∀ q, q ∈ e :: d.E → q ≠ 62) : d.S e W base (fun k => ok k ∧ k ≠ g) v xs := by
  obtain ⟨A0, c0, A1, c1, hb, hg, hr0, hr1⟩ := h
  exact Kd.S_types ho hb ht
theorem IsS62.own_neS {w0 W : World} {g : Nat} {f0 : List (S111)} {f1 : List (S96)} {α : Type} {d : Kd α} {e : Nat} {base : Nat} {ok : Nat → Prop} {v : Value} {xs : List α} (h : IsS62 w0 W g f0 f1) (ho : d.S e W base ok v xs) (ht : e ≠ 62) : some g ≠ v.ownBlock := by
  obtain ⟨A0, c0, A1, c1, hb, hg, hr0, hr1⟩ := h
  exact Kd.S_ne ho hb ht
theorem IsS62.lt {w0 W : World} {g : Nat} {f0 : List (S111)} {f1 : List (S96)} (h : IsS62 w0 W g f0 f1) : g < W.heap.size := by
  obtain ⟨A0, c0, A1, c1, hb, hg, hr0, hr1⟩ := h
  exact blk_lt hb
theorem IsS62.ge {w0 W : World} {g : Nat} {f0 : List (S111)} {f1 : List (S96)} (h : IsS62 w0 W g f0 f1) : w0.heap.size ≤ g := by
  obtain ⟨A0, c0, A1, c1, hb, hg, hr0, hr1⟩ := h
  exact hg
theorem IsS62.ne_blk {w0 W : World} {g : Nat} {f0 : List (S111)} {f1 : List (S96)} {a : Nat} {cs : Array Value} {t : TypeId} {fr : Nat × Nat} (h : IsS62 w0 W g f0 f1) (hb2 : W.heap[a]? = some (.cells cs t fr)) (ht : t ≠ 62) : g ≠ a := by
  obtain ⟨A0, c0, A1, c1, hb, hg, hr0, hr1⟩ := h
  rintro rfl
  rw [hb] at hb2
  injection hb2 with hb2
  injection hb2 with _ ht2
  exact ht ht2.symm
theorem IsS62.far {w0 W : World} {g : Nat} {f0 : List (S111)} {f1 : List (S96)} {p : Addr} (h : IsS62 w0 W g f0 f1) (hne : g ≠ p.block) (u : Value) : IsS62 w0 (W.setCell p u) g f0 f1 := by
  obtain ⟨A0, c0, A1, c1, hb, hg, hr0, hr1⟩ := h
  exact ⟨A0, c0, A1, c1, blk_far hb hne u, hg, hr0, hr1⟩
theorem cellS62_0 {W : World} {g : Nat} {A0 : Option Addr} {c0 : Nat} {A1 : Option Addr} {c1 : Nat} {f0 : List (S111)} {f1 : List (S96)} (h : W.heap[g]? = some (.cells #[.slice A0 f0.length c0, .slice A1 f1.length c1] 62 (0, 0))) : W.cell? ⟨g, 0, none⟩ = some (.slice A0 f0.length c0) := (blk_cell h 0).trans rfl
theorem cellS62_1 {W : World} {g : Nat} {A0 : Option Addr} {c0 : Nat} {A1 : Option Addr} {c1 : Nat} {f0 : List (S111)} {f1 : List (S96)} (h : W.heap[g]? = some (.cells #[.slice A0 f0.length c0, .slice A1 f1.length c1] 62 (0, 0))) : W.cell? ⟨g, 1, none⟩ = some (.slice A1 f1.length c1) := (blk_cell h 1).trans rfl
theorem IsS62.new (w0 W : World) (A0 : Option Addr) (c0 : Nat) (A1 : Option Addr) (c1 : Nat) (f0 : List (S111)) (f1 : List (S96)) (hB : Below w0.heap.size w0 W) (hr0 : Kd.C k111 w0 A0 f0.length f0) (hr1 : Kd.C k96 w0 A1 f1.length f1) : IsS62 w0 (W.alloc (.cells #[.slice A0 f0.length c0, .slice A1 f1.length c1] 62)) W.heap.size f0 f1 := ⟨A0, c0, A1, c1, by simpa using heap_alloc_new W _, hB.size, hr0, hr1⟩

def memOk (l : List S111) (a b k : Int) : Bool :=
  if a < 0 then false else if (l.length : Int) ≤ a then false else if b < 0 then false else if (l.length : Int) ≤ b then false else
  if k < 1 then false else if 3 < k then false else
  ((rd_T111 l a).f1 != (rd_T111 l b).f1 || (rd_T111 l a).f2 != (rd_T111 l b).f2) && !((rd_T111 l a).f3 && (rd_T111 l b).f3)

set_option maxHeartbeats 4000000 in
theorem memberOk_false (g : Nat) (A0 A1 : Option Addr) (n c0 n1 c1 : Nat) (a b k : Int) (w : World)
    (hc : w.heap[g]? = some (.cells #[.slice A0 n c0, .slice A1 n1 c1] 62 (0, 0)))
    (h : a < 0 ∨ (n : Int) ≤ a ∨ b < 0 ∨ (n : Int) ≤ b ∨ k < 1 ∨ 3 < k) :
    Calls Try.prog 96 #[.pointer (some ⟨g, 0, none⟩), .agg #[.int .i64 a, .int .i64 b, .int .i64 k]] w fun e w' => e = .returned (.bool false) ∧ Below w.heap.size w w' := by
  have hcz : w.cell? ⟨g, 0, none⟩ = some (.slice A0 n c0) := (blk_cell hc 0).trans rfl
  by_cases h0 : a < 0
  · replace h0 : decide (a < 0) = true := decide_eq_true h0
    go_enter Try.func96, Try.ntmps96
    go_wp2_with (first | ((with_reducible refine gate_dst (N := 3) rfl ?_); refine box_event ?hg (N := 3) ?hd (cs := #[.int .i64 a, .int .i64 b, .int .i64 k]) (t := 96) ?hr ?_; (case hd => rfl); (case hg => rfl); (case hr => first | (go_simp; done) | (go_simp; rfl)); intro gb hgb w2 hbox hb; have hcz2 := (hb.cell (p := ⟨g, 0, none⟩) (World.block_lt_of_cell? _ _ hcz)).trans hcz; have hb0 : w2.cell? ⟨gb, 0, none⟩ = some (.int .i64 a) := (blk_cell hbox 0).trans rfl; have hb1 : w2.cell? ⟨gb, 1, none⟩ = some (.int .i64 b) := (blk_cell hbox 1).trans rfl; have hb2 : w2.cell? ⟨gb, 2, none⟩ = some (.int .i64 k) := (blk_cell hbox 2).trans rfl; have HGB := Aside0.mk hgb; have HBX := Aside0.mk hbox; have HB := Aside0.mk hb; clear hgb hbox hb))
    go_ret
    exact ⟨rfl, HB.out⟩
  · have i0 : decide (a < 0) = false := decide_eq_false h0
    by_cases h1 : (n : Int) ≤ a
    · replace h1 : decide ((n : Int) ≤ a) = true := decide_eq_true h1
      go_enter Try.func96, Try.ntmps96
      go_wp2_with (first | ((with_reducible refine gate_dst (N := 3) rfl ?_); refine box_event ?hg (N := 3) ?hd (cs := #[.int .i64 a, .int .i64 b, .int .i64 k]) (t := 96) ?hr ?_; (case hd => rfl); (case hg => rfl); (case hr => first | (go_simp; done) | (go_simp; rfl)); intro gb hgb w2 hbox hb; have hcz2 := (hb.cell (p := ⟨g, 0, none⟩) (World.block_lt_of_cell? _ _ hcz)).trans hcz; have hb0 : w2.cell? ⟨gb, 0, none⟩ = some (.int .i64 a) := (blk_cell hbox 0).trans rfl; have hb1 : w2.cell? ⟨gb, 1, none⟩ = some (.int .i64 b) := (blk_cell hbox 1).trans rfl; have hb2 : w2.cell? ⟨gb, 2, none⟩ = some (.int .i64 k) := (blk_cell hbox 2).trans rfl; have HGB := Aside0.mk hgb; have HBX := Aside0.mk hbox; have HB := Aside0.mk hb; clear hgb hbox hb))
      go_ret
      exact ⟨rfl, HB.out⟩
    · have i1 : decide ((n : Int) ≤ a) = false := decide_eq_false h1
      by_cases h2 : b < 0
      · replace h2 : decide (b < 0) = true := decide_eq_true h2
        go_enter Try.func96, Try.ntmps96
        go_wp2_with (first | ((with_reducible refine gate_dst (N := 3) rfl ?_); refine box_event ?hg (N := 3) ?hd (cs := #[.int .i64 a, .int .i64 b, .int .i64 k]) (t := 96) ?hr ?_; (case hd => rfl); (case hg => rfl); (case hr => first | (go_simp; done) | (go_simp; rfl)); intro gb hgb w2 hbox hb; have hcz2 := (hb.cell (p := ⟨g, 0, none⟩) (World.block_lt_of_cell? _ _ hcz)).trans hcz; have hb0 : w2.cell? ⟨gb, 0, none⟩ = some (.int .i64 a) := (blk_cell hbox 0).trans rfl; have hb1 : w2.cell? ⟨gb, 1, none⟩ = some (.int .i64 b) := (blk_cell hbox 1).trans rfl; have hb2 : w2.cell? ⟨gb, 2, none⟩ = some (.int .i64 k) := (blk_cell hbox 2).trans rfl; have HGB := Aside0.mk hgb; have HBX := Aside0.mk hbox; have HB := Aside0.mk hb; clear hgb hbox hb))
        go_ret
        exact ⟨rfl, HB.out⟩
      · have i2 : decide (b < 0) = false := decide_eq_false h2
        by_cases h3 : (n : Int) ≤ b
        · replace h3 : decide ((n : Int) ≤ b) = true := decide_eq_true h3
          go_enter Try.func96, Try.ntmps96
          go_wp2_with (first | ((with_reducible refine gate_dst (N := 3) rfl ?_); refine box_event ?hg (N := 3) ?hd (cs := #[.int .i64 a, .int .i64 b, .int .i64 k]) (t := 96) ?hr ?_; (case hd => rfl); (case hg => rfl); (case hr => first | (go_simp; done) | (go_simp; rfl)); intro gb hgb w2 hbox hb; have hcz2 := (hb.cell (p := ⟨g, 0, none⟩) (World.block_lt_of_cell? _ _ hcz)).trans hcz; have hb0 : w2.cell? ⟨gb, 0, none⟩ = some (.int .i64 a) := (blk_cell hbox 0).trans rfl; have hb1 : w2.cell? ⟨gb, 1, none⟩ = some (.int .i64 b) := (blk_cell hbox 1).trans rfl; have hb2 : w2.cell? ⟨gb, 2, none⟩ = some (.int .i64 k) := (blk_cell hbox 2).trans rfl; have HGB := Aside0.mk hgb; have HBX := Aside0.mk hbox; have HB := Aside0.mk hb; clear hgb hbox hb))
          go_ret
          exact ⟨rfl, HB.out⟩
        · have i3 : decide ((n : Int) ≤ b) = false := decide_eq_false h3
          by_cases h4 : k < 1
          · replace h4 : decide (k < 1) = true := decide_eq_true h4
            go_enter Try.func96, Try.ntmps96
            go_wp2_with (first | ((with_reducible refine gate_dst (N := 3) rfl ?_); refine box_event ?hg (N := 3) ?hd (cs := #[.int .i64 a, .int .i64 b, .int .i64 k]) (t := 96) ?hr ?_; (case hd => rfl); (case hg => rfl); (case hr => first | (go_simp; done) | (go_simp; rfl)); intro gb hgb w2 hbox hb; have hcz2 := (hb.cell (p := ⟨g, 0, none⟩) (World.block_lt_of_cell? _ _ hcz)).trans hcz; have hb0 : w2.cell? ⟨gb, 0, none⟩ = some (.int .i64 a) := (blk_cell hbox 0).trans rfl; have hb1 : w2.cell? ⟨gb, 1, none⟩ = some (.int .i64 b) := (blk_cell hbox 1).trans rfl; have hb2 : w2.cell? ⟨gb, 2, none⟩ = some (.int .i64 k) := (blk_cell hbox 2).trans rfl; have HGB := Aside0.mk hgb; have HBX := Aside0.mk hbox; have HB := Aside0.mk hb; clear hgb hbox hb))
            go_ret
            exact ⟨rfl, HB.out⟩
          · have i4 : decide (k < 1) = false := decide_eq_false h4
            replace h5 : decide (3 < k) = true := decide_eq_true (by omega)
            go_enter Try.func96, Try.ntmps96
            go_wp2_with (first | ((with_reducible refine gate_dst (N := 3) rfl ?_); refine box_event ?hg (N := 3) ?hd (cs := #[.int .i64 a, .int .i64 b, .int .i64 k]) (t := 96) ?hr ?_; (case hd => rfl); (case hg => rfl); (case hr => first | (go_simp; done) | (go_simp; rfl)); intro gb hgb w2 hbox hb; have hcz2 := (hb.cell (p := ⟨g, 0, none⟩) (World.block_lt_of_cell? _ _ hcz)).trans hcz; have hb0 : w2.cell? ⟨gb, 0, none⟩ = some (.int .i64 a) := (blk_cell hbox 0).trans rfl; have hb1 : w2.cell? ⟨gb, 1, none⟩ = some (.int .i64 b) := (blk_cell hbox 1).trans rfl; have hb2 : w2.cell? ⟨gb, 2, none⟩ = some (.int .i64 k) := (blk_cell hbox 2).trans rfl; have HGB := Aside0.mk hgb; have HBX := Aside0.mk hbox; have HB := Aside0.mk hb; clear hgb hbox hb))
            go_ret
            exact ⟨rfl, HB.out⟩
set_option maxHeartbeats 4000000 in
theorem memberOk_true (g : Nat) (ad : Addr) (A1 : Option Addr) (n c0 n1 c1 : Nat) (a b k : Int) (x0 : ByteArray) (x1 x2 : Int) (x3 : Bool) (y0 : ByteArray) (y1 y2 : Int) (y3 : Bool) (w : World)
    (hc : w.heap[g]? = some (.cells #[.slice (some ad) n c0, .slice A1 n1 c1] 62 (0, 0)))
    (hm : (n : Int) ≤ 9223372036854775807)
    (h1 : 0 ≤ a) (h2 : a < (n : Int)) (h3 : 0 ≤ b) (h4 : b < (n : Int)) (h5 : 1 ≤ k) (h6 : k ≤ 3)
    (hx0 : w.cell? (ad.add (a.toNat * 4)) = some (.string x0)) (hx1 : w.cell? ⟨(ad.add (a.toNat * 4)).block, (ad.add (a.toNat * 4)).off + 1, none⟩ = some (.int .i64 x1)) (hx2 : w.cell? ⟨(ad.add (a.toNat * 4)).block, (ad.add (a.toNat * 4)).off + 2, none⟩ = some (.int .i64 x2)) (hx3 : w.cell? ⟨(ad.add (a.toNat * 4)).block, (ad.add (a.toNat * 4)).off + 3, none⟩ = some (.bool x3))
    (hy0 : w.cell? (ad.add (b.toNat * 4)) = some (.string y0)) (hy1 : w.cell? ⟨(ad.add (b.toNat * 4)).block, (ad.add (b.toNat * 4)).off + 1, none⟩ = some (.int .i64 y1)) (hy2 : w.cell? ⟨(ad.add (b.toNat * 4)).block, (ad.add (b.toNat * 4)).off + 2, none⟩ = some (.int .i64 y2)) (hy3 : w.cell? ⟨(ad.add (b.toNat * 4)).block, (ad.add (b.toNat * 4)).off + 3, none⟩ = some (.bool y3)) :
    Calls Try.prog 96 #[.pointer (some ⟨g, 0, none⟩), .agg #[.int .i64 a, .int .i64 b, .int .i64 k]] w fun e w' => e = .returned (.bool (((x1 != y1) || (x2 != y2)) && !(x3 && y3))) ∧ Below w.heap.size w w' := by
  have hcz : w.cell? ⟨g, 0, none⟩ = some (.slice (some ad) n c0) := (blk_cell hc 0).trans rfl
  have i0 : decide (a < 0) = false := decide_eq_false (by omega)
  have i1 : decide ((n : Int) ≤ a) = false := decide_eq_false (by omega)
  have i2 : decide (b < 0) = false := decide_eq_false (by omega)
  have i3 : decide ((n : Int) ≤ b) = false := decide_eq_false (by omega)
  have i4 : decide (k < 1) = false := decide_eq_false (by omega)
  have i5 : decide (3 < k) = false := decide_eq_false (by omega)
  go_enter Try.func96, Try.ntmps96
  go_wp2_with (first | ((with_reducible refine gate_dst (N := 3) rfl ?_); refine box_event ?hg (N := 3) ?hd (cs := #[.int .i64 a, .int .i64 b, .int .i64 k]) (t := 96) ?hr ?_; (case hd => rfl); (case hg => rfl); (case hr => first | (go_simp; done) | (go_simp; rfl)); intro gb hgb w2 hbox hb; have hcz2 := (hb.cell (p := ⟨g, 0, none⟩) (World.block_lt_of_cell? _ _ hcz)).trans hcz; have hb0 : w2.cell? ⟨gb, 0, none⟩ = some (.int .i64 a) := (blk_cell hbox 0).trans rfl; have hb1 : w2.cell? ⟨gb, 1, none⟩ = some (.int .i64 b) := (blk_cell hbox 1).trans rfl; have hb2 : w2.cell? ⟨gb, 2, none⟩ = some (.int .i64 k) := (blk_cell hbox 2).trans rfl; replace hx0 := pw_cell_below hb hx0; replace hx1 := pw_cell_below hb hx1; replace hx2 := pw_cell_below hb hx2; replace hx3 := pw_cell_below hb hx3; replace hy0 := pw_cell_below hb hy0; replace hy1 := pw_cell_below hb hy1; replace hy2 := pw_cell_below hb hy2; replace hy3 := pw_cell_below hb hy3; have HGB := Aside0.mk hgb; have HBX := Aside0.mk hbox; have HB := Aside0.mk hb; clear hgb hbox hb))
  have s1 := World.block_lt_of_cell? _ _ hcz2
  have s2 := World.block_lt_of_cell? _ _ hb0
  have s3 := World.block_lt_of_cell? _ _ hx0
  have s4 := World.block_lt_of_cell? _ _ hy0
  have t1 : g < w2.heap.size + 1 := Nat.lt_succ_of_lt s1
  have t2 : gb < w2.heap.size + 1 := Nat.lt_succ_of_lt s2
  have t3 := Nat.lt_succ_of_lt s3
  have t4 := Nat.lt_succ_of_lt s4
  have hx0a := pw_cell_below (below_alloc (Below.refl _ _) (.cells #[.string ⟨#[]⟩, .int .i64 0, .int .i64 0, .bool false] 111)) hx0
  have hx0b := pw_cell_below (below_alloc (Below.refl _ _) (.cells #[.string ⟨#[]⟩, .int .i64 0, .int .i64 0, .bool false] 111)) hx0a
  have hy0a := pw_cell_below (below_alloc (Below.refl _ _) (.cells #[.string ⟨#[]⟩, .int .i64 0, .int .i64 0, .bool false] 111)) hy0
  have hy0b := pw_cell_below (below_alloc (Below.refl _ _) (.cells #[.string ⟨#[]⟩, .int .i64 0, .int .i64 0, .bool false] 111)) hy0a
  go_region
  all_goals clear hx0 hx1 hx2 hx3 hy0 hy1 hy2 hy3 hx0a hx0b hy0a hy0b t1 t2 t3 t4 s1 s2 s3 s4 hb0 hb1 hb2 hcz2 i0 i1 i2 i3 i4 i5 hcz hc h1 h2 h3 h4 h5 h6 hm
  all_goals have e1 : ((x1 != y1) = true ∨ (x1 != y1) = false) := by cases (x1 != y1) <;> simp
  all_goals have e2 : ((x2 != y2) = true ∨ (x2 != y2) = false) := by cases (x2 != y2) <;> simp
  all_goals have e3 : ((x1 != y1) = true ∨ ((x1 != y1) = false ∧ (x2 != y2) = true) ∨ ((x1 != y1) = false ∧ (x2 != y2) = false)) := by revert e1 e2; cases (x1 != y1) <;> cases (x2 != y2) <;> simp
  all_goals clear e1 e2
  all_goals obtain e1 | ⟨e1, e2⟩ | ⟨e1, e2⟩ := e3 <;> cases x3 <;> (go_wp2; go_ret; exact ⟨by rw [e1]; first | rfl | (rw [e2]; first | rfl | (cases y3 <;> rfl)) | (cases y3 <;> rfl), below_step HB.out (below_drew1 (below_alloc (below_alloc (Below.refl _ _) _) _))⟩)

def impl_Structure_memberOk.f (s0_0 : List S111) (s0_1 : List S96) (a1_0 : Int) (a1_1 : Int) (a1_2 : Int) : Option Bool := some (memOk s0_0 a1_0 a1_1 a1_2)
theorem memberOk_below (g : Nat) (s0_0 : List S111) (s0_1 : List S96) (a b k : Int) (w0 w : World) (hI : IsS62 w0 w g s0_0 s0_1) (hB : Below w0.heap.size w0 w) :
    Calls Try.prog 96 #[.pointer (some ⟨g, 0, none⟩), .agg #[.int .i64 a, .int .i64 b, .int .i64 k]] w fun e w' => e = .returned (.bool (memOk s0_0 a b k)) ∧ Below w.heap.size w w' := by
  obtain ⟨A0, c0, A1, c1, hb, hge, hr0, hr1⟩ := hI
  by_cases c : a < 0 ∨ (s0_0.length : Int) ≤ a ∨ b < 0 ∨ (s0_0.length : Int) ≤ b ∨ k < 1 ∨ 3 < k
  · have e : memOk s0_0 a b k = false := by
      unfold memOk
      by_cases q1 : a < 0
      · rw [if_pos q1]
      by_cases q2 : (s0_0.length : Int) ≤ a
      · rw [if_neg q1, if_pos q2]
      by_cases q3 : b < 0
      · rw [if_neg q1, if_neg q2, if_pos q3]
      by_cases q4 : (s0_0.length : Int) ≤ b
      · rw [if_neg q1, if_neg q2, if_neg q3, if_pos q4]
      by_cases q5 : k < 1
      · rw [if_neg q1, if_neg q2, if_neg q3, if_neg q4, if_pos q5]
      rw [if_neg q1, if_neg q2, if_neg q3, if_neg q4, if_neg q5, if_pos (by omega)]
    rw [e]
    exact memberOk_false g A0 A1 s0_0.length c0 s0_1.length c1 a b k w hb c
  · have e : memOk s0_0 a b k = (((rd_T111 s0_0 a).f1 != (rd_T111 s0_0 b).f1 || (rd_T111 s0_0 a).f2 != (rd_T111 s0_0 b).f2) && !((rd_T111 s0_0 a).f3 && (rd_T111 s0_0 b).f3)) := by
      unfold memOk
      rw [if_neg (by omega), if_neg (by omega), if_neg (by omega), if_neg (by omega), if_neg (by omega), if_neg (by omega)]
    rw [e]
    have hm : s0_0.length ≤ 9223372036854775807 := hr0.2.1
    obtain ⟨ad, e1, x0, x1, x2, x3⟩ := at_T111 hr0 a (by omega) (by omega)
    obtain ⟨ad2, e2, y0, y1, y2, y3⟩ := at_T111 hr0 b (by omega) (by omega)
    cases e1
    injection e2 with e2
    subst e2
    exact memberOk_true g ad A1 s0_0.length c0 s0_1.length c1 a b k _ _ _ _ _ _ _ _ w hb (by omega) (by omega) (by omega) (by omega) (by omega) (by omega) (by omega) (pw_cell_below hB x0) (pw_cell_below hB x1) (pw_cell_below hB x2) (pw_cell_below hB x3) (pw_cell_below hB y0) (pw_cell_below hB y1) (pw_cell_below hB y2) (pw_cell_below hB y3)
theorem impl_Structure_memberOk.calls (g : Nat) (s0_0 : List S111) (s0_1 : List S96) (a1_0 : Int) (a1_1 : Int) (a1_2 : Int) (r : Bool) (w0 w : World) (hI : IsS62 w0 w g s0_0 s0_1) (hB : Below w0.heap.size w0 w) (h : impl_Structure_memberOk.f s0_0 s0_1 a1_0 a1_1 a1_2 = some r) :
    Calls Try.prog 96 #[.pointer (some ⟨g, 0, none⟩), .agg #[.int .i64 a1_0, .int .i64 a1_1, .int .i64 a1_2]] w fun e w' => e = .returned (.bool r) ∧ IsS62 w0 w' g s0_0 s0_1 ∧ Below w0.heap.size w0 w' ∧ KeepBut w w' g none := by
  obtain rfl := Option.some.inj h
  exact (memberOk_below g s0_0 s0_1 a1_0 a1_1 a1_2 w0 w hI hB).mono (fun e w' ⟨h1, h2⟩ => ⟨h1, hI.below h2, below_step hB h2, KeepBut.of_below h2 g none⟩)

set_option maxHeartbeats 1000000 in
theorem IndexFuncMember_calls (p : S96 → Bool) (g : FuncId) (lb : Array Value) (A : Option Addr) (c : Nat) (l : List S96) (w : World)
    (hr : Kd.C k96 w A l.length l) (eg : ∀ args w, (callFunc g args).run Try.prog w = .ok (.enter g args) w)
    (hg : ∀ x ∈ l, ∀ W, Below w.heap.size w W → Calls Try.prog g (#[.agg #[.int .i64 x.f0, .int .i64 x.f1, .int .i64 x.f2]] ++ lb) W fun e W' => e = .returned (.bool (p x)) ∧ Below w.heap.size w W') :
    Calls Try.prog 104 #[.slice A l.length c, .func (.func g) #[] lb] w fun e w' => e = .returned (.int .i64 (idxOf p l 0)) ∧ Below w.heap.size w w' := by
  have hm : l.length ≤ 9223372036854775807 := hr.2.1
  go_enter Try.func104, Try.ntmps104
  go_wp2
  go_loopg [5, 8] l.length (fun gg _ s8 wr => ∃ kk : Nat, kk ≤ l.length ∧ l.length - kk ≤ gg ∧ s8 = .int .i64 kk ∧ Aside0 (Below w.heap.size w wr) ∧ Aside0 (idxOf p l 0 = idxOf p (l.drop kk) kk))
  case atStart => exact ⟨0, Nat.zero_le _, by omega, rfl, ⟨Below.refl _ w⟩, ⟨rfl⟩⟩
  case round =>
    obtain ⟨kk, hkk, hgg, rfl, BW, HI⟩ := hrel
    by_cases hlt : kk < l.length
    · have hltz : (kk : Int) < (l.length : Int) := by omega
      obtain ⟨ad, rfl, h0, h1, h2⟩ := at_T96 (Kd.C_below hr BW.out) (kk : Int) (by omega) hltz
      have hx : rd_T96 l (kk : Int) = l[kk] := by
        simp [rd_T96, List.getD, hlt]
      have hcall := hg l[kk] (List.getElem_mem hlt) wr BW.out
      have hdr := Aside0.mk (drop_cons2 (List.getElem?_eq_getElem hlt))
      rw [hx] at h0 h1 h2
      simp only [Int.toNat_natCast] at h0 h1 h2
      clear hx hg
      generalize l[kk] = y at *
      cases hq : p y with
      | true =>
        rw [hq] at hcall
        have HQ := Aside0.mk hq
        clear hq
        go_wp2_with (go_at_fn g; refine hcall.mono ?_; rintro e w' ⟨rfl, hb'⟩)
        go_ret
        refine ⟨?_, hb'⟩
        rw [HI.out, hdr.out]
        simp [idxOf, HQ.out]
      | false =>
        rw [hq] at hcall
        have HQ := Aside0.mk hq
        clear hq
        go_wp2_with (go_at_fn g; refine hcall.mono ?_; rintro e w' ⟨rfl, hb'⟩)
        go_roundg (l.length - (kk + 1))
        case measure => omega
        case rel =>
          refine ⟨kk + 1, by omega, by omega, by go_num, ⟨hb'⟩, ⟨?_⟩⟩
          rw [HI.out, hdr.out]
          simp [idxOf, HQ.out]
    · have hltz : ¬ (kk : Int) < (l.length : Int) := by omega
      go_wp2
      go_ret
      refine ⟨?_, BW.out⟩
      rw [HI.out, List.drop_eq_nil_of_le (by omega)]
      rfl

set_option maxHeartbeats 1000000 in
theorem ContainsFuncMember_calls (p : S96 → Bool) (g : FuncId) (lb : Array Value) (A : Option Addr) (c : Nat) (l : List S96) (w : World)
    (hr : Kd.C k96 w A l.length l) (eg : ∀ args w, (callFunc g args).run Try.prog w = .ok (.enter g args) w)
    (hg : ∀ x ∈ l, ∀ W, Below w.heap.size w W → Calls Try.prog g (#[.agg #[.int .i64 x.f0, .int .i64 x.f1, .int .i64 x.f2]] ++ lb) W fun e W' => e = .returned (.bool (p x)) ∧ Below w.heap.size w W') :
    Calls Try.prog 94 #[.slice A l.length c, .func (.func g) #[] lb] w fun e w' => e = .returned (.bool (decide (0 ≤ idxOf p l 0))) ∧ Below w.heap.size w w' := by
  have HC := Aside0.mk (IndexFuncMember_calls p g lb A c l w hr eg hg)
  clear hr eg hg
  go_enter Try.func94, Try.ntmps94
  go_wp2_with (go_at_call 104; refine HC.out.mono ?_; rintro e w' ⟨rfl, hb'⟩)
  go_ret
  exact ⟨rfl, hb'⟩

set_option maxHeartbeats 1000000 in
theorem StructureOk1_calls (y0 y1 y2 : Int) (g : Nat) (s0_0 : List S111) (s0_1 : List S96) (w0 w : World) (hI : IsS62 w0 w g s0_0 s0_1) (hB : Below w0.heap.size w0 w) :
    Calls Try.prog 95 #[.agg #[.int .i64 y0, .int .i64 y1, .int .i64 y2], .pointer (some ⟨g, 0, none⟩)] w fun e w' => e = .returned (.bool (!memOk s0_0 y0 y1 y2)) ∧ Below w.heap.size w w' := by
  have HI := Aside0.mk hI
  have HB := Aside0.mk hB
  clear hI hB
  go_enter Try.func95, Try.ntmps95
  go_wp2_with (go_at_call 96; refine (memberOk_below g s0_0 s0_1 y0 y1 y2 w0 _ (HI.out.alloc _) (below_alloc HB.out _)).mono ?_; rintro e w' ⟨rfl, hb'⟩)
  go_ret
  exact ⟨rfl, below_step (below_alloc (Below.refl _ _) _) hb'⟩

def impl_StructureOk.l0 : Nat → List S111 → List S96 → Int → Option Bool
  | 0, _, _, _ => none
  | k + 1, l, m, i => if i < (l.length : Int) then ((impl_JointOk.f k (rd_T111 l i).f0 (rd_T111 l i).f1 (rd_T111 l i).f2 (rd_T111 l i).f3).bind fun t => if t = true then (if idxOf (fun y => y.f0.toList == (rd_T111 l i).f0.toList) l 0 = i then impl_StructureOk.l0 k l m (wrap64 (i + 1)) else some false) else some false) else some (!(decide (0 ≤ idxOf (fun y => !memOk l y.f0 y.f1 y.f2) m 0)))
def impl_StructureOk.f (k : Nat) (l0_0 : List S111) (l0_1 : List S96) : Option Bool := if (l0_0.length : Int) > 6 then some false else if (l0_1.length : Int) > 8 then some false else impl_StructureOk.l0 k l0_0 l0_1 0
theorem impl_StructureOk.mono_l : ∀ k, (∀ y0 y1 y2, LeO (impl_StructureOk.l0 k y0 y1 y2) (impl_StructureOk.l0 (k + 1) y0 y1 y2))
  | 0 => fun _ _ _ r h => by simp [impl_StructureOk.l0] at h
  | k + 1 => fun y0 y1 y2 => by
    unfold impl_StructureOk.l0
    exact LeO.ite (LeO.bind (impl_JointOk.mono _ _ _ _ k) (fun _ => LeO.ite (LeO.ite (impl_StructureOk.mono_l k _ _ _) (LeO.refl _)) (LeO.refl _))) (LeO.refl _)
theorem impl_StructureOk.mono : ∀ a0 a1 k, LeO (impl_StructureOk.f k a0 a1) (impl_StructureOk.f (k + 1) a0 a1) := fun a0 a1 k => LeO.ite (LeO.refl _) (LeO.ite (LeO.refl _) (impl_StructureOk.mono_l k _ _ _))
set_option maxHeartbeats 4000000 in
theorem impl_StructureOk.calls_nc (k : Nat) (A0_0 : Option Addr) (c0_0 : Nat) (l0_0 : List (S111)) (A0_1 : Option Addr) (c0_1 : Nat) (l0_1 : List (S96)) (r : Bool) (w : World) (hr0_0 : Kd.C k111 w A0_0 l0_0.length l0_0) (hr0_1 : Kd.C k96 w A0_1 l0_1.length l0_1) (h : impl_StructureOk.f k l0_0 l0_1 = some r) :
    Calls Try.prog 85 #[.agg #[.slice A0_0 l0_0.length c0_0, .slice A0_1 l0_1.length c0_1]] w fun e w' => e = .returned (.bool r) ∧ Below w.heap.size w w' := by
  unfold impl_StructureOk.f at h
  have hm0 : l0_0.length ≤ 9223372036854775807 := hr0_0.2.1
  have hm1 : l0_1.length ≤ 9223372036854775807 := hr0_1.2.1
  by_cases c1 : (l0_0.length : Int) > 6
  · rw [if_pos c1] at h
    obtain rfl := Option.some.inj h
    have c1' : decide (6 < (l0_0.length : Int)) = true := decide_eq_true c1
    clear hr0_0 hr0_1 h
    go_enter Try.func85, Try.ntmps85
    go_wp2_with (first | ((with_reducible refine gate_dst (N := 1) rfl ?_); refine box_event ?hg (N := 1) ?hd (cs := #[.slice A0_0 l0_0.length c0_0, .slice A0_1 l0_1.length c0_1]) (t := 62) ?hr ?_; (case hd => rfl); (case hg => rfl); (case hr => first | (go_simp; done) | (go_simp; rfl)); intro gb hgb w1 hbox hb; have z0 : w1.cell? ⟨gb, 0, none⟩ = some (.slice A0_0 l0_0.length c0_0) := (blk_cell hbox 0).trans rfl; have z1 : w1.cell? ⟨gb, 1, none⟩ = some (.slice A0_1 l0_1.length c0_1) := (blk_cell hbox 1).trans rfl; have HGB := Aside0.mk hgb; have HBX := Aside0.mk hbox; have HB := Aside0.mk hb; clear hgb hbox hb))
    go_ret
    exact ⟨rfl, HB.out⟩
  rw [if_neg c1] at h
  have c1' : decide (6 < (l0_0.length : Int)) = false := decide_eq_false c1
  by_cases c2 : (l0_1.length : Int) > 8
  · rw [if_pos c2] at h
    obtain rfl := Option.some.inj h
    have c2' : decide (8 < (l0_1.length : Int)) = true := decide_eq_true c2
    clear hr0_0 hr0_1 h
    go_enter Try.func85, Try.ntmps85
    go_wp2_with (first | ((with_reducible refine gate_dst (N := 1) rfl ?_); refine box_event ?hg (N := 1) ?hd (cs := #[.slice A0_0 l0_0.length c0_0, .slice A0_1 l0_1.length c0_1]) (t := 62) ?hr ?_; (case hd => rfl); (case hg => rfl); (case hr => first | (go_simp; done) | (go_simp; rfl)); intro gb hgb w1 hbox hb; have z0 : w1.cell? ⟨gb, 0, none⟩ = some (.slice A0_0 l0_0.length c0_0) := (blk_cell hbox 0).trans rfl; have z1 : w1.cell? ⟨gb, 1, none⟩ = some (.slice A0_1 l0_1.length c0_1) := (blk_cell hbox 1).trans rfl; have HGB := Aside0.mk hgb; have HBX := Aside0.mk hbox; have HB := Aside0.mk hb; clear hgb hbox hb))
    go_ret
    exact ⟨rfl, HB.out⟩
  rw [if_neg c2] at h
  have c2' : decide (8 < (l0_1.length : Int)) = false := decide_eq_false c2
  have H := Aside0.mk h
  have HR0 := Aside0.mk hr0_0
  have HR1 := Aside0.mk hr0_1
  clear h hr0_0 hr0_1
  go_enter Try.func85, Try.ntmps85
  go_wp2_with (first | ((with_reducible refine gate_dst (N := 1) rfl ?_); refine box_event ?hg (N := 1) ?hd (cs := #[.slice A0_0 l0_0.length c0_0, .slice A0_1 l0_1.length c0_1]) (t := 62) ?hr ?_; (case hd => rfl); (case hg => rfl); (case hr => first | (go_simp; done) | (go_simp; rfl)); intro gb hgb w1 hbox hb; have z0 : w1.cell? ⟨gb, 0, none⟩ = some (.slice A0_0 l0_0.length c0_0) := (blk_cell hbox 0).trans rfl; have z1 : w1.cell? ⟨gb, 1, none⟩ = some (.slice A0_1 l0_1.length c0_1) := (blk_cell hbox 1).trans rfl; have HGB := Aside0.mk hgb; have HBX := Aside0.mk hbox; have HB := Aside0.mk hb; clear hgb hbox hb))
  have HI : Aside0 (IsS62 w w1 gb l0_0 l0_1) := ⟨_, _, _, _, HBX.out, (by rw [HGB.out]; exact Nat.le_refl _), HR0.out, HR1.out⟩
  clear z0 z1
  go_loopg [18] k (fun kq v wr => ∃ i : Int, v = .int .i64 i ∧ 0 ≤ i ∧ i ≤ l0_0.length ∧ Aside0 (impl_StructureOk.l0 kq l0_0 l0_1 i = some r) ∧ Aside0 (kq ≤ k) ∧ Aside0 (Below w1.heap.size w1 wr))
  case atStart => exact ⟨0, rfl, by omega, by omega, H, ⟨Nat.le_refl _⟩, ⟨Below.refl _ w1⟩⟩
  case round =>
    clear H
    obtain ⟨i, rfl, hi0, hi1, H, HK, BW⟩ := hrel
    cases gk with
    | zero => exact absurd H.out (by simp [impl_StructureOk.l0])
    | succ k1 =>
      have h := H.out
      clear H
      simp only [impl_StructureOk.l0] at h
      have BWW := Aside0.mk (below_step HB.out BW.out)
      have HIR := Aside0.mk (HI.out.below BW.out)
      have HBR := Aside0.mk ((BW.out.block gb (blk_lt HBX.out)).trans HBX.out)
      by_cases hlt : i < (l0_0.length : Int)
      · rw [if_pos hlt] at h
        obtain ⟨t, ht, h⟩ := Option.bind_eq_some_iff.1 h
        obtain ⟨ad, rfl, h0, h1, h2, h3⟩ := at_T111 (Kd.C_below HR0.out BWW.out) i hi0 hlt
        generalize rd_T111 l0_0 i = x at *
        have HT := Aside0.mk ht
        clear ht
        have H' := Aside0.mk h
        clear h
        cases t with
        | false =>
          go_wp2_with (go_at_call 92; refine (impl_JointOk.calls k1 _ _ _ _ false _ HT.out).mono ?_; rintro e w8 ⟨rfl, hb⟩)
          go_ret
          have hr : r = false := by simpa using H'.out.symm
          subst hr
          exact ⟨rfl, below_step (below_alloc BWW.out _) hb⟩
        | true =>
          have h' := H'.out
          clear H'
          rw [if_pos rfl] at h'
          by_cases hj : idxOf (fun y => y.f0.toList == x.f0.toList) l0_0 0 = i
          · rw [if_pos hj] at h'
            rw [show wrap64 (i + 1) = i + 1 by unfold wrap64; omega] at h'
            have H2 := Aside0.mk h'
            clear h'
            go_wp2_with (first
              | (go_at_call 92; refine (impl_JointOk.calls k1 _ _ _ _ true _ HT.out).mono ?_; rintro e w8 ⟨rfl, hb⟩; have B8 := Aside0.mk (below_step (below_alloc BW.out _) hb); have R80 := Aside0.mk (Kd.C_below HR0.out (below_step HB.out B8.out)); have R81 := Aside0.mk (Kd.C_below HR1.out (below_step HB.out B8.out)); have HBY := Aside0.mk (B8.out.block gb (blk_lt HBX.out)); have y0 : w8.cell? ⟨gb, 0, none⟩ = some (.slice (some ad) l0_0.length c0_0) := (blk_cell (HBY.out.trans HBX.out) 0).trans rfl; have y1 : w8.cell? ⟨gb, 1, none⟩ = some (.slice A0_1 l0_1.length c0_1) := (blk_cell (HBY.out.trans HBX.out) 1).trans rfl; have z8 : w8.cell? ⟨wr.heap.size, 0, none⟩ = some (.string x.f0) := (hb.cell (p := ⟨wr.heap.size, 0, none⟩) (by simp)).trans (by simp); have HB8 := Aside0.mk hb; clear hb)
              | (go_at_call 93; refine (impl_JointNamed.calls_nc _ _ l0_0 _ _ l0_1 x.f0 _ _ R80.out R81.out rfl).mono ?_; rintro e w9 ⟨rfl, hb9⟩))
            go_roundg k1
            case measure => omega
            case rel => exact ⟨i + 1, rfl, by omega, by omega, H2, ⟨by have := HK.out; omega⟩, ⟨below_step B8.out hb9⟩⟩
          · rw [if_neg hj] at h'
            obtain rfl := Option.some.inj h'
            have hj' : (idxOf (fun y => y.f0.toList == x.f0.toList) l0_0 0 == i) = false := by simpa using hj
            have hj2 : (idxOf (fun y => y.f0.toList == x.f0.toList) l0_0 0 != i) = true := by simpa using hj
            go_wp2_with (first
              | (go_at_call 92; refine (impl_JointOk.calls k1 _ _ _ _ true _ HT.out).mono ?_; rintro e w8 ⟨rfl, hb⟩; have B8 := Aside0.mk (below_step (below_alloc BW.out _) hb); have R80 := Aside0.mk (Kd.C_below HR0.out (below_step HB.out B8.out)); have R81 := Aside0.mk (Kd.C_below HR1.out (below_step HB.out B8.out)); have HBY := Aside0.mk (B8.out.block gb (blk_lt HBX.out)); have y0 : w8.cell? ⟨gb, 0, none⟩ = some (.slice (some ad) l0_0.length c0_0) := (blk_cell (HBY.out.trans HBX.out) 0).trans rfl; have y1 : w8.cell? ⟨gb, 1, none⟩ = some (.slice A0_1 l0_1.length c0_1) := (blk_cell (HBY.out.trans HBX.out) 1).trans rfl; have z8 : w8.cell? ⟨wr.heap.size, 0, none⟩ = some (.string x.f0) := (hb.cell (p := ⟨wr.heap.size, 0, none⟩) (by simp)).trans (by simp); have HB8 := Aside0.mk hb; clear hb)
              | (go_at_call 93; refine (impl_JointNamed.calls_nc _ _ l0_0 _ _ l0_1 x.f0 _ _ R80.out R81.out rfl).mono ?_; rintro e w9 ⟨rfl, hb9⟩))
            go_ret
            exact ⟨rfl, below_step HB.out (below_step B8.out hb9)⟩
      · rw [if_neg hlt] at h
        obtain rfl := Option.some.inj h
        have z1 : wr.cell? ⟨gb, 1, none⟩ = some (.slice A0_1 l0_1.length c0_1) := (blk_cell HBR.out 1).trans rfl
        have en : ∀ args w, (callFunc 95 args).run Try.prog w = .ok (.enter 95 args) w := enters_of Try.func95 (by kernel_rfl) rfl
        have EN := Aside0.mk en
        clear en
        go_wp2_with (go_at_call 94; refine (ContainsFuncMember_calls (fun y => !memOk l0_0 y.f0 y.f1 y.f2) 95 #[.pointer (some ⟨gb, 0, none⟩)] _ _ l0_1 _ (Kd.C_below HR1.out BWW.out) EN.out (fun y _ W hW => (StructureOk1_calls y.f0 y.f1 y.f2 gb l0_0 l0_1 w W (HIR.out.below hW) (below_step BWW.out hW)).mono (fun e W' ⟨h1, h2⟩ => ⟨h1, below_step hW h2⟩))).mono ?_; rintro e w9 ⟨rfl, hb9⟩)
        go_ret
        exact ⟨rfl, below_step BWW.out hb9⟩
theorem impl_StructureOk.calls (k : Nat) (A0_0 : Option Addr) (c0_0 : Nat) (l0_0 : List (S111)) (A0_1 : Option Addr) (c0_1 : Nat) (l0_1 : List (S96)) (r : Bool) (w : World) (hr0_0 : Kd.C k111 w A0_0 l0_0.length l0_0) (hc0_0 : l0_0.length ≤ c0_0) (hr0_1 : Kd.C k96 w A0_1 l0_1.length l0_1) (hc0_1 : l0_1.length ≤ c0_1) (h : impl_StructureOk.f k l0_0 l0_1 = some r) :
    Calls Try.prog 85 #[.agg #[.slice A0_0 l0_0.length c0_0, .slice A0_1 l0_1.length c0_1]] w fun e w' => e = .returned (.bool r) ∧ Below w.heap.size w w' := impl_StructureOk.calls_nc k A0_0 c0_0 l0_0 A0_1 c0_1 l0_1 r w hr0_0 hr0_1 h

def impl_hasMember.f (k : Nat) (s0_0 : List S111) (s0_1 : List S96) (a1 : Int) : Option Bool := if 0 ≤ a1 then (if a1 < (s0_1.length : Int) then impl_StructureOk.f k s0_0 s0_1 else some false) else some false
theorem impl_hasMember.mono : ∀ a0 a1 a2 k, LeO (impl_hasMember.f k a0 a1 a2) (impl_hasMember.f (k + 1) a0 a1 a2) := fun a0 a1 a2 k => LeO.ite (LeO.ite (impl_StructureOk.mono _ _ k) (LeO.refl _)) (LeO.refl _)
set_option maxHeartbeats 2000000 in
theorem impl_hasMember.calls (k : Nat) (g : Nat) (s0_0 : List (S111)) (s0_1 : List (S96)) (a1 : Int) (r : Bool) (w0 w : World) (hI : IsS62 w0 w g s0_0 s0_1) (hB : Below w0.heap.size w0 w) (h : impl_hasMember.f k s0_0 s0_1 a1 = some r) :
    Calls Try.prog 69 #[.pointer (some ⟨g, 0, none⟩), .int .i64 a1] w fun e w' => e = .returned (.bool r) ∧ IsS62 w0 w' g s0_0 s0_1 ∧ Below w0.heap.size w0 w' ∧ KeepBut w w' g none := by
  have hI0 := hI
  obtain ⟨A0, c0, A1, c1, hb, hge, hr0, hr1⟩ := hI
  suffices q : Calls Try.prog 69 #[.pointer (some ⟨g, 0, none⟩), .int .i64 a1] w fun e w' => e = .returned (.bool r) ∧ Below w.heap.size w w' from
    q.mono (fun e w' ⟨h1, h2⟩ => ⟨h1, hI0.below h2, below_step hB h2, KeepBut.of_below h2 g none⟩)
  have hcz0 : w.cell? ⟨g, 0, none⟩ = some (.slice A0 s0_0.length c0) := (blk_cell hb 0).trans rfl
  have hcz1 : w.cell? ⟨g, 1, none⟩ = some (.slice A1 s0_1.length c1) := (blk_cell hb 1).trans rfl
  have H0 := Aside0.mk (Kd.C_below hr0 hB)
  have H1 := Aside0.mk (Kd.C_below hr1 hB)
  clear hI0 hb hge hr0 hr1 hB
  unfold impl_hasMember.f at h
  by_cases q1 : 0 ≤ a1
  · rw [if_pos q1] at h
    replace q1 : decide (0 ≤ a1) = true := decide_eq_true q1
    by_cases q2 : a1 < (s0_1.length : Int)
    · rw [if_pos q2] at h
      replace q2 : decide (a1 < (s0_1.length : Int)) = true := decide_eq_true q2
      have H := Aside0.mk h
      clear h
      go_enter Try.func69, Try.ntmps69
      go_wp2_with (go_at_call 85; refine (impl_StructureOk.calls_nc k A0 c0 s0_0 A1 c1 s0_1 r _ H0.out H1.out H.out).mono ?_; rintro e w' ⟨rfl, hb'⟩)
      go_ret
      exact ⟨rfl, hb'⟩
    · rw [if_neg q2] at h
      obtain rfl := Option.some.inj h
      replace q2 : decide (a1 < (s0_1.length : Int)) = false := decide_eq_false q2
      go_enter Try.func69, Try.ntmps69
      go_wp2
      go_ret
      exact ⟨rfl, Below.refl _ _⟩
  · rw [if_neg q1] at h
    obtain rfl := Option.some.inj h
    replace q1 : decide (0 ≤ a1) = false := decide_eq_false q1
    go_enter Try.func69, Try.ntmps69
    go_wp2
    go_ret
    exact ⟨rfl, Below.refl _ _⟩

end Go.Proofs.Ytkooomnoofnfpaa.PFnExactFormatMember
