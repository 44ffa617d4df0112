-- Printed by this session's own copy of the print, functions that were proved by hand among them.
import Derived.Test.YtfiaiadcldgclaaPFnFirstChoicex0
import Derived.Test.YtfiaiadcldgclaaPFnFirstChoicex1
import Derived.Test.YtfiaiadcldgclaaPFnFirstChoicex2
import Derived.Test.YtfiaiadcldgclaaPFnFirstChoicex3
import Derived.Test.YtfiaiadcldgclaaPFnFirstChoicex4
namespace Go.Proofs.Ytfiaiadcldgclaa.PFnFirstChoice
open Go.RowKit Go.Proofs.YtfiaiadcldgclaaW.PrintWords Go.Proofs.YtfiaiadcldgclaaW.PrintLast Go.Proofs.YtfiaiadcldgclaaW.PrintMore
attribute [local go_sem] max2_int min2_int max_two min_two max_three min_three max_four min_four   -- for this text's walks alone
set_option linter.unusedVariables false
set_option linter.unusedSimpArgs false

/-! ### laws_FnFirstChoice: function 7 -/
mutual
def laws_FnFirstChoice.j0 : Nat → List (S34) → List Int → Int → List Int → Bool → Bool → Option (Bool)
  | 0, _, _, _, _, _, _ => none
  | k + 1, x3, x4, x5, x6, x7, x37 => if x37 = true then ((impl_CanEquip.f k x3 x4 x5).bind fun t233 => (some (x7 == t233))) else (if (x6.length : Int) = (x4.length : Int) then (if 0 < (x6.length : Int) then (if (rd x6 0) < 0 then (laws_FnFirstChoice.j1 k x3 x4 x5 x6 true) else (laws_FnFirstChoice.j1 k x3 x4 x5 x6 (decide ((rd x6 0) > (x3.length : Int))))) else (none)) else (laws_FnFirstChoice.j1 k x3 x4 x5 x6 true))
def laws_FnFirstChoice.j1 : Nat → List (S34) → List Int → Int → List Int → Bool → Option (Bool)
  | 0, _, _, _, _, _ => none
  | k + 1, x3, x4, x5, x6, x62 => if x62 = true then (some false) else (if 0 < (x4.length : Int) then ((impl_Usable.f k x3 (rd x4 0) x5).bind fun t237 => (laws_FnFirstChoice.l0 k x3 x4 x5 x6 t237 (t237.length : Int) 0)) else (none))
def laws_FnFirstChoice.l0 : Nat → List (S34) → List Int → Int → List Int → List Int → Int → Int → Option (Bool)
  | 0, _, _, _, _, _, _, _ => none
  | k + 1, x3, x4, x5, x6, x68, x69, x70 => if x70 < x69 then (if 0 ≤ x70 then (if x70 < (x68.length : Int) then (if (rd x68 x70) < 0 then (laws_FnFirstChoice.j3 k x3 x4 x5 x6 (rd x68 x70) x68 x69 x70 true) else (laws_FnFirstChoice.j3 k x3 x4 x5 x6 (rd x68 x70) x68 x69 x70 (decide ((rd x68 x70) ≥ (x3.length : Int))))) else (none)) else (none)) else (some true)
def laws_FnFirstChoice.j3 : Nat → List (S34) → List Int → Int → List Int → Int → List Int → Int → Int → Bool → Option (Bool)
  | 0, _, _, _, _, _, _, _, _, _ => none
  | k + 1, x3, x4, x5, x6, x9, x68, x69, x70, x81 => if x81 = true then (some false) else ((some (([] : List (S34)) : List (S34))).bind fun y241 => (if 0 ≤ x9 then (if x9 ≤ (x3.length : Int) then ((some (x3.take (x9 : Int).toNat : List (S34))).bind fun y244 => (if y241.length + y244.length < 4398046511104 then ((some (y241 ++ y244 : List (S34))).bind fun y248 => (if 0 ≤ (wrap64 (x9 + 1)) then (if (wrap64 (x9 + 1)) ≤ (x3.length : Int) then ((some (x3.drop ((wrap64 (x9 + 1)) : Int).toNat : List (S34))).bind fun y251 => (if y248.length + y251.length < 4398046511104 then (if 0 < (x6.length : Int) then (if x9 < (rd x6 0) then (if 1 ≤ (x4.length : Int) then ((impl_CanEquip.f k (y248 ++ y251) (x4.drop 1) x5).bind fun t263 => (if t263 = true then (some false) else (laws_FnFirstChoice.l0 k x3 x4 x5 x6 x68 x69 (wrap64 (x70 + 1))))) else (none)) else (laws_FnFirstChoice.l0 k x3 x4 x5 x6 x68 x69 (wrap64 (x70 + 1)))) else (none)) else (none))) else (none)) else (none))) else (none))) else (none)) else (none)))
end
def laws_FnFirstChoice.f (k : Nat) (l0 : List Int) : Option (Bool) := if (l0.length : Int) > 1048576 then (some true) else ((spec_MakeStock.f k l0).bind fun t221 => ((impl_StockOk.f k t221).bind fun t224 => (if t224 = true then ((spec_MakeNeeds.f k l0 40).bind fun t225 => ((spec_MakeNum.f k l0 50).bind fun t228 => ((impl_EquipFrom.f k t221 t225 (Int.tmod t228 5)).bind fun bt229 => (if bt229.2 = true then (laws_FnFirstChoice.j0 k t221 t225 (Int.tmod t228 5) bt229.1 bt229.2 ((t225.length : Int) == 0)) else (laws_FnFirstChoice.j0 k t221 t225 (Int.tmod t228 5) bt229.1 bt229.2 true))))) else (some false))))
theorem laws_FnFirstChoice.mono_l : ∀ k, (∀ y0 y1 y2 y3 y4 y5, LeO (laws_FnFirstChoice.j0 k y0 y1 y2 y3 y4 y5) (laws_FnFirstChoice.j0 (k + 1) y0 y1 y2 y3 y4 y5)) ∧ (∀ y0 y1 y2 y3 y4, LeO (laws_FnFirstChoice.j1 k y0 y1 y2 y3 y4) (laws_FnFirstChoice.j1 (k + 1) y0 y1 y2 y3 y4)) ∧ (∀ y0 y1 y2 y3 y4 y5 y6, LeO (laws_FnFirstChoice.l0 k y0 y1 y2 y3 y4 y5 y6) (laws_FnFirstChoice.l0 (k + 1) y0 y1 y2 y3 y4 y5 y6)) ∧ (∀ y0 y1 y2 y3 y4 y5 y6 y7 y8, LeO (laws_FnFirstChoice.j3 k y0 y1 y2 y3 y4 y5 y6 y7 y8) (laws_FnFirstChoice.j3 (k + 1) y0 y1 y2 y3 y4 y5 y6 y7 y8))
  | 0 => ⟨fun _ _ _ _ _ _ r h => by simp [laws_FnFirstChoice.j0] at h, fun _ _ _ _ _ r h => by simp [laws_FnFirstChoice.j1] at h, fun _ _ _ _ _ _ _ r h => by simp [laws_FnFirstChoice.l0] at h, fun _ _ _ _ _ _ _ _ _ r h => by simp [laws_FnFirstChoice.j3] at h⟩
  | k + 1 => by
    obtain ⟨ih0, ih1, ih2, ih3⟩ := laws_FnFirstChoice.mono_l k
    refine ⟨?_, ?_, ?_, ?_⟩
    · intro y0 y1 y2 y3 y4 y5
      unfold laws_FnFirstChoice.j0
      repeat' first
      | (with_reducible exact ih0 _ _ _ _ _ _)
      | (with_reducible exact ih1 _ _ _ _ _)
      | (with_reducible exact ih2 _ _ _ _ _ _ _)
      | (with_reducible exact ih3 _ _ _ _ _ _ _ _ _)
      | (with_reducible exact impl_CanEquip.mono _ _ _ _)
      | (with_reducible exact impl_EquipFrom.mono _ _ _ _)
      | (with_reducible exact impl_StockOk.mono _ _)
      | (with_reducible exact impl_Usable.mono _ _ _ _)
      | (with_reducible exact spec_MakeNeeds.mono _ _ _)
      | (with_reducible exact spec_MakeNum.mono _ _ _)
      | (with_reducible exact spec_MakeStock.mono _ _)
      | (with_reducible exact LeO.refl _)
      | (with_reducible exact LeO.none _)
      | (with_reducible refine LeO.ite ?_ ?_)
      | (with_reducible refine LeO.bind ?_ (fun _ => ?_))
      | exact ih0 _ _ _ _ _ _
      | exact ih1 _ _ _ _ _
      | exact ih2 _ _ _ _ _ _ _
      | exact ih3 _ _ _ _ _ _ _ _ _
      | exact impl_CanEquip.mono _ _ _ _
      | exact impl_EquipFrom.mono _ _ _ _
      | exact impl_StockOk.mono _ _
      | exact impl_Usable.mono _ _ _ _
      | exact spec_MakeNeeds.mono _ _ _
      | exact spec_MakeNum.mono _ _ _
      | exact spec_MakeStock.mono _ _
      | exact LeO.none _
      | refine LeO.ite ?_ ?_
      | refine LeO.bind ?_ (fun _ => ?_)
    · intro y0 y1 y2 y3 y4
      unfold laws_FnFirstChoice.j1
      repeat' first
      | (with_reducible exact ih0 _ _ _ _ _ _)
      | (with_reducible exact ih1 _ _ _ _ _)
      | (with_reducible exact ih2 _ _ _ _ _ _ _)
      | (with_reducible exact ih3 _ _ _ _ _ _ _ _ _)
      | (with_reducible exact impl_CanEquip.mono _ _ _ _)
      | (with_reducible exact impl_EquipFrom.mono _ _ _ _)
      | (with_reducible exact impl_StockOk.mono _ _)
      | (with_reducible exact impl_Usable.mono _ _ _ _)
      | (with_reducible exact spec_MakeNeeds.mono _ _ _)
      | (with_reducible exact spec_MakeNum.mono _ _ _)
      | (with_reducible exact spec_MakeStock.mono _ _)
      | (with_reducible exact LeO.refl _)
      | (with_reducible exact LeO.none _)
      | (with_reducible refine LeO.ite ?_ ?_)
      | (with_reducible refine LeO.bind ?_ (fun _ => ?_))
      | exact ih0 _ _ _ _ _ _
      | exact ih1 _ _ _ _ _
      | exact ih2 _ _ _ _ _ _ _
      | exact ih3 _ _ _ _ _ _ _ _ _
      | exact impl_CanEquip.mono _ _ _ _
      | exact impl_EquipFrom.mono _ _ _ _
      | exact impl_StockOk.mono _ _
      | exact impl_Usable.mono _ _ _ _
      | exact spec_MakeNeeds.mono _ _ _
      | exact spec_MakeNum.mono _ _ _
      | exact spec_MakeStock.mono _ _
      | exact LeO.none _
      | refine LeO.ite ?_ ?_
      | refine LeO.bind ?_ (fun _ => ?_)
    · intro y0 y1 y2 y3 y4 y5 y6
      unfold laws_FnFirstChoice.l0
      repeat' first
      | (with_reducible exact ih0 _ _ _ _ _ _)
      | (with_reducible exact ih1 _ _ _ _ _)
      | (with_reducible exact ih2 _ _ _ _ _ _ _)
      | (with_reducible exact ih3 _ _ _ _ _ _ _ _ _)
      | (with_reducible exact impl_CanEquip.mono _ _ _ _)
      | (with_reducible exact impl_EquipFrom.mono _ _ _ _)
      | (with_reducible exact impl_StockOk.mono _ _)
      | (with_reducible exact impl_Usable.mono _ _ _ _)
      | (with_reducible exact spec_MakeNeeds.mono _ _ _)
      | (with_reducible exact spec_MakeNum.mono _ _ _)
      | (with_reducible exact spec_MakeStock.mono _ _)
      | (with_reducible exact LeO.refl _)
      | (with_reducible exact LeO.none _)
      | (with_reducible refine LeO.ite ?_ ?_)
      | (with_reducible refine LeO.bind ?_ (fun _ => ?_))
      | exact ih0 _ _ _ _ _ _
      | exact ih1 _ _ _ _ _
      | exact ih2 _ _ _ _ _ _ _
      | exact ih3 _ _ _ _ _ _ _ _ _
      | exact impl_CanEquip.mono _ _ _ _
      | exact impl_EquipFrom.mono _ _ _ _
      | exact impl_StockOk.mono _ _
      | exact impl_Usable.mono _ _ _ _
      | exact spec_MakeNeeds.mono _ _ _
      | exact spec_MakeNum.mono _ _ _
      | exact spec_MakeStock.mono _ _
      | exact LeO.none _
      | refine LeO.ite ?_ ?_
      | refine LeO.bind ?_ (fun _ => ?_)
    · intro y0 y1 y2 y3 y4 y5 y6 y7 y8
      unfold laws_FnFirstChoice.j3
      repeat' first
      | (with_reducible exact ih0 _ _ _ _ _ _)
      | (with_reducible exact ih1 _ _ _ _ _)
      | (with_reducible exact ih2 _ _ _ _ _ _ _)
      | (with_reducible exact ih3 _ _ _ _ _ _ _ _ _)
      | (with_reducible exact impl_CanEquip.mono _ _ _ _)
      | (with_reducible exact impl_EquipFrom.mono _ _ _ _)
      | (with_reducible exact impl_StockOk.mono _ _)
      | (with_reducible exact impl_Usable.mono _ _ _ _)
      | (with_reducible exact spec_MakeNeeds.mono _ _ _)
      | (with_reducible exact spec_MakeNum.mono _ _ _)
      | (with_reducible exact spec_MakeStock.mono _ _)
      | (with_reducible exact LeO.refl _)
      | (with_reducible exact LeO.none _)
      | (with_reducible refine LeO.ite ?_ ?_)
      | (with_reducible refine LeO.bind ?_ (fun _ => ?_))
      | exact ih0 _ _ _ _ _ _
      | exact ih1 _ _ _ _ _
      | exact ih2 _ _ _ _ _ _ _
      | exact ih3 _ _ _ _ _ _ _ _ _
      | exact impl_CanEquip.mono _ _ _ _
      | exact impl_EquipFrom.mono _ _ _ _
      | exact impl_StockOk.mono _ _
      | exact impl_Usable.mono _ _ _ _
      | exact spec_MakeNeeds.mono _ _ _
      | exact spec_MakeNum.mono _ _ _
      | exact spec_MakeStock.mono _ _
      | exact LeO.none _
      | refine LeO.ite ?_ ?_
      | refine LeO.bind ?_ (fun _ => ?_)
theorem laws_FnFirstChoice.mono : ∀ a0 k, LeO (laws_FnFirstChoice.f k a0) (laws_FnFirstChoice.f (k + 1) a0) := by
  intro a0 k
  obtain ⟨ih0, ih1, ih2, ih3⟩ := laws_FnFirstChoice.mono_l k
  unfold laws_FnFirstChoice.f
  repeat' first
      | (with_reducible exact ih0 _ _ _ _ _ _)
      | (with_reducible exact ih1 _ _ _ _ _)
      | (with_reducible exact ih2 _ _ _ _ _ _ _)
      | (with_reducible exact ih3 _ _ _ _ _ _ _ _ _)
      | (with_reducible exact impl_CanEquip.mono _ _ _ _)
      | (with_reducible exact impl_EquipFrom.mono _ _ _ _)
      | (with_reducible exact impl_StockOk.mono _ _)
      | (with_reducible exact impl_Usable.mono _ _ _ _)
      | (with_reducible exact spec_MakeNeeds.mono _ _ _)
      | (with_reducible exact spec_MakeNum.mono _ _ _)
      | (with_reducible exact spec_MakeStock.mono _ _)
      | (with_reducible exact LeO.refl _)
      | (with_reducible exact LeO.none _)
      | (with_reducible refine LeO.ite ?_ ?_)
      | (with_reducible refine LeO.bind ?_ (fun _ => ?_))
      | exact ih0 _ _ _ _ _ _
      | exact ih1 _ _ _ _ _
      | exact ih2 _ _ _ _ _ _ _
      | exact ih3 _ _ _ _ _ _ _ _ _
      | exact impl_CanEquip.mono _ _ _ _
      | exact impl_EquipFrom.mono _ _ _ _
      | exact impl_StockOk.mono _ _
      | exact impl_Usable.mono _ _ _ _
      | exact spec_MakeNeeds.mono _ _ _
      | exact spec_MakeNum.mono _ _ _
      | exact spec_MakeStock.mono _ _
      | exact LeO.none _
      | refine LeO.ite ?_ ?_
      | refine LeO.bind ?_ (fun _ => ?_)
def laws_FnFirstChoice.T18 : Bool × List (List Nat × List Nat) := (true, [([], []), ([], []), ([], []), ([1, 2], [1, 2]), ([0, 3], [0, 3]), ([], []), ([], []), ([6], [6]), ([5, 7], [5, 7]), ([4, 8, 4], [4, 8]), ([9, 9, 0, 1, 2, 3, 4, 5, 6, 7, 8, 9], [9])])
def laws_FnFirstChoice.B18 : List Nat := [0, 0, 0, 6, 15, 0, 0, 64, 224, 511, 1023]
theorem laws_FnFirstChoice.tab18 : rtab .any (opsOf Try.f7 18) = laws_FnFirstChoice.T18 := by kernel_rfl
theorem laws_FnFirstChoice.bits18 : waitsOk laws_FnFirstChoice.T18.2 laws_FnFirstChoice.B18 = true := by kernel_rfl
set_option maxHeartbeats 8000000 in
set_option maxRecDepth 100000 in
theorem laws_FnFirstChoice.calls (k : Nat) (A0 : Option Addr) (c0 : Nat) (l0 : List Int) (r : Bool) (w : World) (hr0 : Kd.C (Kd.int .u8) w A0 l0.length l0) (hc0 : l0.length ≤ c0) (h : laws_FnFirstChoice.f k l0 = some r) :
    Calls Try.prog 7 #[.slice A0 l0.length c0] w fun e w' => e = .returned (.bool r) ∧ Below w.heap.size w w' := by
  have HR0 := Aside0.mk hr0
  have HC0 := Aside0.mk hc0
  clear hr0 hc0
  have HB := Aside0.mk (Below.refl w.heap.size w)
  have H : (if (l0.length : Int) > 1048576 then (some true) else ((spec_MakeStock.f k l0).bind fun t221 => ((impl_StockOk.f k t221).bind fun t224 => (if t224 = true then ((spec_MakeNeeds.f k l0 40).bind fun t225 => ((spec_MakeNum.f k l0 50).bind fun t228 => ((impl_EquipFrom.f k t221 t225 (Int.tmod t228 5)).bind fun bt229 => (if bt229.2 = true then (laws_FnFirstChoice.j0 k t221 t225 (Int.tmod t228 5) bt229.1 bt229.2 ((t225.length : Int) == 0)) else (laws_FnFirstChoice.j0 k t221 t225 (Int.tmod t228 5) bt229.1 bt229.2 true))))) else (some false))))) = some r := h
  clear h
  by_cases c2 : (l0.length : Int) > 1048576
  · rw [if_pos c2] at H
    have c2b0 : decide (1048576 < (l0.length : Int)) = true := decide_eq_true c2
    have c2b1 : decide (1048576 < l0.length) = true := decide_eq_true (by omega)
    clear c2
    obtain rfl := Option.some.inj H
    go_enter Try.func7, Try.ntmps7
    go_wp2
    go_ret
    exact ⟨by first | rfl | (simp [errW_none, errW_some] <;> rfl) | (simp [*, errW_none, errW_some] <;> rfl), by repeat (first | (with_reducible first | exact HB.out | apply below_alloc | apply pw_below_drewN | apply below_drew1) | exact HB.out)⟩
  · rw [if_neg c2] at H
    have c2b0 : decide (1048576 < (l0.length : Int)) = false := decide_eq_false c2
    have c2b1 : decide (1048576 < l0.length) = false := decide_eq_false (by omega)
    clear c2
    replace H := Option.bind_eq_some_iff.mp H
    obtain ⟨t221, A30, H⟩ := H
    replace H : ((impl_StockOk.f k t221).bind fun t224 => (if t224 = true then ((spec_MakeNeeds.f k l0 40).bind fun t225 => ((spec_MakeNum.f k l0 50).bind fun t228 => ((impl_EquipFrom.f k t221 t225 (Int.tmod t228 5)).bind fun bt229 => (if bt229.2 = true then (laws_FnFirstChoice.j0 k t221 t225 (Int.tmod t228 5) bt229.1 bt229.2 ((t225.length : Int) == 0)) else (laws_FnFirstChoice.j0 k t221 t225 (Int.tmod t228 5) bt229.1 bt229.2 true))))) else (some false))) = some r := H
    have A3 := Aside0.mk A30
    clear A30
    replace H := Option.bind_eq_some_iff.mp H
    obtain ⟨t224, A40, H⟩ := H
    replace H : (if t224 = true then ((spec_MakeNeeds.f k l0 40).bind fun t225 => ((spec_MakeNum.f k l0 50).bind fun t228 => ((impl_EquipFrom.f k t221 t225 (Int.tmod t228 5)).bind fun bt229 => (if bt229.2 = true then (laws_FnFirstChoice.j0 k t221 t225 (Int.tmod t228 5) bt229.1 bt229.2 ((t225.length : Int) == 0)) else (laws_FnFirstChoice.j0 k t221 t225 (Int.tmod t228 5) bt229.1 bt229.2 true))))) else (some false)) = some r := H
    have A4 := Aside0.mk A40
    clear A40
    by_cases c5 : t224 = true
    · subst c5
      have H1 : ((spec_MakeNeeds.f k l0 40).bind fun t225 => ((spec_MakeNum.f k l0 50).bind fun t228 => ((impl_EquipFrom.f k t221 t225 (Int.tmod t228 5)).bind fun bt229 => (if bt229.2 = true then (laws_FnFirstChoice.j0 k t221 t225 (Int.tmod t228 5) bt229.1 bt229.2 ((t225.length : Int) == 0)) else (laws_FnFirstChoice.j0 k t221 t225 (Int.tmod t228 5) bt229.1 bt229.2 true))))) = some r := by rw [if_pos rfl] at H; exact H
      clear H
      have H := H1
      clear H1
      replace H := Option.bind_eq_some_iff.mp H
      obtain ⟨t225, A60, H⟩ := H
      replace H : ((spec_MakeNum.f k l0 50).bind fun t228 => ((impl_EquipFrom.f k t221 t225 (Int.tmod t228 5)).bind fun bt229 => (if bt229.2 = true then (laws_FnFirstChoice.j0 k t221 t225 (Int.tmod t228 5) bt229.1 bt229.2 ((t225.length : Int) == 0)) else (laws_FnFirstChoice.j0 k t221 t225 (Int.tmod t228 5) bt229.1 bt229.2 true)))) = some r := H
      have A6 := Aside0.mk A60
      clear A60
      replace H := Option.bind_eq_some_iff.mp H
      obtain ⟨t228, A70, H⟩ := H
      replace H : ((impl_EquipFrom.f k t221 t225 (Int.tmod t228 5)).bind fun bt229 => (if bt229.2 = true then (laws_FnFirstChoice.j0 k t221 t225 (Int.tmod t228 5) bt229.1 bt229.2 ((t225.length : Int) == 0)) else (laws_FnFirstChoice.j0 k t221 t225 (Int.tmod t228 5) bt229.1 bt229.2 true))) = some r := H
      have A7 := Aside0.mk A70
      clear A70
      replace H := Option.bind_eq_some_iff.mp H
      obtain ⟨⟨t229, t230⟩, A80, H⟩ := H
      replace H : (if t230 = true then (laws_FnFirstChoice.j0 k t221 t225 (Int.tmod t228 5) t229 t230 ((t225.length : Int) == 0)) else (laws_FnFirstChoice.j0 k t221 t225 (Int.tmod t228 5) t229 t230 true)) = some r := H
      have A8 := Aside0.mk A80
      clear A80
      have HC9 := Aside0.mk H
      clear H
      go_enter Try.func7, Try.ntmps7
      go_upto_region 9 with (first | ((with_reducible refine gate_callee (f := 23) rfl ?_); refine goesL_ (some 15) rfl rfl Try.func23 (by kernel_rfl) rfl #[.slice A0 l0.length c0] rfl (by (try simp only [List.map_toArray, List.map_cons, List.map_nil]); first | done | rfl | (simp only [List.length_drop, List.length_take]; rfl)) ?_; (with_reducible refine (spec_MakeStock.calls k _ _ l0 t221 _ ?side1 ?side2 A3.out).mono ?_); (case side1 => repeat (first | exact HR0.out | (with_reducible refine Kd.C_alloc ?_ _) | (with_reducible refine Kd.C_drewN ?_ _) | (with_reducible refine Kd.C_drew ?_))); (case side2 => exact HC0.out); rintro e w10 ⟨v222, rfl, ho0, hb⟩; refine ⟨_, rfl, ?_⟩; have n0_ := Aside0.mk (Kd.R_lower ho0 (below_size (by repeat (first | (with_reducible first | exact HB.out | apply below_alloc | apply pw_below_drewN | apply below_drew1) | exact HB.out)))); have n1_ := Aside0.mk (below_step (by repeat (first | (with_reducible first | exact HB.out | apply below_alloc | apply pw_below_drewN | apply below_drew1) | exact HB.out)) hb); clear HB; have HO223 := n0_; have HB := n1_; clear n0_ n1_; (try clear hb); (try clear hb2); (try clear hk); (try clear hi); (try clear ho0); obtain ⟨Ao11, co11, eo11⟩ := Kd.R_slice HO223.out; subst eo11) | ((with_reducible refine gate_callee (f := 21) rfl ?_); refine goesL_ (some 17) rfl rfl Try.func21 (by kernel_rfl) rfl #[.slice Ao11 t221.length co11] rfl (by (try simp only [List.map_toArray, List.map_cons, List.map_nil]); first | done | rfl | (simp only [List.length_drop, List.length_take]; rfl)) ?_; (with_reducible refine (impl_StockOk.calls k _ _ t221 true _ ?side1 ?side2 A4.out).mono ?_); (case side1 => repeat (first | exact (Kd.R_reads' HO223.out).2.2 | (with_reducible refine Kd.C_alloc ?_ _) | (with_reducible refine Kd.C_drewN ?_ _) | (with_reducible refine Kd.C_drew ?_))); (case side2 => exact (Kd.R_reads' HO223.out).2.1); rintro e w12 ⟨rfl, hb⟩; refine ⟨_, rfl, ?_⟩; have n0_ := Aside0.mk (Kd.R_below (by (with_reducible repeat (first | apply Kd.R_alloc | apply Kd.R_drewN | apply Kd.R_drew)); exact HO223.out) hb); have n1_ := Aside0.mk (below_step (by repeat (first | (with_reducible first | exact HB.out | apply below_alloc | apply pw_below_drewN | apply below_drew1) | exact HB.out)) hb); clear HO223; clear HB; have HO223 := n0_; have HB := n1_; clear n0_ n1_; (try clear hb); (try clear hb2); (try clear hk); (try clear hi)) | ((with_reducible refine gate_callee (f := 24) rfl ?_); refine goesL_ (some 20) rfl rfl Try.func24 (by kernel_rfl) rfl #[.slice A0 l0.length c0, .int .i64 40] rfl (by (try simp only [List.map_toArray, List.map_cons, List.map_nil]); first | done | rfl | (simp only [List.length_drop, List.length_take]; rfl)) ?_; (with_reducible refine (spec_MakeNeeds.calls k _ _ l0 40 t225 _ ?side1 ?side2 A6.out).mono ?_); (case side1 => repeat (first | exact (Kd.C_below HR0.out HB.out) | (with_reducible refine Kd.C_alloc ?_ _) | (with_reducible refine Kd.C_drewN ?_ _) | (with_reducible refine Kd.C_drew ?_))); (case side2 => exact HC0.out); rintro e w13 ⟨v226, rfl, ho0, hb⟩; refine ⟨_, rfl, ?_⟩; have n0_ := Aside0.mk (Kd.R_below (by (with_reducible repeat (first | apply Kd.R_alloc | apply Kd.R_drewN | apply Kd.R_drew)); exact HO223.out) hb); have n1_ := Aside0.mk (Kd.R_lower ho0 (below_size (by repeat (first | (with_reducible first | exact HB.out | apply below_alloc | apply pw_below_drewN | apply below_drew1) | exact HB.out)))); have n2_ := Aside0.mk (below_step (by repeat (first | (with_reducible first | exact HB.out | apply below_alloc | apply pw_below_drewN | apply below_drew1) | exact HB.out)) hb); clear HO223; clear HB; have HO223 := n0_; have HO227 := n1_; have HB := n2_; clear n0_ n1_ n2_; (try clear hb); (try clear hb2); (try clear hk); (try clear hi); (try clear ho0)) | ((with_reducible refine gate_callee (f := 25) rfl ?_); refine goesL_ (some 22) rfl rfl Try.func25 (by kernel_rfl) rfl #[.slice A0 l0.length c0, .int .i64 50] rfl (by (try simp only [List.map_toArray, List.map_cons, List.map_nil]); first | done | rfl | (simp only [List.length_drop, List.length_take]; rfl)) ?_; (with_reducible refine (spec_MakeNum.calls k _ _ l0 50 t228 _ ?side1 ?side2 A7.out).mono ?_); (case side1 => repeat (first | exact (Kd.C_below HR0.out HB.out) | (with_reducible refine Kd.C_alloc ?_ _) | (with_reducible refine Kd.C_drewN ?_ _) | (with_reducible refine Kd.C_drew ?_))); (case side2 => exact HC0.out); rintro e w14 ⟨rfl, hb⟩; refine ⟨_, rfl, ?_⟩; have n0_ := Aside0.mk (Kd.R_below (by (with_reducible repeat (first | apply Kd.R_alloc | apply Kd.R_drewN | apply Kd.R_drew)); exact HO223.out) hb); have n1_ := Aside0.mk (Kd.R_below (by (with_reducible repeat (first | apply Kd.R_alloc | apply Kd.R_drewN | apply Kd.R_drew)); exact HO227.out) hb); have n2_ := Aside0.mk (below_step (by repeat (first | (with_reducible first | exact HB.out | apply below_alloc | apply pw_below_drewN | apply below_drew1) | exact HB.out)) hb); clear HO223; clear HO227; clear HB; have HO223 := n0_; have HO227 := n1_; have HB := n2_; clear n0_ n1_ n2_; (try clear hb); (try clear hb2); (try clear hk); (try clear hi); obtain ⟨Ao15, co15, eo15⟩ := Kd.R_slice HO227.out; subst eo15) | ((with_reducible refine gate_callee (f := 26) rfl ?_); refine goesL_ (some 28) rfl rfl Try.func26 (by kernel_rfl) rfl #[.slice Ao11 t221.length co11, .slice Ao15 t225.length co15, .int .i64 (Int.tmod t228 5)] rfl (by (try simp only [List.map_toArray, List.map_cons, List.map_nil]); first | done | rfl | (simp only [List.length_drop, List.length_take]; rfl)) ?_; (with_reducible refine (impl_EquipFrom.calls k _ _ t221 _ _ t225 (Int.tmod t228 5) t229 t230 _ ?side1 ?side2 ?side3 ?side4 A8.out).mono ?_); (case side1 => repeat (first | exact (Kd.R_reads' HO223.out).2.2 | (with_reducible refine Kd.C_alloc ?_ _) | (with_reducible refine Kd.C_drewN ?_ _) | (with_reducible refine Kd.C_drew ?_))); (case side2 => exact (Kd.R_reads' HO223.out).2.1); (case side3 => repeat (first | exact (Kd.R_reads' HO227.out).2.2 | (with_reducible refine Kd.C_alloc ?_ _) | (with_reducible refine Kd.C_drewN ?_ _) | (with_reducible refine Kd.C_drew ?_))); (case side4 => exact (Kd.R_reads' HO227.out).2.1); rintro e w16 ⟨v231, rfl, ho0, hb⟩; refine ⟨_, rfl, ?_⟩; have n0_ := Aside0.mk (Kd.R_below (by (with_reducible repeat (first | apply Kd.R_alloc | apply Kd.R_drewN | apply Kd.R_drew)); exact HO223.out) hb); have n1_ := Aside0.mk (Kd.R_elder' (by (with_reducible repeat (first | apply Kd.R_alloc | apply Kd.R_drewN | apply Kd.R_drew)); exact HO227.out) (Kd.R_base ho0) hb); have n2_ := Aside0.mk (Kd.R_lower (Kd.R_new' ho0 (Kd.R_lt (by (with_reducible repeat (first | apply Kd.R_alloc | apply Kd.R_drewN | apply Kd.R_drew)); exact HO227.out))) (below_size (by repeat (first | (with_reducible first | exact HB.out | apply below_alloc | apply pw_below_drewN | apply below_drew1) | exact HB.out)))); have n3_ := Aside0.mk (below_step (by repeat (first | (with_reducible first | exact HB.out | apply below_alloc | apply pw_below_drewN | apply below_drew1) | exact HB.out)) hb); clear HO223; clear HO227; clear HB; have HO223 := n0_; have HO227 := n1_; have HO232 := n2_; have HB := n3_; clear n0_ n1_ n2_ n3_; (try clear hb); (try clear hb2); (try clear hk); (try clear hi); (try clear ho0)))
      (try simp only [Act.put, List.setIfInBounds_toArray, List.set_cons_zero, List.set_cons_succ])
      go_cut [37] (fun v37 wc => ∃ (kq : Nat) (x37_8 : Bool), v37 = .bool x37_8 ∧ Aside0 (laws_FnFirstChoice.j0 kq t221 t225 (Int.tmod t228 5) t229 t230 x37_8 = some r) ∧ Aside0 (kq ≤ k) ∧ Aside0 (Kd.R k34 34 wc w.heap.size (fun _ => True) (.slice Ao11 t221.length co11) t221) ∧ Aside0 (Kd.R (Kd.int .i64) 3 wc w.heap.size (fun k_ => some k_ ≠ (v231 : Value).ownBlock) (.slice Ao15 t225.length co15) t225) ∧ Aside0 (Kd.R (Kd.int .i64) 3 wc w.heap.size (fun k_ => some k_ ≠ ((.slice Ao15 t225.length co15) : Value).ownBlock) v231 t229) ∧ Aside0 (Below w.heap.size w wc))
      case first =>
        have H := HC9.out
        clear HC9
        by_cases c17 : t230 = true
        · subst c17
          have H1 : (laws_FnFirstChoice.j0 k t221 t225 (Int.tmod t228 5) t229 true ((t225.length : Int) == 0)) = some r := by rw [if_pos rfl] at H; exact H
          clear H
          have H := H1
          clear H1
          have H' := Aside0.mk H
          clear H
          go_wp2
          go_meet
          case rel => exact ⟨_, (((t225.length : Int) == 0)), (by first | rfl | (simp; done) | (simp [*]; done)), H', ⟨by first | omega | exact Nat.le_refl _⟩, ⟨by (with_reducible repeat (first | apply Kd.R_alloc | apply Kd.R_drewN | apply Kd.R_drew)); exact HO223.out⟩, ⟨by (with_reducible repeat (first | apply Kd.R_alloc | apply Kd.R_drewN | apply Kd.R_drew)); exact Kd.R_mono HO227.out (fun _ hk => hk.2)⟩, ⟨by (with_reducible repeat (first | apply Kd.R_alloc | apply Kd.R_drewN | apply Kd.R_drew)); exact Kd.R_mono HO232.out (fun _ hk => hk.2)⟩, ⟨by repeat (first | (with_reducible first | exact HB.out | apply below_alloc | apply pw_below_drewN | apply below_drew1) | exact HB.out)⟩⟩
        · replace c17 := Bool.eq_false_iff.mpr c17
          subst c17
          have H1 : (laws_FnFirstChoice.j0 k t221 t225 (Int.tmod t228 5) t229 false true) = some r := by rw [if_neg (show ¬ (false = true) by decide)] at H; exact H
          clear H
          have H := H1
          clear H1
          have H' := Aside0.mk H
          clear H
          go_wp2
          go_meet
          case rel => exact ⟨_, (true), (by first | rfl | (simp; done) | (simp [*]; done)), H', ⟨by first | omega | exact Nat.le_refl _⟩, ⟨by (with_reducible repeat (first | apply Kd.R_alloc | apply Kd.R_drewN | apply Kd.R_drew)); exact HO223.out⟩, ⟨by (with_reducible repeat (first | apply Kd.R_alloc | apply Kd.R_drewN | apply Kd.R_drew)); exact Kd.R_mono HO227.out (fun _ hk => hk.2)⟩, ⟨by (with_reducible repeat (first | apply Kd.R_alloc | apply Kd.R_drewN | apply Kd.R_drew)); exact Kd.R_mono HO232.out (fun _ hk => hk.2)⟩, ⟨by repeat (first | (with_reducible first | exact HB.out | apply below_alloc | apply pw_below_drewN | apply below_drew1) | exact HB.out)⟩⟩
      case rest =>
        clear HC9
        try clear c1
        try clear c2
        try clear c2b0
        try clear c2b1
        try clear p2
        try clear c5
        try clear c7
        try clear c17
        obtain ⟨kq, x37_8, rfl, HA, HJ8, HO_3, HO_4, HO_6, HB⟩ := hcut
        cases kq with
        | zero => exact absurd HA.out (by simp [laws_FnFirstChoice.j0])
        | succ kj8 =>
          have H := HA.out
          clear HA
          simp only [laws_FnFirstChoice.j0] at H
          by_cases c18 : x37_8 = true
          · subst c18
            have H1 : ((impl_CanEquip.f kj8 t221 t225 (Int.tmod t228 5)).bind fun t233 => (some (t230 == t233))) = some r := by rw [if_pos rfl] at H; exact H
            clear H
            have H := H1
            clear H1
            replace H := Option.bind_eq_some_iff.mp H
            obtain ⟨t233, A190, H⟩ := H
            replace H : (some (t230 == t233)) = some r := H
            have A19 := Aside0.mk A190
            clear A190
            obtain rfl := Option.some.inj H
            go_wp2_with (first | ((with_reducible refine gate_callee (f := 27) rfl ?_); refine goesL_ (some 42) rfl rfl Try.func27 (by kernel_rfl) rfl #[.slice Ao11 t221.length co11, .slice Ao15 t225.length co15, .int .i64 (Int.tmod t228 5)] rfl (by (try simp only [List.map_toArray, List.map_cons, List.map_nil]); first | done | rfl | (simp only [List.length_drop, List.length_take]; rfl)) ?_; (with_reducible refine (impl_CanEquip.calls kj8 _ _ t221 _ _ t225 (Int.tmod t228 5) t233 _ ?side1 ?side2 ?side3 ?side4 A19.out).mono ?_); (case side1 => repeat (first | exact (Kd.R_reads' HO_3.out).2.2 | (with_reducible refine Kd.C_alloc ?_ _) | (with_reducible refine Kd.C_drewN ?_ _) | (with_reducible refine Kd.C_drew ?_))); (case side2 => exact (Kd.R_reads' HO_3.out).2.1); (case side3 => repeat (first | exact (Kd.R_reads' HO_4.out).2.2 | (with_reducible refine Kd.C_alloc ?_ _) | (with_reducible refine Kd.C_drewN ?_ _) | (with_reducible refine Kd.C_drew ?_))); (case side4 => exact (Kd.R_reads' HO_4.out).2.1); rintro e w20 ⟨rfl, hb⟩; refine ⟨_, rfl, ?_⟩; have n0_ := Aside0.mk (Kd.R_below (by (with_reducible repeat (first | apply Kd.R_alloc | apply Kd.R_drewN | apply Kd.R_drew)); exact HO_3.out) hb); have n1_ := Aside0.mk (Kd.R_below (by (with_reducible repeat (first | apply Kd.R_alloc | apply Kd.R_drewN | apply Kd.R_drew)); exact HO_4.out) hb); have n2_ := Aside0.mk (Kd.R_below (by (with_reducible repeat (first | apply Kd.R_alloc | apply Kd.R_drewN | apply Kd.R_drew)); exact HO_6.out) hb); have n3_ := Aside0.mk (below_step (by repeat (first | (with_reducible first | exact HB.out | apply below_alloc | apply pw_below_drewN | apply below_drew1) | exact HB.out)) hb); clear HO_3; clear HO_4; clear HO_6; clear HB; have HO_3 := n0_; have HO_4 := n1_; have HO_6 := n2_; have HB := n3_; clear n0_ n1_ n2_ n3_; (try clear hb); (try clear hb2); (try clear hk); (try clear hi)))
            go_ret
            exact ⟨by first | rfl | (simp [errW_none, errW_some] <;> rfl) | (simp [*, errW_none, errW_some] <;> rfl), by repeat (first | (with_reducible first | exact HB.out | apply below_alloc | apply pw_below_drewN | apply below_drew1) | exact HB.out)⟩
          · replace c18 := Bool.eq_false_iff.mpr c18
            subst c18
            have H1 : (if (t229.length : Int) = (t225.length : Int) then (if 0 < (t229.length : Int) then (if (rd t229 0) < 0 then (laws_FnFirstChoice.j1 kj8 t221 t225 (Int.tmod t228 5) t229 true) else (laws_FnFirstChoice.j1 kj8 t221 t225 (Int.tmod t228 5) t229 (decide ((rd t229 0) > (t221.length : Int))))) else (none)) else (laws_FnFirstChoice.j1 kj8 t221 t225 (Int.tmod t228 5) t229 true)) = some r := by rw [if_neg (show ¬ (false = true) by decide)] at H; exact H
            clear H
            have H := H1
            clear H1
            have HC21 := Aside0.mk H
            clear H
            go_upto_region 11 with (fail)
            go_cut [62] (fun v62 wc => ∃ (kq : Nat) (x62_20 : Bool), v62 = .bool x62_20 ∧ Aside0 (laws_FnFirstChoice.j1 kq t221 t225 (Int.tmod t228 5) t229 x62_20 = some r) ∧ Aside0 (kq ≤ kj8) ∧ Aside0 (Kd.R k34 34 wc w.heap.size (fun _ => True) (.slice Ao11 t221.length co11) t221) ∧ Aside0 (Kd.R (Kd.int .i64) 3 wc w.heap.size (fun k_ => some k_ ≠ (v231 : Value).ownBlock) (.slice Ao15 t225.length co15) t225) ∧ Aside0 (Kd.R (Kd.int .i64) 3 wc w.heap.size (fun k_ => some k_ ≠ ((.slice Ao15 t225.length co15) : Value).ownBlock) v231 t229) ∧ Aside0 (Below w.heap.size w wc))
            case first =>
              have H := HC21.out
              clear HC21
              by_cases c22 : (t229.length : Int) = (t225.length : Int)
              · rw [if_pos c22] at H
                have c22b0 : ((t229.length : Int) == (t225.length : Int)) = true := beq_iff_eq.mpr c22
                have c22b1 : ((t229.length : Int) != (t225.length : Int)) = false := bne_eq_false_iff_eq.mpr c22
                have c22b2 : (t229.length == t225.length) = true := by first | simpa using c22 | (simp at c22 ⊢; omega)
                clear c22
                (first | rw [c22b0] | (simp only [i64_w, i32_w]; rw [c22b0]) | skip)
                by_cases c23 : 0 < (t229.length : Int)
                · rw [if_pos c23] at H
                  have c23b0 : decide (0 < (t229.length : Int)) = true := decide_eq_true c23
                  have c23b1 : decide (0 < t229.length) = true := decide_eq_true (by omega)
                  clear c23
                  by_cases c24 : (rd t229 0) < 0
                  · rw [if_pos c24] at H
                    have c24b0 : decide ((rd t229 0) < 0) = true := decide_eq_true c24
                    clear c24
                    have H' := Aside0.mk H
                    clear H
                    obtain ⟨Ao25, co25, eo25⟩ := Kd.R_slice HO_6.out
                    subst eo25
                    have p234 : 0 ≤ (0 : Int) := (by omega)
                    have q234 : 0 < (t229.length : Int) := of_decide_eq_true (by first | (with_reducible assumption) | assumption)
                    obtain ⟨ad234, e234, hx234_0⟩ := Kd.at_int (Kd.R_reads' HO_6.out).2.2 0 p234 q234
                    cases e234
                    have qi234 : (0 < t229.length) = True := eq_true (by omega)
                    (try rw [show ((0 : Int)).toNat = 0 from rfl] at hx234_0)
                    (try rw [Addr.add_zero'] at hx234_0)
                    replace p234 := eq_true p234
                    replace q234 := eq_true q234
                    go_wp2
                    go_meet
                    case rel => exact ⟨_, (true), (by first | rfl | (simp; done) | (simp [*]; done)), H', ⟨by have := HJ8.out; first | omega | exact Nat.le_refl _⟩, ⟨by (with_reducible repeat (first | apply Kd.R_alloc | apply Kd.R_drewN | apply Kd.R_drew)); exact HO_3.out⟩, ⟨by (with_reducible repeat (first | apply Kd.R_alloc | apply Kd.R_drewN | apply Kd.R_drew)); exact HO_4.out⟩, ⟨by (with_reducible repeat (first | apply Kd.R_alloc | apply Kd.R_drewN | apply Kd.R_drew)); exact HO_6.out⟩, ⟨by repeat (first | (with_reducible first | exact HB.out | apply below_alloc | apply pw_below_drewN | apply below_drew1) | exact HB.out)⟩⟩
                  · rw [if_neg c24] at H
                    have c24b0 : decide ((rd t229 0) < 0) = false := decide_eq_false c24
                    clear c24
                    have H' := Aside0.mk H
                    clear H
                    obtain ⟨Ao26, co26, eo26⟩ := Kd.R_slice HO_6.out
                    subst eo26
                    have p234 : 0 ≤ (0 : Int) := (by omega)
                    have q234 : 0 < (t229.length : Int) := of_decide_eq_true (by first | (with_reducible assumption) | assumption)
                    obtain ⟨ad234, e234, hx234_0⟩ := Kd.at_int (Kd.R_reads' HO_6.out).2.2 0 p234 q234
                    cases e234
                    have qi234 : (0 < t229.length) = True := eq_true (by omega)
                    (try rw [show ((0 : Int)).toNat = 0 from rfl] at hx234_0)
                    (try rw [Addr.add_zero'] at hx234_0)
                    replace p234 := eq_true p234
                    replace q234 := eq_true q234
                    have p235 : 0 ≤ (0 : Int) := (by omega)
                    have q235 : 0 < (t229.length : Int) := of_decide_eq_true (by first | (with_reducible assumption) | assumption)
                    obtain ⟨ad235, e235, hx235_0⟩ := Kd.at_int (Kd.R_reads' HO_6.out).2.2 0 p235 q235
                    obtain rfl : ad234 = ad235 := (by injection e235)
                    have qi235 : (0 < t229.length) = True := eq_true (by omega)
                    (try rw [show ((0 : Int)).toNat = 0 from rfl] at hx235_0)
                    (try rw [Addr.add_zero'] at hx235_0)
                    replace p235 := eq_true p235
                    replace q235 := eq_true q235
                    go_wp2
                    go_meet
                    case rel => exact ⟨_, (decide ((rd t229 0) > (t221.length : Int))), (by first | rfl | (simp; done) | (simp [*]; done)), H', ⟨by have := HJ8.out; first | omega | exact Nat.le_refl _⟩, ⟨by (with_reducible repeat (first | apply Kd.R_alloc | apply Kd.R_drewN | apply Kd.R_drew)); exact HO_3.out⟩, ⟨by (with_reducible repeat (first | apply Kd.R_alloc | apply Kd.R_drewN | apply Kd.R_drew)); exact HO_4.out⟩, ⟨by (with_reducible repeat (first | apply Kd.R_alloc | apply Kd.R_drewN | apply Kd.R_drew)); exact HO_6.out⟩, ⟨by repeat (first | (with_reducible first | exact HB.out | apply below_alloc | apply pw_below_drewN | apply below_drew1) | exact HB.out)⟩⟩
                · rw [if_neg c23] at H
                  exact absurd H (by simp)
              · rw [if_neg c22] at H
                have c22b0 : ((t229.length : Int) == (t225.length : Int)) = false := beq_eq_false_iff_ne.mpr c22
                have c22b1 : ((t229.length : Int) != (t225.length : Int)) = true := bne_iff_ne.mpr c22
                have c22b2 : (t229.length == t225.length) = false := by first | simpa using c22 | (simp at c22 ⊢; omega)
                (first | rw [c22b0] | (simp only [i64_w, i32_w]; rw [c22b0]) | skip)
                have H' := Aside0.mk H
                clear H
                obtain ⟨Ao27, co27, eo27⟩ := Kd.R_slice HO_6.out
                subst eo27
                go_wp2
                go_meet
                case rel => exact ⟨_, (true), (by first | rfl | (simp; done) | (simp [*]; done)), H', ⟨by have := HJ8.out; first | omega | exact Nat.le_refl _⟩, ⟨by (with_reducible repeat (first | apply Kd.R_alloc | apply Kd.R_drewN | apply Kd.R_drew)); exact HO_3.out⟩, ⟨by (with_reducible repeat (first | apply Kd.R_alloc | apply Kd.R_drewN | apply Kd.R_drew)); exact HO_4.out⟩, ⟨by (with_reducible repeat (first | apply Kd.R_alloc | apply Kd.R_drewN | apply Kd.R_drew)); exact HO_6.out⟩, ⟨by repeat (first | (with_reducible first | exact HB.out | apply below_alloc | apply pw_below_drewN | apply below_drew1) | exact HB.out)⟩⟩
            case rest =>
              clear HC21
              try clear c1
              try clear c2
              try clear c2b0
              try clear c2b1
              try clear p2
              try clear q2
              try clear hx2
              try clear qi2
              try clear c5
              try clear c7
              try clear c17
              try clear c18
              try clear c21
              try clear c22
              try clear c22b0
              try clear c22b1
              try clear c22b2
              try clear c23
              try clear c23b0
              try clear c23b1
              try clear p23
              try clear q23
              try clear hx23
              try clear qi23
              try clear c24
              try clear c24b0
              try clear c25
              try clear c26
              try clear c27
              try clear hx234_0
              try clear hx235_0
              try clear p2
              try clear p234
              try clear p235
              try clear q234
              try clear q235
              obtain ⟨kq, x62_20, rfl, HA, HJ20, HO_3, HO_4, HO_6, HB⟩ := hcut
              cases kq with
              | zero => exact absurd HA.out (by simp [laws_FnFirstChoice.j1])
              | succ kj20 =>
                have H := HA.out
                clear HA
                simp only [laws_FnFirstChoice.j1] at H
                by_cases c28 : x62_20 = true
                · subst c28
                  have H1 : (some false) = some r := by rw [if_pos rfl] at H; exact H
                  clear H
                  have H := H1
                  clear H1
                  obtain rfl := Option.some.inj H
                  go_wp2
                  go_ret
                  exact ⟨by first | rfl | (simp [errW_none, errW_some] <;> rfl) | (simp [*, errW_none, errW_some] <;> rfl), by repeat (first | (with_reducible first | exact HB.out | apply below_alloc | apply pw_below_drewN | apply below_drew1) | exact HB.out)⟩
                · replace c28 := Bool.eq_false_iff.mpr c28
                  subst c28
                  have H1 : (if 0 < (t225.length : Int) then ((impl_Usable.f kj20 t221 (rd t225 0) (Int.tmod t228 5)).bind fun t237 => (laws_FnFirstChoice.l0 kj20 t221 t225 (Int.tmod t228 5) t229 t237 (t237.length : Int) 0)) else (none)) = some r := by rw [if_neg (show ¬ (false = true) by decide)] at H; exact H
                  clear H
                  have H := H1
                  clear H1
                  by_cases c29 : 0 < (t225.length : Int)
                  · rw [if_pos c29] at H
                    have c29b0 : decide (0 < (t225.length : Int)) = true := decide_eq_true c29
                    have c29b1 : decide (0 < t225.length) = true := decide_eq_true (by omega)
                    clear c29
                    replace H := Option.bind_eq_some_iff.mp H
                    obtain ⟨t237, A300, H⟩ := H
                    replace H : (laws_FnFirstChoice.l0 kj20 t221 t225 (Int.tmod t228 5) t229 t237 (t237.length : Int) 0) = some r := H
                    have A30 := Aside0.mk A300
                    clear A300
                    have H' := Aside0.mk H
                    clear H
                    have p236 : 0 ≤ (0 : Int) := (by omega)
                    have q236 : 0 < (t225.length : Int) := of_decide_eq_true (by first | (with_reducible assumption) | assumption)
                    obtain ⟨ad236, e236, hx236_0⟩ := Kd.at_int (Kd.R_reads' HO_4.out).2.2 0 p236 q236
                    cases e236
                    have qi236 : (0 < t225.length) = True := eq_true (by omega)
                    (try rw [show ((0 : Int)).toNat = 0 from rfl] at hx236_0)
                    (try rw [Addr.add_zero'] at hx236_0)
                    replace p236 := eq_true p236
                    replace q236 := eq_true q236
                    go_wp2_with (first | ((with_reducible refine gate_callee (f := 28) rfl ?_); refine goesL_ (some 68) rfl rfl Try.func28 (by kernel_rfl) rfl #[.slice Ao11 t221.length co11, .int .i64 (rd t225 0), .int .i64 (Int.tmod t228 5)] rfl (by (try simp only [List.map_toArray, List.map_cons, List.map_nil]); first | done | rfl | (simp only [List.length_drop, List.length_take]; rfl)) ?_; (with_reducible refine (impl_Usable.calls kj20 _ _ t221 (rd t225 0) (Int.tmod t228 5) t237 _ ?side1 ?side2 A30.out).mono ?_); (case side1 => repeat (first | exact (Kd.R_reads' HO_3.out).2.2 | (with_reducible refine Kd.C_alloc ?_ _) | (with_reducible refine Kd.C_drewN ?_ _) | (with_reducible refine Kd.C_drew ?_))); (case side2 => exact (Kd.R_reads' HO_3.out).2.1); rintro e w31 ⟨v238, rfl, ho0, hb⟩; refine ⟨_, rfl, ?_⟩; have n0_ := Aside0.mk (Kd.R_below (by (with_reducible repeat (first | apply Kd.R_alloc | apply Kd.R_drewN | apply Kd.R_drew)); exact HO_3.out) hb); have n1_ := Aside0.mk (Kd.R_elder' (by (with_reducible repeat (first | apply Kd.R_alloc | apply Kd.R_drewN | apply Kd.R_drew)); exact HO_4.out) (Kd.R_base ho0) hb); have n2_ := Aside0.mk (Kd.R_elder' (by (with_reducible repeat (first | apply Kd.R_alloc | apply Kd.R_drewN | apply Kd.R_drew)); exact HO_6.out) (Kd.R_base ho0) hb); have n3_ := Aside0.mk (Kd.R_lower (Kd.R_new' (Kd.R_new' ho0 (Kd.R_lt (by (with_reducible repeat (first | apply Kd.R_alloc | apply Kd.R_drewN | apply Kd.R_drew)); exact HO_4.out))) (Kd.R_lt (by (with_reducible repeat (first | apply Kd.R_alloc | apply Kd.R_drewN | apply Kd.R_drew)); exact HO_6.out))) (below_size (by repeat (first | (with_reducible first | exact HB.out | apply below_alloc | apply pw_below_drewN | apply below_drew1) | exact HB.out)))); have n4_ := Aside0.mk (below_step (by repeat (first | (with_reducible first | exact HB.out | apply below_alloc | apply pw_below_drewN | apply below_drew1) | exact HB.out)) hb); clear HO_3; clear HO_4; clear HO_6; clear HB; have HO_3 := n0_; have HO_4 := n1_; have HO_6 := n2_; have HO239 := n3_; have HB := n4_; clear n0_ n1_ n2_ n3_ n4_; (try clear hb); (try clear hb2); (try clear hk); (try clear hi); (try clear ho0); obtain ⟨Ao32, co32, eo32⟩ := Kd.R_slice HO239.out; subst eo32))
                    go_loopg [70] kj20 (fun kq v70 w' => ∃ (x70_3 : Int), v70 = .int .i64 x70_3 ∧ Aside0 (laws_FnFirstChoice.l0 kq t221 t225 (Int.tmod t228 5) t229 t237 (t237.length : Int) x70_3 = some r) ∧ Aside0 (kq ≤ kj20) ∧ Aside0 (Kd.R k34 34 w' w.heap.size (fun _ => True) (.slice Ao11 t221.length co11) t221) ∧ Aside0 (Kd.R (Kd.int .i64) 3 w' w.heap.size (fun k_ => some k_ ≠ (v231 : Value).ownBlock ∧ some k_ ≠ ((.slice Ao32 t237.length co32) : Value).ownBlock) (.slice (some ad236) t225.length co15) t225) ∧ Aside0 (Kd.R (Kd.int .i64) 3 w' w.heap.size (fun k_ => some k_ ≠ ((.slice (some ad236) t225.length co15) : Value).ownBlock ∧ some k_ ≠ ((.slice Ao32 t237.length co32) : Value).ownBlock) v231 t229) ∧ Aside0 (Kd.R (Kd.int .i64) 3 w' w.heap.size (fun k_ => some k_ ≠ ((.slice (some ad236) t225.length co15) : Value).ownBlock ∧ some k_ ≠ (v231 : Value).ownBlock) (.slice Ao32 t237.length co32) t237) ∧ Aside0 (Below w.heap.size w w'))
                    case atStart => exact ⟨(0), (by first | rfl | (simp; done) | (simp [*]; done)), H', ⟨Nat.le_refl _⟩, ⟨by (with_reducible repeat (first | apply Kd.R_alloc | apply Kd.R_drewN | apply Kd.R_drew)); exact HO_3.out⟩, ⟨by (with_reducible repeat (first | apply Kd.R_alloc | apply Kd.R_drewN | apply Kd.R_drew)); exact HO_4.out⟩, ⟨by (with_reducible repeat (first | apply Kd.R_alloc | apply Kd.R_drewN | apply Kd.R_drew)); exact HO_6.out⟩, ⟨by (with_reducible repeat (first | apply Kd.R_alloc | apply Kd.R_drewN | apply Kd.R_drew)); exact Kd.R_mono HO239.out (fun _ hk => ⟨hk.1.2, hk.2⟩)⟩, ⟨by repeat (first | (with_reducible first | exact HB.out | apply below_alloc | apply pw_below_drewN | apply below_drew1) | exact HB.out)⟩⟩
                    case round =>
                      clear H'
                      try clear c1
                      try clear c2
                      try clear c2b0
                      try clear c2b1
                      try clear p2
                      try clear q2
                      try clear hx2
                      try clear qi2
                      try clear c5
                      try clear c7
                      try clear c17
                      try clear c18
                      try clear c21
                      try clear c22
                      try clear c22b0
                      try clear c22b1
                      try clear c22b2
                      try clear c23
                      try clear c23b0
                      try clear c23b1
                      try clear p23
                      try clear q23
                      try clear hx23
                      try clear qi23
                      try clear c24
                      try clear c24b0
                      try clear c25
                      try clear c26
                      try clear c27
                      try clear c28
                      try clear c29
                      try clear c29b0
                      try clear c29b1
                      try clear hx234_0
                      try clear hx235_0
                      try clear hx236_0
                      try clear p2
                      try clear p23
                      try clear p234
                      try clear p235
                      try clear p236
                      try clear q2
                      try clear q23
                      try clear q234
                      try clear q235
                      try clear q236
                      obtain ⟨x70_3, rfl, HA, HK3, HO_3, HO_4, HO_6, HO_68, HB⟩ := hrel
                      cases gk with
                      | zero => exact absurd HA.out (by simp [laws_FnFirstChoice.l0])
                      | succ k3 =>
                        have H := HA.out
                        clear HA
                        simp only [laws_FnFirstChoice.l0] at H
                        by_cases c33 : x70_3 < (t237.length : Int)
                        · rw [if_pos c33] at H
                          have c33b0 : decide (x70_3 < (t237.length : Int)) = true := decide_eq_true c33
                          clear c33
                          by_cases c34 : 0 ≤ x70_3
                          · rw [if_pos c34] at H
                            have c34b0 : decide (0 ≤ x70_3) = true := decide_eq_true c34
                            clear c34
                            by_cases c35 : x70_3 < (t237.length : Int)
                            · rw [if_pos c35] at H
                              have c35b0 : decide (x70_3 < (t237.length : Int)) = true := decide_eq_true c35
                              clear c35
                              have HC36 := Aside0.mk H
                              clear H
                              have p240 : 0 ≤ (x70_3 : Int) := of_decide_eq_true (by first | (with_reducible assumption) | assumption)
                              have q240 : x70_3 < (t237.length : Int) := of_decide_eq_true (by first | (with_reducible assumption) | assumption)
                              obtain ⟨ad240, e240, hx240_0⟩ := Kd.at_int (Kd.R_reads' HO_68.out).2.2 x70_3 p240 q240
                              cases e240
                              replace p240 := eq_true p240
                              replace q240 := eq_true q240
                              go_upto_region 16 with (fail)
                              go_cut [81] (fun v81 wc => ∃ (kq : Nat) (x81_35 : Bool), v81 = .bool x81_35 ∧ Aside0 (laws_FnFirstChoice.j3 kq t221 t225 (Int.tmod t228 5) t229 (rd t237 x70_3) t237 (t237.length : Int) x70_3 x81_35 = some r) ∧ Aside0 (kq ≤ k3) ∧ Aside0 (Kd.R k34 34 wc w.heap.size (fun _ => True) (.slice Ao11 t221.length co11) t221) ∧ Aside0 (Kd.R (Kd.int .i64) 3 wc w.heap.size (fun k_ => some k_ ≠ (v231 : Value).ownBlock ∧ some k_ ≠ ((.slice (some ad240) t237.length co32) : Value).ownBlock) (.slice (some ad236) t225.length co15) t225) ∧ Aside0 (Kd.R (Kd.int .i64) 3 wc w.heap.size (fun k_ => some k_ ≠ ((.slice (some ad236) t225.length co15) : Value).ownBlock ∧ some k_ ≠ ((.slice (some ad240) t237.length co32) : Value).ownBlock) v231 t229) ∧ Aside0 (Kd.R (Kd.int .i64) 3 wc w.heap.size (fun k_ => some k_ ≠ ((.slice (some ad236) t225.length co15) : Value).ownBlock ∧ some k_ ≠ (v231 : Value).ownBlock) (.slice (some ad240) t237.length co32) t237) ∧ Aside0 (Below w.heap.size w wc))
                              case first =>
                                have H := HC36.out
                                clear HC36
                                by_cases c37 : (rd t237 x70_3) < 0
                                · rw [if_pos c37] at H
                                  have c37b0 : decide ((rd t237 x70_3) < 0) = true := decide_eq_true c37
                                  clear c37
                                  (first | rw [c37b0] | (simp only [i64_w, i32_w]; rw [c37b0]) | skip)
                                  have H' := Aside0.mk H
                                  clear H
                                  go_wp2
                                  go_meet
                                  case rel => exact ⟨_, (true), (by first | rfl | (simp; done) | (simp [*]; done)), H', ⟨by have := HJ8.out; have := HJ20.out; have := HK3.out; first | omega | exact Nat.le_refl _⟩, ⟨by (with_reducible repeat (first | apply Kd.R_alloc | apply Kd.R_drewN | apply Kd.R_drew)); exact HO_3.out⟩, ⟨by (with_reducible repeat (first | apply Kd.R_alloc | apply Kd.R_drewN | apply Kd.R_drew)); exact HO_4.out⟩, ⟨by (with_reducible repeat (first | apply Kd.R_alloc | apply Kd.R_drewN | apply Kd.R_drew)); exact HO_6.out⟩, ⟨by (with_reducible repeat (first | apply Kd.R_alloc | apply Kd.R_drewN | apply Kd.R_drew)); exact HO_68.out⟩, ⟨by repeat (first | (with_reducible first | exact HB.out | apply below_alloc | apply pw_below_drewN | apply below_drew1) | exact HB.out)⟩⟩
                                · rw [if_neg c37] at H
                                  have c37b0 : decide ((rd t237 x70_3) < 0) = false := decide_eq_false c37
                                  clear c37
                                  (first | rw [c37b0] | (simp only [i64_w, i32_w]; rw [c37b0]) | skip)
                                  have H' := Aside0.mk H
                                  clear H
                                  go_wp2
                                  go_meet
                                  case rel => exact ⟨_, (decide ((rd t237 x70_3) ≥ (t221.length : Int))), (by first | rfl | (simp; done) | (simp [*]; done)), H', ⟨by have := HJ8.out; have := HJ20.out; have := HK3.out; first | omega | exact Nat.le_refl _⟩, ⟨by (with_reducible repeat (first | apply Kd.R_alloc | apply Kd.R_drewN | apply Kd.R_drew)); exact HO_3.out⟩, ⟨by (with_reducible repeat (first | apply Kd.R_alloc | apply Kd.R_drewN | apply Kd.R_drew)); exact HO_4.out⟩, ⟨by (with_reducible repeat (first | apply Kd.R_alloc | apply Kd.R_drewN | apply Kd.R_drew)); exact HO_6.out⟩, ⟨by (with_reducible repeat (first | apply Kd.R_alloc | apply Kd.R_drewN | apply Kd.R_drew)); exact HO_68.out⟩, ⟨by repeat (first | (with_reducible first | exact HB.out | apply below_alloc | apply pw_below_drewN | apply below_drew1) | exact HB.out)⟩⟩
                              case rest =>
                                clear HC36
                                try clear c1
                                try clear c2
                                try clear c2b0
                                try clear c2b1
                                try clear p2
                                try clear q2
                                try clear hx2
                                try clear qi2
                                try clear c3
                                try clear c5
                                try clear c7
                                try clear c17
                                try clear c18
                                try clear c21
                                try clear c22
                                try clear c22b0
                                try clear c22b1
                                try clear c22b2
                                try clear c23
                                try clear c23b0
                                try clear c23b1
                                try clear p23
                                try clear q23
                                try clear hx23
                                try clear qi23
                                try clear c24
                                try clear c24b0
                                try clear p24
                                try clear q24
                                try clear hx24
                                try clear c25
                                try clear c26
                                try clear c27
                                try clear c28
                                try clear c29
                                try clear c29b0
                                try clear c29b1
                                try clear c33
                                try clear c33b0
                                try clear c34
                                try clear c34b0
                                try clear c35
                                try clear c35b0
                                try clear c37
                                try clear c37b0
                                try clear hx234_0
                                try clear hx235_0
                                try clear hx236_0
                                try clear hx240_0
                                try clear p2
                                try clear p23
                                try clear p234
                                try clear p235
                                try clear p236
                                try clear p240
                                try clear q2
                                try clear q23
                                try clear q234
                                try clear q235
                                try clear q236
                                try clear q240
                                obtain ⟨kq, x81_35, rfl, HA, HJ35, HO_3, HO_4, HO_6, HO_68, HB⟩ := hcut
                                cases kq with
                                | zero => exact absurd HA.out (by simp [laws_FnFirstChoice.j3])
                                | succ kj35 =>
                                  have H := HA.out
                                  clear HA
                                  simp only [laws_FnFirstChoice.j3] at H
                                  by_cases c38 : x81_35 = true
                                  · subst c38
                                    have H1 : (some false) = some r := by rw [if_pos rfl] at H; exact H
                                    clear H
                                    have H := H1
                                    clear H1
                                    obtain rfl := Option.some.inj H
                                    go_wp2
                                    go_ret
                                    exact ⟨by first | rfl | (simp [errW_none, errW_some] <;> rfl) | (simp [*, errW_none, errW_some] <;> rfl), by repeat (first | (with_reducible first | exact HB.out | apply below_alloc | apply pw_below_drewN | apply below_drew1) | exact HB.out)⟩
                                  · replace c38 := Bool.eq_false_iff.mpr c38
                                    subst c38
                                    have H1 : ((some (([] : List (S34)) : List (S34))).bind fun y241 => (if 0 ≤ (rd t237 x70_3) then (if (rd t237 x70_3) ≤ (t221.length : Int) then ((some (t221.take ((rd t237 x70_3) : Int).toNat : List (S34))).bind fun y244 => (if y241.length + y244.length < 4398046511104 then ((some (y241 ++ y244 : List (S34))).bind fun y248 => (if 0 ≤ (wrap64 ((rd t237 x70_3) + 1)) then (if (wrap64 ((rd t237 x70_3) + 1)) ≤ (t221.length : Int) then ((some (t221.drop ((wrap64 ((rd t237 x70_3) + 1)) : Int).toNat : List (S34))).bind fun y251 => (if y248.length + y251.length < 4398046511104 then (if 0 < (t229.length : Int) then (if (rd t237 x70_3) < (rd t229 0) then (if 1 ≤ (t225.length : Int) then ((impl_CanEquip.f kj35 (y248 ++ y251) (t225.drop 1) (Int.tmod t228 5)).bind fun t263 => (if t263 = true then (some false) else (laws_FnFirstChoice.l0 kj35 t221 t225 (Int.tmod t228 5) t229 t237 (t237.length : Int) (wrap64 (x70_3 + 1))))) else (none)) else (laws_FnFirstChoice.l0 kj35 t221 t225 (Int.tmod t228 5) t229 t237 (t237.length : Int) (wrap64 (x70_3 + 1)))) else (none)) else (none))) else (none)) else (none))) else (none))) else (none)) else (none))) = some r := by rw [if_neg (show ¬ (false = true) by decide)] at H; exact H
                                    clear H
                                    have H := H1
                                    clear H1
                                    obtain ⟨y241, hy241⟩ : ∃ y_ : List (S34), y_ = (([] : List (S34))) := ⟨_, rfl⟩
                                    replace H : (if 0 ≤ (rd t237 x70_3) then (if (rd t237 x70_3) ≤ (t221.length : Int) then ((some (t221.take ((rd t237 x70_3) : Int).toNat : List (S34))).bind fun y244 => (if y241.length + y244.length < 4398046511104 then ((some (y241 ++ y244 : List (S34))).bind fun y248 => (if 0 ≤ (wrap64 ((rd t237 x70_3) + 1)) then (if (wrap64 ((rd t237 x70_3) + 1)) ≤ (t221.length : Int) then ((some (t221.drop ((wrap64 ((rd t237 x70_3) + 1)) : Int).toNat : List (S34))).bind fun y251 => (if y248.length + y251.length < 4398046511104 then (if 0 < (t229.length : Int) then (if (rd t237 x70_3) < (rd t229 0) then (if 1 ≤ (t225.length : Int) then ((impl_CanEquip.f kj35 (y248 ++ y251) (t225.drop 1) (Int.tmod t228 5)).bind fun t263 => (if t263 = true then (some false) else (laws_FnFirstChoice.l0 kj35 t221 t225 (Int.tmod t228 5) t229 t237 (t237.length : Int) (wrap64 (x70_3 + 1))))) else (none)) else (laws_FnFirstChoice.l0 kj35 t221 t225 (Int.tmod t228 5) t229 t237 (t237.length : Int) (wrap64 (x70_3 + 1)))) else (none)) else (none))) else (none)) else (none))) else (none))) else (none)) else (none)) = some r := by first | (rw [hy241]; with_reducible exact H) | (have H2_ := (Option.bind_some _ _).symm.trans H; rw [hy241]; with_reducible exact H2_) | (have H2_ := (Option.bind_some _ _).symm.trans H; with_reducible exact H2_) | with_reducible exact H | (rw [hy241]; exact H) | exact H
                                    have Ny241 := Aside0.mk hy241
                                    clear hy241
                                    by_cases c39 : 0 ≤ (rd t237 x70_3)
                                    · rw [if_pos c39] at H
                                      have c39b0 := eq_true c39
                                      have c39b1 : decide (0 ≤ (rd t237 x70_3)) = true := decide_eq_true c39
                                      clear c39
                                      by_cases c40 : (rd t237 x70_3) ≤ (t221.length : Int)
                                      · rw [if_pos c40] at H
                                        have c40b0 := eq_true c40
                                        have c40b1 : decide ((rd t237 x70_3) ≤ (t221.length : Int)) = true := decide_eq_true c40
                                        clear c40
                                        obtain ⟨y244, hy244⟩ : ∃ y_ : List (S34), y_ = (t221.take ((rd t237 x70_3) : Int).toNat) := ⟨_, rfl⟩
                                        replace H : (if y241.length + y244.length < 4398046511104 then ((some (y241 ++ y244 : List (S34))).bind fun y248 => (if 0 ≤ (wrap64 ((rd t237 x70_3) + 1)) then (if (wrap64 ((rd t237 x70_3) + 1)) ≤ (t221.length : Int) then ((some (t221.drop ((wrap64 ((rd t237 x70_3) + 1)) : Int).toNat : List (S34))).bind fun y251 => (if y248.length + y251.length < 4398046511104 then (if 0 < (t229.length : Int) then (if (rd t237 x70_3) < (rd t229 0) then (if 1 ≤ (t225.length : Int) then ((impl_CanEquip.f kj35 (y248 ++ y251) (t225.drop 1) (Int.tmod t228 5)).bind fun t263 => (if t263 = true then (some false) else (laws_FnFirstChoice.l0 kj35 t221 t225 (Int.tmod t228 5) t229 t237 (t237.length : Int) (wrap64 (x70_3 + 1))))) else (none)) else (laws_FnFirstChoice.l0 kj35 t221 t225 (Int.tmod t228 5) t229 t237 (t237.length : Int) (wrap64 (x70_3 + 1)))) else (none)) else (none))) else (none)) else (none))) else (none)) = some r := by first | (rw [hy244]; with_reducible exact H) | (have H2_ := (Option.bind_some _ _).symm.trans H; rw [hy244]; with_reducible exact H2_) | (have H2_ := (Option.bind_some _ _).symm.trans H; with_reducible exact H2_) | with_reducible exact H | (rw [hy244]; exact H) | exact H
                                        have Ny244 := Aside0.mk hy244
                                        clear hy244
                                        by_cases c41 : y241.length + y244.length < 4398046511104
                                        · rw [if_pos c41] at H
                                          have LMc41 := Aside0.mk c41
                                          clear c41
                                          obtain ⟨y248, hy248⟩ : ∃ y_ : List (S34), y_ = (y241 ++ y244) := ⟨_, rfl⟩
                                          replace H : (if 0 ≤ (wrap64 ((rd t237 x70_3) + 1)) then (if (wrap64 ((rd t237 x70_3) + 1)) ≤ (t221.length : Int) then ((some (t221.drop ((wrap64 ((rd t237 x70_3) + 1)) : Int).toNat : List (S34))).bind fun y251 => (if y248.length + y251.length < 4398046511104 then (if 0 < (t229.length : Int) then (if (rd t237 x70_3) < (rd t229 0) then (if 1 ≤ (t225.length : Int) then ((impl_CanEquip.f kj35 (y248 ++ y251) (t225.drop 1) (Int.tmod t228 5)).bind fun t263 => (if t263 = true then (some false) else (laws_FnFirstChoice.l0 kj35 t221 t225 (Int.tmod t228 5) t229 t237 (t237.length : Int) (wrap64 (x70_3 + 1))))) else (none)) else (laws_FnFirstChoice.l0 kj35 t221 t225 (Int.tmod t228 5) t229 t237 (t237.length : Int) (wrap64 (x70_3 + 1)))) else (none)) else (none))) else (none)) else (none)) = some r := by first | (rw [hy248]; with_reducible exact H) | (have H2_ := (Option.bind_some _ _).symm.trans H; rw [hy248]; with_reducible exact H2_) | (have H2_ := (Option.bind_some _ _).symm.trans H; with_reducible exact H2_) | with_reducible exact H | (rw [hy248]; exact H) | exact H
                                          have Ny248 := Aside0.mk hy248
                                          clear hy248
                                          obtain ⟨ji42, hji42⟩ : ∃ j_ : Int, (wrap64 ((rd t237 x70_3) + 1)) = j_ := ⟨_, rfl⟩
                                          replace H : (if 0 ≤ (ji42) then (if (ji42) ≤ (t221.length : Int) then ((some (t221.drop ((ji42) : Int).toNat : List (S34))).bind fun y251 => (if y248.length + y251.length < 4398046511104 then (if 0 < (t229.length : Int) then (if (rd t237 x70_3) < (rd t229 0) then (if 1 ≤ (t225.length : Int) then ((impl_CanEquip.f kj35 (y248 ++ y251) (t225.drop 1) (Int.tmod t228 5)).bind fun t263 => (if t263 = true then (some false) else (laws_FnFirstChoice.l0 kj35 t221 t225 (Int.tmod t228 5) t229 t237 (t237.length : Int) (wrap64 (x70_3 + 1))))) else (none)) else (laws_FnFirstChoice.l0 kj35 t221 t225 (Int.tmod t228 5) t229 t237 (t237.length : Int) (wrap64 (x70_3 + 1)))) else (none)) else (none))) else (none)) else (none)) = some r := by first | (rw [hji42] at H; exact H) | (simp only [hji42] at H ⊢; exact H)
                                          have hji42w : (IntKind.i64.wrap ((rd t237 x70_3) + 1)) = ji42 := (i64_w _).trans hji42
                                          by_cases c43 : 0 ≤ (ji42)
                                          · rw [if_pos c43] at H
                                            have c43b0 := eq_true c43
                                            have c43b1 : decide (0 ≤ (ji42)) = true := decide_eq_true c43
                                            clear c43
                                            by_cases c44 : (ji42) ≤ (t221.length : Int)
                                            · rw [if_pos c44] at H
                                              have c44b0 := eq_true c44
                                              have c44b1 : decide ((ji42) ≤ (t221.length : Int)) = true := decide_eq_true c44
                                              clear c44
                                              obtain ⟨y251, hy251⟩ : ∃ y_ : List (S34), y_ = (t221.drop ((ji42) : Int).toNat) := ⟨_, rfl⟩
                                              replace H : (if y248.length + y251.length < 4398046511104 then (if 0 < (t229.length : Int) then (if (rd t237 x70_3) < (rd t229 0) then (if 1 ≤ (t225.length : Int) then ((impl_CanEquip.f kj35 (y248 ++ y251) (t225.drop 1) (Int.tmod t228 5)).bind fun t263 => (if t263 = true then (some false) else (laws_FnFirstChoice.l0 kj35 t221 t225 (Int.tmod t228 5) t229 t237 (t237.length : Int) (wrap64 (x70_3 + 1))))) else (none)) else (laws_FnFirstChoice.l0 kj35 t221 t225 (Int.tmod t228 5) t229 t237 (t237.length : Int) (wrap64 (x70_3 + 1)))) else (none)) else (none)) = some r := by first | (rw [hy251]; with_reducible exact H) | (have H2_ := (Option.bind_some _ _).symm.trans H; rw [hy251]; with_reducible exact H2_) | (have H2_ := (Option.bind_some _ _).symm.trans H; with_reducible exact H2_) | with_reducible exact H | (rw [hy251]; exact H) | exact H
                                              have Ny251 := Aside0.mk hy251
                                              clear hy251
                                              by_cases c45 : y248.length + y251.length < 4398046511104
                                              · rw [if_pos c45] at H
                                                have LMc45 := Aside0.mk c45
                                                clear c45
                                                obtain ⟨y255, hy255⟩ : ∃ y_ : List (S34), y_ = (y248 ++ y251) := ⟨_, rfl⟩
                                                replace H : (if 0 < (t229.length : Int) then (if (rd t237 x70_3) < (rd t229 0) then (if 1 ≤ (t225.length : Int) then ((impl_CanEquip.f kj35 y255 (t225.drop 1) (Int.tmod t228 5)).bind fun t263 => (if t263 = true then (some false) else (laws_FnFirstChoice.l0 kj35 t221 t225 (Int.tmod t228 5) t229 t237 (t237.length : Int) (wrap64 (x70_3 + 1))))) else (none)) else (laws_FnFirstChoice.l0 kj35 t221 t225 (Int.tmod t228 5) t229 t237 (t237.length : Int) (wrap64 (x70_3 + 1)))) else (none)) = some r := by first | (rw [hy255]; with_reducible exact H) | (have H2_ := (Option.bind_some _ _).symm.trans H; rw [hy255]; with_reducible exact H2_) | (have H2_ := (Option.bind_some _ _).symm.trans H; with_reducible exact H2_) | with_reducible exact H | (rw [hy255]; exact H) | exact H
                                                have Ny255 := Aside0.mk hy255
                                                clear hy255
                                                by_cases c46 : 0 < (t229.length : Int)
                                                · rw [if_pos c46] at H
                                                  have c46b0 : decide (0 < (t229.length : Int)) = true := decide_eq_true c46
                                                  have c46b1 : decide (0 < t229.length) = true := decide_eq_true (by omega)
                                                  clear c46
                                                  by_cases c47 : (rd t237 x70_3) < (rd t229 0)
                                                  · rw [if_pos c47] at H
                                                    have c47b0 : decide ((rd t237 x70_3) < (rd t229 0)) = true := decide_eq_true c47
                                                    clear c47
                                                    by_cases c48 : 1 ≤ (t225.length : Int)
                                                    · rw [if_pos c48] at H
                                                      have c48b0 := eq_true c48
                                                      have c48b1 : decide (1 ≤ (t225.length : Int)) = true := decide_eq_true c48
                                                      clear c48
                                                      obtain ⟨y259, hy259⟩ : ∃ y_ : List Int, y_ = (t225.drop 1) := ⟨_, rfl⟩
                                                      replace H : ((impl_CanEquip.f kj35 y255 y259 (Int.tmod t228 5)).bind fun t263 => (if t263 = true then (some false) else (laws_FnFirstChoice.l0 kj35 t221 t225 (Int.tmod t228 5) t229 t237 (t237.length : Int) (wrap64 (x70_3 + 1))))) = some r := by first | (rw [hy259]; with_reducible exact H) | (have H2_ := (Option.bind_some _ _).symm.trans H; rw [hy259]; with_reducible exact H2_) | (have H2_ := (Option.bind_some _ _).symm.trans H; with_reducible exact H2_) | with_reducible exact H | (rw [hy259]; exact H) | exact H
                                                      have Ny259 := Aside0.mk hy259
                                                      clear hy259
                                                      replace H := Option.bind_eq_some_iff.mp H
                                                      obtain ⟨t263, A490, H⟩ := H
                                                      replace H : (if t263 = true then (some false) else (laws_FnFirstChoice.l0 kj35 t221 t225 (Int.tmod t228 5) t229 t237 (t237.length : Int) (wrap64 (x70_3 + 1)))) = some r := H
                                                      have A49 := Aside0.mk A490
                                                      clear A490
                                                      by_cases c50 : t263 = true
                                                      · subst c50
                                                        have H1 : (some false) = some r := by rw [if_pos rfl] at H; exact H
                                                        clear H
                                                        have H := H1
                                                        clear H1
                                                        obtain rfl := Option.some.inj H
                                                        try go_wp2
                                                        have n0_ := Aside0.mk (Kd.R_drew HO_3.out)
                                                        have n1_ := Aside0.mk (Kd.R_drew HO_4.out)
                                                        have n2_ := Aside0.mk (Kd.R_drew HO_6.out)
                                                        have n3_ := Aside0.mk (Kd.R_drew HO_68.out)
                                                        have n4_ := Aside0.mk (below_drew1 HB.out)
                                                        clear HO_3
                                                        clear HO_4
                                                        clear HO_6
                                                        clear HO_68
                                                        clear HB
                                                        have HO_3 := n0_
                                                        have HO_4 := n1_
                                                        have HO_6 := n2_
                                                        have HO_68 := n3_
                                                        have HB := n4_
                                                        clear n0_ n1_ n2_ n3_ n4_
                                                        have q52 : ((rd t237 x70_3) : Int) ≤ ((t221.length : Int) : Int) := of_decide_eq_true (by first | (with_reducible assumption) | assumption)
                                                        obtain ⟨i052, hi052, _, hsz52, _⟩ := info_parts info34
                                                        have hroom52 : t221.length ≤ co11 := (Kd.R_reads' HO_3.out).2.1
                                                        have hC52 : Kd.C k34 _ Ao11 t221.length t221 := (Kd.R_reads' HO_3.out).2.2
                                                        have hcut52 := cut_to (P := Try.prog) 40 34 .i64 Try.underlying40 hi052 Ao11 t221.length co11 (rd t237 x70_3) (of_decide_eq_true (by first | (with_reducible assumption) | assumption)) q52 hroom52
                                                        have hr52 := Kd.C_take (m := ((rd t237 x70_3) : Int).toNat) hC52 (by omega)
                                                        have hy52 : y244.length = ((rd t237 x70_3) : Int).toNat := (by rw [Ny244.out, List.length_take]; omega)
                                                        rw [← Ny244.out] at hr52
                                                        rw [← hy52] at hcut52
                                                        have HR247 := Aside0.mk hr52
                                                        have HC247 := Aside0.mk (show y244.length ≤ co11 from by omega)
                                                        clear hr52 hC52 hroom52 hi052 hsz52
                                                        have KY52 := Aside0.mk hy52
                                                        clear hy52
                                                        have KL52 := Aside0.mk (show ((rd t237 x70_3) : Int).toNat ≤ t221.length from by omega)
                                                        replace q52 := eq_true q52
                                                        have q53 : ((ji42) : Int) ≤ ((t221.length : Int) : Int) := of_decide_eq_true (by first | (with_reducible assumption) | assumption)
                                                        obtain ⟨i053, hi053, _, hsz53, _⟩ := info_parts info34
                                                        have hroom53 : t221.length ≤ co11 := (Kd.R_reads' HO_3.out).2.1
                                                        have hC53 : Kd.C k34 _ Ao11 t221.length t221 := (Kd.R_reads' HO_3.out).2.2
                                                        have q053 : (0 : Int) ≤ ((ji42) : Int) := of_decide_eq_true (by first | (with_reducible assumption) | assumption)
                                                        have hcut53 := cut_from (P := Try.prog) 40 34 .i64 Try.underlying40 hi053 3 hsz53 Ao11 t221.length co11 (ji42) q053 q53
                                                        have hr53 := Kd.C_drop (m := ((ji42) : Int).toNat) (c := co11) hC53 (by omega) hroom53
                                                        obtain ⟨A53, hA53⟩ : ∃ A1, A1 = (if co11 = ((ji42) : Int).toNat then Ao11 else (Ao11 : Option Addr).map (·.add (((ji42) : Int).toNat * 3))) := ⟨_, rfl⟩
                                                        obtain ⟨c53, hc53⟩ : ∃ c1, c1 = co11 - ((ji42) : Int).toNat := ⟨_, rfl⟩
                                                        have hy53 : y251.length = t221.length - ((ji42) : Int).toNat := (by rw [Ny251.out, List.length_drop] <;> omega)
                                                        rw [show (t221).drop ((ji42) : Int).toNat = y251 from Ny251.out.symm] at hr53
                                                        replace hr53 : Kd.C k34 _ A53 y251.length y251 := (by rw [hA53]; exact hr53)
                                                        rw [← hy53, ← hA53, ← hc53] at hcut53
                                                        have HR254 := Aside0.mk hr53
                                                        have HC254 := Aside0.mk (show y251.length ≤ c53 from by rw [hy53, hc53]; exact Nat.sub_le_sub_right hroom53 _)
                                                        clear hr53 hC53 hroom53 hi053 hsz53 hc53
                                                        have KY53 := Aside0.mk hy53
                                                        have KA53 := Aside0.mk hA53
                                                        clear hy53 hA53
                                                        have KL53 := Aside0.mk (show ((ji42) : Int).toNat ≤ t221.length from by omega)
                                                        replace q53 := eq_true q53
                                                        refine start_ (n := 11) (S := fun w' => True) (ds := []) #[false, false, false, false, false, false, false, false, false, false, false] (by kernel_rfl) rfl rfl trivial (fun hHeld => ?_); refine with_tabW laws_FnFirstChoice.tab18 laws_FnFirstChoice.bits18 (fun HT_ HW_ => ?_)
                                                        generalize wc.drew = w51 at HO_3 HO_4 HO_6 HO_68 HB HR247 HR254 hHeld ⊢
                                                        refine pure_ (i := 1) (N := some 83) (v := ?_) (a' := ?_) #[false, true, false, false, false, false, false, false, false, false, false] rfl rfl (any_of HT_.out (by kernel_rfl)) (fun _ _ _ h => h) (Or.inl ⟨by rfl, ?_⟩) ?_ ?_
                                                        rotate_left
                                                        · intro w'
                                                          go_simp
                                                          with_reducible rfl
                                                        rotate_left
                                                        · simp only [Act.put, List.setIfInBounds_toArray, List.set_cons_zero, List.set_cons_succ, i64_w, i32_w]
                                                          rfl
                                                        refine pure_ (i := 2) (N := some 84) (v := ?_) (a' := ?_) #[false, true, true, false, false, false, false, false, false, false, false] rfl rfl (any_of HT_.out (by kernel_rfl)) (fun _ _ _ h => h) (Or.inl ⟨by rfl, ?_⟩) ?_ ?_
                                                        rotate_left
                                                        · intro w'
                                                          go_simp
                                                          with_reducible rfl
                                                        rotate_left
                                                        · simp only [Act.put, List.setIfInBounds_toArray, List.set_cons_zero, List.set_cons_succ, i64_w, i32_w]
                                                          rfl
                                                        refine pure_ (i := 3) (N := some 85) (v := ?_) (a' := ?_) #[false, true, true, true, false, false, false, false, false, false, false] rfl rfl (any_of HT_.out (by kernel_rfl)) (fun _ _ _ h => h) (Or.inl ⟨by rfl, ?_⟩) ?_ ?_
                                                        rotate_left
                                                        · intro w'
                                                          go_simp
                                                          with_reducible rfl
                                                        rotate_left
                                                        · simp only [Act.put, List.setIfInBounds_toArray, List.set_cons_zero, List.set_cons_succ, i64_w, i32_w]
                                                          rfl
                                                        refine pure_ (i := 5) (N := some 87) (v := ?_) (a' := ?_) #[false, true, true, true, false, true, false, false, false, false, false] rfl rfl (any_of HT_.out (by kernel_rfl)) (fun _ _ _ h => h) (Or.inl ⟨by rfl, ?_⟩) ?_ ?_
                                                        rotate_left
                                                        · intro w'
                                                          go_simp
                                                          with_reducible rfl
                                                        rotate_left
                                                        · simp only [Act.put, List.setIfInBounds_toArray, List.set_cons_zero, List.set_cons_succ, i64_w, i32_w]
                                                          rfl
                                                        refine pure_ (i := 6) (N := some 88) (v := ?_) (a' := ?_) #[false, true, true, true, false, true, true, false, false, false, false] rfl rfl (any_of HT_.out (by kernel_rfl)) (fun _ _ _ h => h) (Or.inl ⟨by rfl, ?_⟩) ?_ ?_
                                                        rotate_left
                                                        · intro w'
                                                          go_simp
                                                          with_reducible rfl
                                                        rotate_left
                                                        · simp only [Act.put, List.setIfInBounds_toArray, List.set_cons_zero, List.set_cons_succ, i64_w, i32_w]
                                                          rfl
                                                        refine pure_ (i := 7) (N := some 89) (v := ?_) (a' := ?_) #[false, true, true, true, false, true, true, true, false, false, false] rfl rfl (any_of HT_.out (by kernel_rfl)) (fun _ _ _ h => h) (Or.inl ⟨by rfl, ?_⟩) ?_ ?_
                                                        rotate_left
                                                        · intro w'
                                                          go_simp
                                                          with_reducible rfl
                                                        rotate_left
                                                        · simp only [Act.put, List.setIfInBounds_toArray, List.set_cons_zero, List.set_cons_succ, i64_w, i32_w]
                                                          rfl
                                                        refine pure_ (i := 8) (N := some 90) (v := ?_) (a' := ?_) #[false, true, true, true, false, true, true, true, true, false, false] rfl rfl (any_of HT_.out (by kernel_rfl)) (fun _ _ _ h => h) (Or.inl ⟨by rfl, ?_⟩) ?_ ?_
                                                        rotate_left
                                                        · intro w'
                                                          go_simp
                                                          with_reducible rfl
                                                        rotate_left
                                                        · simp only [Act.put, List.setIfInBounds_toArray, List.set_cons_zero, List.set_cons_succ, i64_w, i32_w]
                                                          rfl
                                                        refine one_ (i := 0) (N := some 82) #[true, true, true, true, false, true, true, true, true, false, false] rfl rfl (one_of HT_.out (by kernel_rfl)) (by decide) (fun K hK => ?_)
                                                        refine Kd.R_lit_step k34 _ 34 ?hg (N := 82) ?hd (xs := ([] : List (S34))) (inner := []) (ok := fun _ => True) (okp := fun _ => True) ?hr ?hp (fun _ hk => hk) trivial (Below.refl _ _) (Nat.le_refl _) (by simp) ?_; (case hd => rfl); (case hg => rfl); (case hr => first | (go_simp; done) | (go_simp; rfl)); (case hp => exact (Reps.none _ _))
                                                        intro v242 w54 ho55 hb hg_ hnew_
                                                        clear hg_ hnew_
                                                        (first | rw [← Ny241.out] at ho55 | (simp only [Int.reduceToNat] at ho55; rw [← Ny241.out] at ho55))
                                                        have n0_ := Aside0.mk (Kd.R_elder' (by (with_reducible repeat (first | apply Kd.R_alloc | apply Kd.R_drewN | apply Kd.R_drew)); exact HO_3.out) (Kd.R_base ho55) hb)
                                                        have n1_ := Aside0.mk (Kd.R_below (by (with_reducible repeat (first | apply Kd.R_alloc | apply Kd.R_drewN | apply Kd.R_drew)); exact HO_4.out) hb)
                                                        have n2_ := Aside0.mk (Kd.R_below (by (with_reducible repeat (first | apply Kd.R_alloc | apply Kd.R_drewN | apply Kd.R_drew)); exact HO_6.out) hb)
                                                        have n3_ := Aside0.mk (Kd.R_below (by (with_reducible repeat (first | apply Kd.R_alloc | apply Kd.R_drewN | apply Kd.R_drew)); exact HO_68.out) hb)
                                                        have n4_ := Aside0.mk (Kd.R_lower (Kd.R_new' ho55 (Kd.R_lt (by (with_reducible repeat (first | apply Kd.R_alloc | apply Kd.R_drewN | apply Kd.R_drew)); exact HO_3.out))) (below_size (by repeat (first | (with_reducible first | exact HB.out | apply below_alloc | apply pw_below_drewN | apply below_drew1) | exact HB.out))))
                                                        have n5_ := Aside0.mk (Kd.C_below (by repeat (first | (with_reducible exact HR247.out) | (with_reducible refine Kd.C_alloc ?_ _) | (with_reducible refine Kd.C_drewN ?_ _) | (with_reducible refine Kd.C_drew ?_) | exact HR247.out)) hb)
                                                        have n6_ := Aside0.mk (Kd.C_below (by repeat (first | (with_reducible exact HR254.out) | (with_reducible refine Kd.C_alloc ?_ _) | (with_reducible refine Kd.C_drewN ?_ _) | (with_reducible refine Kd.C_drew ?_) | exact HR254.out)) hb)
                                                        have n7_ := Aside0.mk (below_step (by repeat (first | (with_reducible first | exact HB.out | apply below_alloc | apply pw_below_drewN | apply below_drew1) | exact HB.out)) hb)
                                                        clear HO_3
                                                        clear HO_4
                                                        clear HO_6
                                                        clear HO_68
                                                        clear HR247
                                                        clear HR254
                                                        clear HB
                                                        have HO_3 := n0_
                                                        have HO_4 := n1_
                                                        have HO_6 := n2_
                                                        have HO_68 := n3_
                                                        have HO243 := n4_
                                                        have HR247 := n5_
                                                        have HR254 := n6_
                                                        have HB := n7_
                                                        clear n0_ n1_ n2_ n3_ n4_ n5_ n6_ n7_
                                                        clear hb ho55
                                                        refine hK.out _ _ trivial (fun hHeld => ?_)
                                                        clear hK K
                                                        refine norm_ (a' := ?_) ?_ ?_
                                                        rotate_left
                                                        · show Act.put _ (some 82) _ = _
                                                          simp only [Act.put, List.setIfInBounds_toArray, List.set_cons_zero, List.set_cons_succ, i64_w, i32_w]
                                                          rfl
                                                        refine one_ (i := 4) (N := some 86) #[true, true, true, true, true, true, true, true, true, false, false] rfl rfl (one_of HT_.out (by kernel_rfl)) (by decide) (fun K hK => ?_)
                                                        refine Kd.R_append_rows_step k34 (w0 := w) w.heap.size (by rfl) (.tmp 82) (.tmp 85) 40 34 (.agg #[(.string ⟨#[]⟩), (.int .i64 0), (.int .i64 0)]) 32 rfl Try.underlying40 info34 rfl (by decide) (by omega) v242 y241 y244 _ _ _ (fun k_ => some k_ ≠ (.slice Ao11 t221.length co11 : Value).ownBlock) (fun _ => False) rfl rfl ?aO ?aR (fun _ _ h => h) (fun _ h => h.elim) ?aF ?aB ?aS ?aL ?_
                                                        (case aR => repeat (first | exact (by repeat (first | (with_reducible exact HR247.out) | (with_reducible refine Kd.C_alloc ?_ _) | (with_reducible refine Kd.C_drewN ?_ _) | (with_reducible refine Kd.C_drew ?_) | exact HR247.out)) | (with_reducible refine Kd.C_alloc ?_ _) | (with_reducible refine Kd.C_drewN ?_ _) | (with_reducible refine Kd.C_drew ?_)))
                                                        (case aB => exact (by repeat (first | (with_reducible first | exact HB.out | apply below_alloc | apply pw_below_drewN | apply below_drew1) | exact HB.out)))
                                                        (case aF => exact (fun k_ hk => Kd.fresh' (Kd.R_lt (by (with_reducible repeat (first | apply Kd.R_alloc | apply Kd.R_drewN | apply Kd.R_drew)); exact HO_3.out)) k_ hk))
                                                        (case aO => exact (by (with_reducible repeat (first | apply Kd.R_alloc | apply Kd.R_drewN | apply Kd.R_drew)); exact Kd.R_mono HO243.out (fun _ hk => hk.2)))
                                                        (case aS => exact (below_size (by repeat (first | (with_reducible first | exact HB.out | apply below_alloc | apply pw_below_drewN | apply below_drew1) | exact HB.out))))
                                                        (case aL => have := LMc41.out; omega)
                                                        intro v249 w56 ho hb hg hat
                                                        rw [← Ny248.out] at ho
                                                        have n0_ := Aside0.mk (Kd.R_after (ok := (fun _ => True)) (by (with_reducible repeat (first | apply Kd.R_alloc | apply Kd.R_drewN | apply Kd.R_drew)); exact HO_3.out) hg hat)
                                                        have n1_ := Aside0.mk (Kd.R_over' (by (with_reducible repeat (first | apply Kd.R_alloc | apply Kd.R_drewN | apply Kd.R_drew)); exact HO_4.out) (Kd.R_typed (by (with_reducible repeat (first | apply Kd.R_alloc | apply Kd.R_drewN | apply Kd.R_drew)); exact HO243.out)) (by decide) hg)
                                                        have n2_ := Aside0.mk (Kd.R_over' (by (with_reducible repeat (first | apply Kd.R_alloc | apply Kd.R_drewN | apply Kd.R_drew)); exact HO_6.out) (Kd.R_typed (by (with_reducible repeat (first | apply Kd.R_alloc | apply Kd.R_drewN | apply Kd.R_drew)); exact HO243.out)) (by decide) hg)
                                                        have n3_ := Aside0.mk (Kd.R_over' (by (with_reducible repeat (first | apply Kd.R_alloc | apply Kd.R_drewN | apply Kd.R_drew)); exact HO_68.out) (Kd.R_typed (by (with_reducible repeat (first | apply Kd.R_alloc | apply Kd.R_drewN | apply Kd.R_drew)); exact HO243.out)) (by decide) hg)
                                                        have n4_ := Aside0.mk (hb)
                                                        have n5_ := Aside0.mk ((show Kd.C k34 w56 Ao11 y244.length y244 from by rw [Ny244.out]; exact Kd.C_take (m := ((rd t237 x70_3) : Int).toNat) ((Kd.R_reads' (Kd.R_after (ok := (fun _ => True)) (by (with_reducible repeat (first | apply Kd.R_alloc | apply Kd.R_drewN | apply Kd.R_drew)); exact HO_3.out) hg hat)).2.2) KL52.out))
                                                        have n6_ := Aside0.mk ((show Kd.C k34 w56 A53 y251.length y251 from by rw [Ny251.out, KA53.out]; exact Kd.C_drop (m := ((ji42) : Int).toNat) (c := co11) ((Kd.R_reads' (Kd.R_after (ok := (fun _ => True)) (by (with_reducible repeat (first | apply Kd.R_alloc | apply Kd.R_drewN | apply Kd.R_drew)); exact HO_3.out) hg hat)).2.2) KL53.out ((Kd.R_reads' (Kd.R_after (ok := (fun _ => True)) (by (with_reducible repeat (first | apply Kd.R_alloc | apply Kd.R_drewN | apply Kd.R_drew)); exact HO_3.out) hg hat)).2.1)))
                                                        have n7_ := Aside0.mk (ho)
                                                        clear HO_3
                                                        clear HO_4
                                                        clear HO_6
                                                        clear HO_68
                                                        clear HB
                                                        clear HR247
                                                        clear HR254
                                                        clear HO243
                                                        have HO_3 := n0_
                                                        have HO_4 := n1_
                                                        have HO_6 := n2_
                                                        have HO_68 := n3_
                                                        have HB := n4_
                                                        have HR247 := n5_
                                                        have HR254 := n6_
                                                        have HO250 := n7_
                                                        clear n0_ n1_ n2_ n3_ n4_ n5_ n6_ n7_
                                                        clear ho hb hg hat
                                                        refine hK.out _ _ trivial (fun hHeld => ?_)
                                                        clear hK K
                                                        refine norm_ (a' := ?_) ?_ ?_
                                                        rotate_left
                                                        · show Act.put _ (some 86) _ = _
                                                          simp only [Act.put, List.setIfInBounds_toArray, List.set_cons_zero, List.set_cons_succ, i64_w, i32_w]
                                                          rfl
                                                        refine one_ (i := 9) (N := some 91) #[true, true, true, true, true, true, true, true, true, true, false] rfl rfl (one_of HT_.out (by kernel_rfl)) (by decide) (fun K hK => ?_)
                                                        refine Kd.R_append_rows_step k34 (w0 := w) w.heap.size (by rfl) (.tmp 86) (.tmp 90) 40 34 (.agg #[(.string ⟨#[]⟩), (.int .i64 0), (.int .i64 0)]) 32 rfl Try.underlying40 info34 rfl (by decide) (by omega) v249 y248 y251 _ _ _ (fun k_ => some k_ ≠ (.slice Ao11 t221.length co11 : Value).ownBlock) (fun _ => False) rfl rfl ?aO ?aR (fun _ _ h => h) (fun _ h => h.elim) ?aF ?aB ?aS ?aL ?_
                                                        (case aR => repeat (first | exact (by repeat (first | (with_reducible exact HR254.out) | (with_reducible refine Kd.C_alloc ?_ _) | (with_reducible refine Kd.C_drewN ?_ _) | (with_reducible refine Kd.C_drew ?_) | exact HR254.out)) | (with_reducible refine Kd.C_alloc ?_ _) | (with_reducible refine Kd.C_drewN ?_ _) | (with_reducible refine Kd.C_drew ?_)))
                                                        (case aB => exact (by repeat (first | (with_reducible first | exact HB.out | apply below_alloc | apply pw_below_drewN | apply below_drew1) | exact HB.out)))
                                                        (case aF => exact (fun k_ hk => Kd.fresh' (Kd.R_lt (by (with_reducible repeat (first | apply Kd.R_alloc | apply Kd.R_drewN | apply Kd.R_drew)); exact HO_3.out)) k_ hk))
                                                        (case aO => exact (by (with_reducible repeat (first | apply Kd.R_alloc | apply Kd.R_drewN | apply Kd.R_drew)); exact HO250.out))
                                                        (case aS => exact (below_size (by repeat (first | (with_reducible first | exact HB.out | apply below_alloc | apply pw_below_drewN | apply below_drew1) | exact HB.out))))
                                                        (case aL => have := LMc45.out; omega)
                                                        intro v256 w57 ho hb hg hat
                                                        rw [← Ny255.out] at ho
                                                        have n0_ := Aside0.mk (Kd.R_after (ok := (fun _ => True)) (by (with_reducible repeat (first | apply Kd.R_alloc | apply Kd.R_drewN | apply Kd.R_drew)); exact HO_3.out) hg hat)
                                                        have n1_ := Aside0.mk (Kd.R_over' (by (with_reducible repeat (first | apply Kd.R_alloc | apply Kd.R_drewN | apply Kd.R_drew)); exact HO_4.out) (Kd.R_typed (by (with_reducible repeat (first | apply Kd.R_alloc | apply Kd.R_drewN | apply Kd.R_drew)); exact HO250.out)) (by decide) hg)
                                                        have n2_ := Aside0.mk (Kd.R_over' (by (with_reducible repeat (first | apply Kd.R_alloc | apply Kd.R_drewN | apply Kd.R_drew)); exact HO_6.out) (Kd.R_typed (by (with_reducible repeat (first | apply Kd.R_alloc | apply Kd.R_drewN | apply Kd.R_drew)); exact HO250.out)) (by decide) hg)
                                                        have n3_ := Aside0.mk (Kd.R_over' (by (with_reducible repeat (first | apply Kd.R_alloc | apply Kd.R_drewN | apply Kd.R_drew)); exact HO_68.out) (Kd.R_typed (by (with_reducible repeat (first | apply Kd.R_alloc | apply Kd.R_drewN | apply Kd.R_drew)); exact HO250.out)) (by decide) hg)
                                                        have n4_ := Aside0.mk (hb)
                                                        have n5_ := Aside0.mk ((show Kd.C k34 w57 Ao11 y244.length y244 from by rw [Ny244.out]; exact Kd.C_take (m := ((rd t237 x70_3) : Int).toNat) ((Kd.R_reads' (Kd.R_after (ok := (fun _ => True)) (by (with_reducible repeat (first | apply Kd.R_alloc | apply Kd.R_drewN | apply Kd.R_drew)); exact HO_3.out) hg hat)).2.2) KL52.out))
                                                        have n6_ := Aside0.mk ((show Kd.C k34 w57 A53 y251.length y251 from by rw [Ny251.out, KA53.out]; exact Kd.C_drop (m := ((ji42) : Int).toNat) (c := co11) ((Kd.R_reads' (Kd.R_after (ok := (fun _ => True)) (by (with_reducible repeat (first | apply Kd.R_alloc | apply Kd.R_drewN | apply Kd.R_drew)); exact HO_3.out) hg hat)).2.2) KL53.out ((Kd.R_reads' (Kd.R_after (ok := (fun _ => True)) (by (with_reducible repeat (first | apply Kd.R_alloc | apply Kd.R_drewN | apply Kd.R_drew)); exact HO_3.out) hg hat)).2.1)))
                                                        have n7_ := Aside0.mk (ho)
                                                        clear HO_3
                                                        clear HO_4
                                                        clear HO_6
                                                        clear HO_68
                                                        clear HB
                                                        clear HR247
                                                        clear HR254
                                                        clear HO250
                                                        have HO_3 := n0_
                                                        have HO_4 := n1_
                                                        have HO_6 := n2_
                                                        have HO_68 := n3_
                                                        have HB := n4_
                                                        have HR247 := n5_
                                                        have HR254 := n6_
                                                        have HO257 := n7_
                                                        clear n0_ n1_ n2_ n3_ n4_ n5_ n6_ n7_
                                                        clear ho hb hg hat
                                                        refine hK.out _ _ trivial (fun hHeld => ?_)
                                                        clear hK K
                                                        refine norm_ (a' := ?_) ?_ ?_
                                                        rotate_left
                                                        · show Act.put _ (some 91) _ = _
                                                          simp only [Act.put, List.setIfInBounds_toArray, List.set_cons_zero, List.set_cons_succ, i64_w, i32_w]
                                                          rfl
                                                        refine pure_ (i := 10) (N := some 10) (v := ?_) (a' := ?_) #[true, true, true, true, true, true, true, true, true, true, true] rfl rfl (any_of HT_.out (by kernel_rfl)) (fun _ _ _ h => h) (Or.inl ⟨by rfl, ?_⟩) ?_ ?_
                                                        rotate_left
                                                        · intro w'
                                                          go_simp
                                                          with_reducible rfl
                                                        rotate_left
                                                        · simp only [Act.put, List.setIfInBounds_toArray, List.set_cons_zero, List.set_cons_succ, i64_w, i32_w]
                                                          rfl
                                                        refine done_ (done_of HT_.out (by kernel_rfl)) ?_
                                                        obtain ⟨Ao58, co58, eo58⟩ := Kd.R_slice HO_6.out
                                                        subst eo58
                                                        have p258 : 0 ≤ (0 : Int) := (by omega)
                                                        have q258 : 0 < (t229.length : Int) := of_decide_eq_true (by first | (with_reducible assumption) | assumption)
                                                        obtain ⟨ad258, e258, hx258_0⟩ := Kd.at_int (Kd.R_reads' HO_6.out).2.2 0 p258 q258
                                                        cases e258
                                                        have qi258 : (0 < t229.length) = True := eq_true (by omega)
                                                        (try rw [show ((0 : Int)).toNat = 0 from rfl] at hx258_0)
                                                        (try rw [Addr.add_zero'] at hx258_0)
                                                        replace p258 := eq_true p258
                                                        replace q258 := eq_true q258
                                                        have q59 : (1 : Int) ≤ ((t225.length : Int) : Int) := of_decide_eq_true (by first | (with_reducible assumption) | assumption)
                                                        obtain ⟨i059, hi059, _, hsz59, _⟩ := info_parts info3
                                                        have hroom59 : t225.length ≤ co15 := (Kd.R_reads' HO_4.out).2.1
                                                        have hC59 : Kd.C (Kd.int .i64) _ (some ad236) t225.length t225 := (Kd.R_reads' HO_4.out).2.2
                                                        have hcut59 := cut_from (P := Try.prog) 46 3 .i64 Try.underlying46 hi059 1 hsz59 (some ad236) t225.length co15 1 (by omega) q59
                                                        have hr59 := Kd.C_drop (m := (1 : Int).toNat) (c := co15) hC59 (by omega) hroom59
                                                        obtain ⟨A59, hA59⟩ : ∃ A1, A1 = (if co15 = (1 : Int).toNat then (some ad236) else ((some ad236) : Option Addr).map (·.add ((1 : Int).toNat * 1))) := ⟨_, rfl⟩
                                                        obtain ⟨c59, hc59⟩ : ∃ c1, c1 = co15 - (1 : Int).toNat := ⟨_, rfl⟩
                                                        have hy59 : y259.length = t225.length - (1 : Int).toNat := (by rw [Ny259.out, List.length_drop] <;> omega)
                                                        rw [show (t225).drop (1 : Int).toNat = y259 from Ny259.out.symm] at hr59
                                                        replace hr59 : Kd.C (Kd.int .i64) _ A59 y259.length y259 := (by rw [hA59]; exact hr59)
                                                        rw [← hy59, ← hA59, ← hc59] at hcut59
                                                        have HR262 := Aside0.mk hr59
                                                        have HC262 := Aside0.mk (show y259.length ≤ c59 from by rw [hy59, hc59]; exact Nat.sub_le_sub_right hroom59 _)
                                                        clear hr59 hC59 hroom59 hi059 hsz59 hc59
                                                        have KY59 := Aside0.mk hy59
                                                        have KA59 := Aside0.mk hA59
                                                        clear hy59 hA59
                                                        have KL59 := Aside0.mk (show 1 ≤ t225.length from by omega)
                                                        replace q59 := eq_true q59
                                                        obtain ⟨Ao60, co60, eo60⟩ := Kd.R_slice HO257.out
                                                        subst eo60
                                                        try go_wp2_with (first | (go_at_call 27; (with_reducible refine (impl_CanEquip.calls kj35 _ _ y255 _ _ y259 (Int.tmod t228 5) true _ ?side1 ?side2 ?side3 ?side4 A49.out).mono ?_); (case side1 => repeat (first | exact (Kd.R_reads' HO257.out).2.2 | (with_reducible refine Kd.C_alloc ?_ _) | (with_reducible refine Kd.C_drewN ?_ _) | (with_reducible refine Kd.C_drew ?_))); (case side2 => exact (Kd.R_reads' HO257.out).2.1); (case side3 => repeat (first | exact (by repeat (first | (with_reducible exact HR262.out) | (with_reducible refine Kd.C_alloc ?_ _) | (with_reducible refine Kd.C_drewN ?_ _) | (with_reducible refine Kd.C_drew ?_) | exact HR262.out)) | (with_reducible refine Kd.C_alloc ?_ _) | (with_reducible refine Kd.C_drewN ?_ _) | (with_reducible refine Kd.C_drew ?_))); (case side4 => exact HC262.out); rintro e w61 ⟨rfl, hb⟩; have n0_ := Aside0.mk (Kd.R_below (by (with_reducible repeat (first | apply Kd.R_alloc | apply Kd.R_drewN | apply Kd.R_drew)); exact HO_3.out) hb); have n1_ := Aside0.mk (Kd.R_below (by (with_reducible repeat (first | apply Kd.R_alloc | apply Kd.R_drewN | apply Kd.R_drew)); exact HO_4.out) hb); have n2_ := Aside0.mk (Kd.R_below (by (with_reducible repeat (first | apply Kd.R_alloc | apply Kd.R_drewN | apply Kd.R_drew)); exact HO_6.out) hb); have n3_ := Aside0.mk (Kd.R_below (by (with_reducible repeat (first | apply Kd.R_alloc | apply Kd.R_drewN | apply Kd.R_drew)); exact HO_68.out) hb); have n4_ := Aside0.mk (Kd.R_below (by (with_reducible repeat (first | apply Kd.R_alloc | apply Kd.R_drewN | apply Kd.R_drew)); exact HO257.out) hb); have n5_ := Aside0.mk (Kd.C_below (by repeat (first | (with_reducible exact HR247.out) | (with_reducible refine Kd.C_alloc ?_ _) | (with_reducible refine Kd.C_drewN ?_ _) | (with_reducible refine Kd.C_drew ?_) | exact HR247.out)) hb); have n6_ := Aside0.mk (Kd.C_below (by repeat (first | (with_reducible exact HR254.out) | (with_reducible refine Kd.C_alloc ?_ _) | (with_reducible refine Kd.C_drewN ?_ _) | (with_reducible refine Kd.C_drew ?_) | exact HR254.out)) hb); have n7_ := Aside0.mk (Kd.C_below (by repeat (first | (with_reducible exact HR262.out) | (with_reducible refine Kd.C_alloc ?_ _) | (with_reducible refine Kd.C_drewN ?_ _) | (with_reducible refine Kd.C_drew ?_) | exact HR262.out)) hb); have n8_ := Aside0.mk (below_step (by repeat (first | (with_reducible first | exact HB.out | apply below_alloc | apply pw_below_drewN | apply below_drew1) | exact HB.out)) hb); clear HO_3; clear HO_4; clear HO_6; clear HO_68; clear HO257; clear HR247; clear HR254; clear HR262; clear HB; have HO_3 := n0_; have HO_4 := n1_; have HO_6 := n2_; have HO_68 := n3_; have HO257 := n4_; have HR247 := n5_; have HR254 := n6_; have HR262 := n7_; have HB := n8_; clear n0_ n1_ n2_ n3_ n4_ n5_ n6_ n7_ n8_; (try clear hb); (try clear hb2); (try clear hk); (try clear hi)))
                                                        go_ret
                                                        exact ⟨by first | rfl | (simp [errW_none, errW_some] <;> rfl) | (simp only [← hji42]; first | rfl | (simp [errW_none, errW_some] <;> rfl)) | (simp [*, errW_none, errW_some] <;> rfl), by repeat (first | (with_reducible first | exact HB.out | apply below_alloc | apply pw_below_drewN | apply below_drew1) | exact HB.out)⟩
                                                      · replace c50 := Bool.eq_false_iff.mpr c50
                                                        subst c50
                                                        have H1 : (laws_FnFirstChoice.l0 kj35 t221 t225 (Int.tmod t228 5) t229 t237 (t237.length : Int) (wrap64 (x70_3 + 1))) = some r := by rw [if_neg (show ¬ (false = true) by decide)] at H; exact H
                                                        clear H
                                                        have H := H1
                                                        clear H1
                                                        have H' := Aside0.mk H
                                                        clear H
                                                        try go_wp2
                                                        have n0_ := Aside0.mk (Kd.R_drew HO_3.out)
                                                        have n1_ := Aside0.mk (Kd.R_drew HO_4.out)
                                                        have n2_ := Aside0.mk (Kd.R_drew HO_6.out)
                                                        have n3_ := Aside0.mk (Kd.R_drew HO_68.out)
                                                        have n4_ := Aside0.mk (below_drew1 HB.out)
                                                        clear HO_3
                                                        clear HO_4
                                                        clear HO_6
                                                        clear HO_68
                                                        clear HB
                                                        have HO_3 := n0_
                                                        have HO_4 := n1_
                                                        have HO_6 := n2_
                                                        have HO_68 := n3_
                                                        have HB := n4_
                                                        clear n0_ n1_ n2_ n3_ n4_
                                                        have q63 : ((rd t237 x70_3) : Int) ≤ ((t221.length : Int) : Int) := of_decide_eq_true (by first | (with_reducible assumption) | assumption)
                                                        obtain ⟨i063, hi063, _, hsz63, _⟩ := info_parts info34
                                                        have hroom63 : t221.length ≤ co11 := (Kd.R_reads' HO_3.out).2.1
                                                        have hC63 : Kd.C k34 _ Ao11 t221.length t221 := (Kd.R_reads' HO_3.out).2.2
                                                        have hcut63 := cut_to (P := Try.prog) 40 34 .i64 Try.underlying40 hi063 Ao11 t221.length co11 (rd t237 x70_3) (of_decide_eq_true (by first | (with_reducible assumption) | assumption)) q63 hroom63
                                                        have hr63 := Kd.C_take (m := ((rd t237 x70_3) : Int).toNat) hC63 (by omega)
                                                        have hy63 : y244.length = ((rd t237 x70_3) : Int).toNat := (by rw [Ny244.out, List.length_take]; omega)
                                                        rw [← Ny244.out] at hr63
                                                        rw [← hy63] at hcut63
                                                        have HR247 := Aside0.mk hr63
                                                        have HC247 := Aside0.mk (show y244.length ≤ co11 from by omega)
                                                        clear hr63 hC63 hroom63 hi063 hsz63
                                                        have KY63 := Aside0.mk hy63
                                                        clear hy63
                                                        have KL63 := Aside0.mk (show ((rd t237 x70_3) : Int).toNat ≤ t221.length from by omega)
                                                        replace q63 := eq_true q63
                                                        have q64 : ((ji42) : Int) ≤ ((t221.length : Int) : Int) := of_decide_eq_true (by first | (with_reducible assumption) | assumption)
                                                        obtain ⟨i064, hi064, _, hsz64, _⟩ := info_parts info34
                                                        have hroom64 : t221.length ≤ co11 := (Kd.R_reads' HO_3.out).2.1
                                                        have hC64 : Kd.C k34 _ Ao11 t221.length t221 := (Kd.R_reads' HO_3.out).2.2
                                                        have q064 : (0 : Int) ≤ ((ji42) : Int) := of_decide_eq_true (by first | (with_reducible assumption) | assumption)
                                                        have hcut64 := cut_from (P := Try.prog) 40 34 .i64 Try.underlying40 hi064 3 hsz64 Ao11 t221.length co11 (ji42) q064 q64
                                                        have hr64 := Kd.C_drop (m := ((ji42) : Int).toNat) (c := co11) hC64 (by omega) hroom64
                                                        obtain ⟨A64, hA64⟩ : ∃ A1, A1 = (if co11 = ((ji42) : Int).toNat then Ao11 else (Ao11 : Option Addr).map (·.add (((ji42) : Int).toNat * 3))) := ⟨_, rfl⟩
                                                        obtain ⟨c64, hc64⟩ : ∃ c1, c1 = co11 - ((ji42) : Int).toNat := ⟨_, rfl⟩
                                                        have hy64 : y251.length = t221.length - ((ji42) : Int).toNat := (by rw [Ny251.out, List.length_drop] <;> omega)
                                                        rw [show (t221).drop ((ji42) : Int).toNat = y251 from Ny251.out.symm] at hr64
                                                        replace hr64 : Kd.C k34 _ A64 y251.length y251 := (by rw [hA64]; exact hr64)
                                                        rw [← hy64, ← hA64, ← hc64] at hcut64
                                                        have HR254 := Aside0.mk hr64
                                                        have HC254 := Aside0.mk (show y251.length ≤ c64 from by rw [hy64, hc64]; exact Nat.sub_le_sub_right hroom64 _)
                                                        clear hr64 hC64 hroom64 hi064 hsz64 hc64
                                                        have KY64 := Aside0.mk hy64
                                                        have KA64 := Aside0.mk hA64
                                                        clear hy64 hA64
                                                        have KL64 := Aside0.mk (show ((ji42) : Int).toNat ≤ t221.length from by omega)
                                                        replace q64 := eq_true q64
                                                        refine start_ (n := 11) (S := fun w' => True) (ds := []) #[false, false, false, false, false, false, false, false, false, false, false] (by kernel_rfl) rfl rfl trivial (fun hHeld => ?_); refine with_tabW laws_FnFirstChoice.tab18 laws_FnFirstChoice.bits18 (fun HT_ HW_ => ?_)
                                                        generalize wc.drew = w62 at HO_3 HO_4 HO_6 HO_68 HB HR247 HR254 hHeld ⊢
                                                        refine pure_ (i := 1) (N := some 83) (v := ?_) (a' := ?_) #[false, true, false, false, false, false, false, false, false, false, false] rfl rfl (any_of HT_.out (by kernel_rfl)) (fun _ _ _ h => h) (Or.inl ⟨by rfl, ?_⟩) ?_ ?_
                                                        rotate_left
                                                        · intro w'
                                                          go_simp
                                                          with_reducible rfl
                                                        rotate_left
                                                        · simp only [Act.put, List.setIfInBounds_toArray, List.set_cons_zero, List.set_cons_succ, i64_w, i32_w]
                                                          rfl
                                                        refine pure_ (i := 2) (N := some 84) (v := ?_) (a' := ?_) #[false, true, true, false, false, false, false, false, false, false, false] rfl rfl (any_of HT_.out (by kernel_rfl)) (fun _ _ _ h => h) (Or.inl ⟨by rfl, ?_⟩) ?_ ?_
                                                        rotate_left
                                                        · intro w'
                                                          go_simp
                                                          with_reducible rfl
                                                        rotate_left
                                                        · simp only [Act.put, List.setIfInBounds_toArray, List.set_cons_zero, List.set_cons_succ, i64_w, i32_w]
                                                          rfl
                                                        refine pure_ (i := 3) (N := some 85) (v := ?_) (a' := ?_) #[false, true, true, true, false, false, false, false, false, false, false] rfl rfl (any_of HT_.out (by kernel_rfl)) (fun _ _ _ h => h) (Or.inl ⟨by rfl, ?_⟩) ?_ ?_
                                                        rotate_left
                                                        · intro w'
                                                          go_simp
                                                          with_reducible rfl
                                                        rotate_left
                                                        · simp only [Act.put, List.setIfInBounds_toArray, List.set_cons_zero, List.set_cons_succ, i64_w, i32_w]
                                                          rfl
                                                        refine pure_ (i := 5) (N := some 87) (v := ?_) (a' := ?_) #[false, true, true, true, false, true, false, false, false, false, false] rfl rfl (any_of HT_.out (by kernel_rfl)) (fun _ _ _ h => h) (Or.inl ⟨by rfl, ?_⟩) ?_ ?_
                                                        rotate_left
                                                        · intro w'
                                                          go_simp
                                                          with_reducible rfl
                                                        rotate_left
                                                        · simp only [Act.put, List.setIfInBounds_toArray, List.set_cons_zero, List.set_cons_succ, i64_w, i32_w]
                                                          rfl
                                                        refine pure_ (i := 6) (N := some 88) (v := ?_) (a' := ?_) #[false, true, true, true, false, true, true, false, false, false, false] rfl rfl (any_of HT_.out (by kernel_rfl)) (fun _ _ _ h => h) (Or.inl ⟨by rfl, ?_⟩) ?_ ?_
                                                        rotate_left
                                                        · intro w'
                                                          go_simp
                                                          with_reducible rfl
                                                        rotate_left
                                                        · simp only [Act.put, List.setIfInBounds_toArray, List.set_cons_zero, List.set_cons_succ, i64_w, i32_w]
                                                          rfl
                                                        refine pure_ (i := 7) (N := some 89) (v := ?_) (a' := ?_) #[false, true, true, true, false, true, true, true, false, false, false] rfl rfl (any_of HT_.out (by kernel_rfl)) (fun _ _ _ h => h) (Or.inl ⟨by rfl, ?_⟩) ?_ ?_
                                                        rotate_left
                                                        · intro w'
                                                          go_simp
                                                          with_reducible rfl
                                                        rotate_left
                                                        · simp only [Act.put, List.setIfInBounds_toArray, List.set_cons_zero, List.set_cons_succ, i64_w, i32_w]
                                                          rfl
                                                        refine pure_ (i := 8) (N := some 90) (v := ?_) (a' := ?_) #[false, true, true, true, false, true, true, true, true, false, false] rfl rfl (any_of HT_.out (by kernel_rfl)) (fun _ _ _ h => h) (Or.inl ⟨by rfl, ?_⟩) ?_ ?_
                                                        rotate_left
                                                        · intro w'
                                                          go_simp
                                                          with_reducible rfl
                                                        rotate_left
                                                        · simp only [Act.put, List.setIfInBounds_toArray, List.set_cons_zero, List.set_cons_succ, i64_w, i32_w]
                                                          rfl
                                                        refine one_ (i := 0) (N := some 82) #[true, true, true, true, false, true, true, true, true, false, false] rfl rfl (one_of HT_.out (by kernel_rfl)) (by decide) (fun K hK => ?_)
                                                        refine Kd.R_lit_step k34 _ 34 ?hg (N := 82) ?hd (xs := ([] : List (S34))) (inner := []) (ok := fun _ => True) (okp := fun _ => True) ?hr ?hp (fun _ hk => hk) trivial (Below.refl _ _) (Nat.le_refl _) (by simp) ?_; (case hd => rfl); (case hg => rfl); (case hr => first | (go_simp; done) | (go_simp; rfl)); (case hp => exact (Reps.none _ _))
                                                        intro v242 w65 ho66 hb hg_ hnew_
                                                        clear hg_ hnew_
                                                        (first | rw [← Ny241.out] at ho66 | (simp only [Int.reduceToNat] at ho66; rw [← Ny241.out] at ho66))
                                                        have n0_ := Aside0.mk (Kd.R_elder' (by (with_reducible repeat (first | apply Kd.R_alloc | apply Kd.R_drewN | apply Kd.R_drew)); exact HO_3.out) (Kd.R_base ho66) hb)
                                                        have n1_ := Aside0.mk (Kd.R_below (by (with_reducible repeat (first | apply Kd.R_alloc | apply Kd.R_drewN | apply Kd.R_drew)); exact HO_4.out) hb)
                                                        have n2_ := Aside0.mk (Kd.R_below (by (with_reducible repeat (first | apply Kd.R_alloc | apply Kd.R_drewN | apply Kd.R_drew)); exact HO_6.out) hb)
                                                        have n3_ := Aside0.mk (Kd.R_below (by (with_reducible repeat (first | apply Kd.R_alloc | apply Kd.R_drewN | apply Kd.R_drew)); exact HO_68.out) hb)
                                                        have n4_ := Aside0.mk (Kd.R_lower (Kd.R_new' ho66 (Kd.R_lt (by (with_reducible repeat (first | apply Kd.R_alloc | apply Kd.R_drewN | apply Kd.R_drew)); exact HO_3.out))) (below_size (by repeat (first | (with_reducible first | exact HB.out | apply below_alloc | apply pw_below_drewN | apply below_drew1) | exact HB.out))))
                                                        have n5_ := Aside0.mk (Kd.C_below (by repeat (first | (with_reducible exact HR247.out) | (with_reducible refine Kd.C_alloc ?_ _) | (with_reducible refine Kd.C_drewN ?_ _) | (with_reducible refine Kd.C_drew ?_) | exact HR247.out)) hb)
                                                        have n6_ := Aside0.mk (Kd.C_below (by repeat (first | (with_reducible exact HR254.out) | (with_reducible refine Kd.C_alloc ?_ _) | (with_reducible refine Kd.C_drewN ?_ _) | (with_reducible refine Kd.C_drew ?_) | exact HR254.out)) hb)
                                                        have n7_ := Aside0.mk (below_step (by repeat (first | (with_reducible first | exact HB.out | apply below_alloc | apply pw_below_drewN | apply below_drew1) | exact HB.out)) hb)
                                                        clear HO_3
                                                        clear HO_4
                                                        clear HO_6
                                                        clear HO_68
                                                        clear HR247
                                                        clear HR254
                                                        clear HB
                                                        have HO_3 := n0_
                                                        have HO_4 := n1_
                                                        have HO_6 := n2_
                                                        have HO_68 := n3_
                                                        have HO243 := n4_
                                                        have HR247 := n5_
                                                        have HR254 := n6_
                                                        have HB := n7_
                                                        clear n0_ n1_ n2_ n3_ n4_ n5_ n6_ n7_
                                                        clear hb ho66
                                                        refine hK.out _ _ trivial (fun hHeld => ?_)
                                                        clear hK K
                                                        refine norm_ (a' := ?_) ?_ ?_
                                                        rotate_left
                                                        · show Act.put _ (some 82) _ = _
                                                          simp only [Act.put, List.setIfInBounds_toArray, List.set_cons_zero, List.set_cons_succ, i64_w, i32_w]
                                                          rfl
                                                        refine one_ (i := 4) (N := some 86) #[true, true, true, true, true, true, true, true, true, false, false] rfl rfl (one_of HT_.out (by kernel_rfl)) (by decide) (fun K hK => ?_)
                                                        refine Kd.R_append_rows_step k34 (w0 := w) w.heap.size (by rfl) (.tmp 82) (.tmp 85) 40 34 (.agg #[(.string ⟨#[]⟩), (.int .i64 0), (.int .i64 0)]) 32 rfl Try.underlying40 info34 rfl (by decide) (by omega) v242 y241 y244 _ _ _ (fun k_ => some k_ ≠ (.slice Ao11 t221.length co11 : Value).ownBlock) (fun _ => False) rfl rfl ?aO ?aR (fun _ _ h => h) (fun _ h => h.elim) ?aF ?aB ?aS ?aL ?_
                                                        (case aR => repeat (first | exact (by repeat (first | (with_reducible exact HR247.out) | (with_reducible refine Kd.C_alloc ?_ _) | (with_reducible refine Kd.C_drewN ?_ _) | (with_reducible refine Kd.C_drew ?_) | exact HR247.out)) | (with_reducible refine Kd.C_alloc ?_ _) | (with_reducible refine Kd.C_drewN ?_ _) | (with_reducible refine Kd.C_drew ?_)))
                                                        (case aB => exact (by repeat (first | (with_reducible first | exact HB.out | apply below_alloc | apply pw_below_drewN | apply below_drew1) | exact HB.out)))
                                                        (case aF => exact (fun k_ hk => Kd.fresh' (Kd.R_lt (by (with_reducible repeat (first | apply Kd.R_alloc | apply Kd.R_drewN | apply Kd.R_drew)); exact HO_3.out)) k_ hk))
                                                        (case aO => exact (by (with_reducible repeat (first | apply Kd.R_alloc | apply Kd.R_drewN | apply Kd.R_drew)); exact Kd.R_mono HO243.out (fun _ hk => hk.2)))
                                                        (case aS => exact (below_size (by repeat (first | (with_reducible first | exact HB.out | apply below_alloc | apply pw_below_drewN | apply below_drew1) | exact HB.out))))
                                                        (case aL => have := LMc41.out; omega)
                                                        intro v249 w67 ho hb hg hat
                                                        rw [← Ny248.out] at ho
                                                        have n0_ := Aside0.mk (Kd.R_after (ok := (fun _ => True)) (by (with_reducible repeat (first | apply Kd.R_alloc | apply Kd.R_drewN | apply Kd.R_drew)); exact HO_3.out) hg hat)
                                                        have n1_ := Aside0.mk (Kd.R_over' (by (with_reducible repeat (first | apply Kd.R_alloc | apply Kd.R_drewN | apply Kd.R_drew)); exact HO_4.out) (Kd.R_typed (by (with_reducible repeat (first | apply Kd.R_alloc | apply Kd.R_drewN | apply Kd.R_drew)); exact HO243.out)) (by decide) hg)
                                                        have n2_ := Aside0.mk (Kd.R_over' (by (with_reducible repeat (first | apply Kd.R_alloc | apply Kd.R_drewN | apply Kd.R_drew)); exact HO_6.out) (Kd.R_typed (by (with_reducible repeat (first | apply Kd.R_alloc | apply Kd.R_drewN | apply Kd.R_drew)); exact HO243.out)) (by decide) hg)
                                                        have n3_ := Aside0.mk (Kd.R_over' (by (with_reducible repeat (first | apply Kd.R_alloc | apply Kd.R_drewN | apply Kd.R_drew)); exact HO_68.out) (Kd.R_typed (by (with_reducible repeat (first | apply Kd.R_alloc | apply Kd.R_drewN | apply Kd.R_drew)); exact HO243.out)) (by decide) hg)
                                                        have n4_ := Aside0.mk (hb)
                                                        have n5_ := Aside0.mk ((show Kd.C k34 w67 Ao11 y244.length y244 from by rw [Ny244.out]; exact Kd.C_take (m := ((rd t237 x70_3) : Int).toNat) ((Kd.R_reads' (Kd.R_after (ok := (fun _ => True)) (by (with_reducible repeat (first | apply Kd.R_alloc | apply Kd.R_drewN | apply Kd.R_drew)); exact HO_3.out) hg hat)).2.2) KL63.out))
                                                        have n6_ := Aside0.mk ((show Kd.C k34 w67 A64 y251.length y251 from by rw [Ny251.out, KA64.out]; exact Kd.C_drop (m := ((ji42) : Int).toNat) (c := co11) ((Kd.R_reads' (Kd.R_after (ok := (fun _ => True)) (by (with_reducible repeat (first | apply Kd.R_alloc | apply Kd.R_drewN | apply Kd.R_drew)); exact HO_3.out) hg hat)).2.2) KL64.out ((Kd.R_reads' (Kd.R_after (ok := (fun _ => True)) (by (with_reducible repeat (first | apply Kd.R_alloc | apply Kd.R_drewN | apply Kd.R_drew)); exact HO_3.out) hg hat)).2.1)))
                                                        have n7_ := Aside0.mk (ho)
                                                        clear HO_3
                                                        clear HO_4
                                                        clear HO_6
                                                        clear HO_68
                                                        clear HB
                                                        clear HR247
                                                        clear HR254
                                                        clear HO243
                                                        have HO_3 := n0_
                                                        have HO_4 := n1_
                                                        have HO_6 := n2_
                                                        have HO_68 := n3_
                                                        have HB := n4_
                                                        have HR247 := n5_
                                                        have HR254 := n6_
                                                        have HO250 := n7_
                                                        clear n0_ n1_ n2_ n3_ n4_ n5_ n6_ n7_
                                                        clear ho hb hg hat
                                                        refine hK.out _ _ trivial (fun hHeld => ?_)
                                                        clear hK K
                                                        refine norm_ (a' := ?_) ?_ ?_
                                                        rotate_left
                                                        · show Act.put _ (some 86) _ = _
                                                          simp only [Act.put, List.setIfInBounds_toArray, List.set_cons_zero, List.set_cons_succ, i64_w, i32_w]
                                                          rfl
                                                        refine one_ (i := 9) (N := some 91) #[true, true, true, true, true, true, true, true, true, true, false] rfl rfl (one_of HT_.out (by kernel_rfl)) (by decide) (fun K hK => ?_)
                                                        refine Kd.R_append_rows_step k34 (w0 := w) w.heap.size (by rfl) (.tmp 86) (.tmp 90) 40 34 (.agg #[(.string ⟨#[]⟩), (.int .i64 0), (.int .i64 0)]) 32 rfl Try.underlying40 info34 rfl (by decide) (by omega) v249 y248 y251 _ _ _ (fun k_ => some k_ ≠ (.slice Ao11 t221.length co11 : Value).ownBlock) (fun _ => False) rfl rfl ?aO ?aR (fun _ _ h => h) (fun _ h => h.elim) ?aF ?aB ?aS ?aL ?_
                                                        (case aR => repeat (first | exact (by repeat (first | (with_reducible exact HR254.out) | (with_reducible refine Kd.C_alloc ?_ _) | (with_reducible refine Kd.C_drewN ?_ _) | (with_reducible refine Kd.C_drew ?_) | exact HR254.out)) | (with_reducible refine Kd.C_alloc ?_ _) | (with_reducible refine Kd.C_drewN ?_ _) | (with_reducible refine Kd.C_drew ?_)))
                                                        (case aB => exact (by repeat (first | (with_reducible first | exact HB.out | apply below_alloc | apply pw_below_drewN | apply below_drew1) | exact HB.out)))
                                                        (case aF => exact (fun k_ hk => Kd.fresh' (Kd.R_lt (by (with_reducible repeat (first | apply Kd.R_alloc | apply Kd.R_drewN | apply Kd.R_drew)); exact HO_3.out)) k_ hk))
                                                        (case aO => exact (by (with_reducible repeat (first | apply Kd.R_alloc | apply Kd.R_drewN | apply Kd.R_drew)); exact HO250.out))
                                                        (case aS => exact (below_size (by repeat (first | (with_reducible first | exact HB.out | apply below_alloc | apply pw_below_drewN | apply below_drew1) | exact HB.out))))
                                                        (case aL => have := LMc45.out; omega)
                                                        intro v256 w68 ho hb hg hat
                                                        rw [← Ny255.out] at ho
                                                        have n0_ := Aside0.mk (Kd.R_after (ok := (fun _ => True)) (by (with_reducible repeat (first | apply Kd.R_alloc | apply Kd.R_drewN | apply Kd.R_drew)); exact HO_3.out) hg hat)
                                                        have n1_ := Aside0.mk (Kd.R_over' (by (with_reducible repeat (first | apply Kd.R_alloc | apply Kd.R_drewN | apply Kd.R_drew)); exact HO_4.out) (Kd.R_typed (by (with_reducible repeat (first | apply Kd.R_alloc | apply Kd.R_drewN | apply Kd.R_drew)); exact HO250.out)) (by decide) hg)
                                                        have n2_ := Aside0.mk (Kd.R_over' (by (with_reducible repeat (first | apply Kd.R_alloc | apply Kd.R_drewN | apply Kd.R_drew)); exact HO_6.out) (Kd.R_typed (by (with_reducible repeat (first | apply Kd.R_alloc | apply Kd.R_drewN | apply Kd.R_drew)); exact HO250.out)) (by decide) hg)
                                                        have n3_ := Aside0.mk (Kd.R_over' (by (with_reducible repeat (first | apply Kd.R_alloc | apply Kd.R_drewN | apply Kd.R_drew)); exact HO_68.out) (Kd.R_typed (by (with_reducible repeat (first | apply Kd.R_alloc | apply Kd.R_drewN | apply Kd.R_drew)); exact HO250.out)) (by decide) hg)
                                                        have n4_ := Aside0.mk (hb)
                                                        have n5_ := Aside0.mk ((show Kd.C k34 w68 Ao11 y244.length y244 from by rw [Ny244.out]; exact Kd.C_take (m := ((rd t237 x70_3) : Int).toNat) ((Kd.R_reads' (Kd.R_after (ok := (fun _ => True)) (by (with_reducible repeat (first | apply Kd.R_alloc | apply Kd.R_drewN | apply Kd.R_drew)); exact HO_3.out) hg hat)).2.2) KL63.out))
                                                        have n6_ := Aside0.mk ((show Kd.C k34 w68 A64 y251.length y251 from by rw [Ny251.out, KA64.out]; exact Kd.C_drop (m := ((ji42) : Int).toNat) (c := co11) ((Kd.R_reads' (Kd.R_after (ok := (fun _ => True)) (by (with_reducible repeat (first | apply Kd.R_alloc | apply Kd.R_drewN | apply Kd.R_drew)); exact HO_3.out) hg hat)).2.2) KL64.out ((Kd.R_reads' (Kd.R_after (ok := (fun _ => True)) (by (with_reducible repeat (first | apply Kd.R_alloc | apply Kd.R_drewN | apply Kd.R_drew)); exact HO_3.out) hg hat)).2.1)))
                                                        have n7_ := Aside0.mk (ho)
                                                        clear HO_3
                                                        clear HO_4
                                                        clear HO_6
                                                        clear HO_68
                                                        clear HB
                                                        clear HR247
                                                        clear HR254
                                                        clear HO250
                                                        have HO_3 := n0_
                                                        have HO_4 := n1_
                                                        have HO_6 := n2_
                                                        have HO_68 := n3_
                                                        have HB := n4_
                                                        have HR247 := n5_
                                                        have HR254 := n6_
                                                        have HO257 := n7_
                                                        clear n0_ n1_ n2_ n3_ n4_ n5_ n6_ n7_
                                                        clear ho hb hg hat
                                                        refine hK.out _ _ trivial (fun hHeld => ?_)
                                                        clear hK K
                                                        refine norm_ (a' := ?_) ?_ ?_
                                                        rotate_left
                                                        · show Act.put _ (some 91) _ = _
                                                          simp only [Act.put, List.setIfInBounds_toArray, List.set_cons_zero, List.set_cons_succ, i64_w, i32_w]
                                                          rfl
                                                        refine pure_ (i := 10) (N := some 10) (v := ?_) (a' := ?_) #[true, true, true, true, true, true, true, true, true, true, true] rfl rfl (any_of HT_.out (by kernel_rfl)) (fun _ _ _ h => h) (Or.inl ⟨by rfl, ?_⟩) ?_ ?_
                                                        rotate_left
                                                        · intro w'
                                                          go_simp
                                                          with_reducible rfl
                                                        rotate_left
                                                        · simp only [Act.put, List.setIfInBounds_toArray, List.set_cons_zero, List.set_cons_succ, i64_w, i32_w]
                                                          rfl
                                                        refine done_ (done_of HT_.out (by kernel_rfl)) ?_
                                                        obtain ⟨Ao69, co69, eo69⟩ := Kd.R_slice HO_6.out
                                                        subst eo69
                                                        have p258 : 0 ≤ (0 : Int) := (by omega)
                                                        have q258 : 0 < (t229.length : Int) := of_decide_eq_true (by first | (with_reducible assumption) | assumption)
                                                        obtain ⟨ad258, e258, hx258_0⟩ := Kd.at_int (Kd.R_reads' HO_6.out).2.2 0 p258 q258
                                                        cases e258
                                                        have qi258 : (0 < t229.length) = True := eq_true (by omega)
                                                        (try rw [show ((0 : Int)).toNat = 0 from rfl] at hx258_0)
                                                        (try rw [Addr.add_zero'] at hx258_0)
                                                        replace p258 := eq_true p258
                                                        replace q258 := eq_true q258
                                                        have q70 : (1 : Int) ≤ ((t225.length : Int) : Int) := of_decide_eq_true (by first | (with_reducible assumption) | assumption)
                                                        obtain ⟨i070, hi070, _, hsz70, _⟩ := info_parts info3
                                                        have hroom70 : t225.length ≤ co15 := (Kd.R_reads' HO_4.out).2.1
                                                        have hC70 : Kd.C (Kd.int .i64) _ (some ad236) t225.length t225 := (Kd.R_reads' HO_4.out).2.2
                                                        have hcut70 := cut_from (P := Try.prog) 46 3 .i64 Try.underlying46 hi070 1 hsz70 (some ad236) t225.length co15 1 (by omega) q70
                                                        have hr70 := Kd.C_drop (m := (1 : Int).toNat) (c := co15) hC70 (by omega) hroom70
                                                        obtain ⟨A70, hA70⟩ : ∃ A1, A1 = (if co15 = (1 : Int).toNat then (some ad236) else ((some ad236) : Option Addr).map (·.add ((1 : Int).toNat * 1))) := ⟨_, rfl⟩
                                                        obtain ⟨c70, hc70⟩ : ∃ c1, c1 = co15 - (1 : Int).toNat := ⟨_, rfl⟩
                                                        have hy70 : y259.length = t225.length - (1 : Int).toNat := (by rw [Ny259.out, List.length_drop] <;> omega)
                                                        rw [show (t225).drop (1 : Int).toNat = y259 from Ny259.out.symm] at hr70
                                                        replace hr70 : Kd.C (Kd.int .i64) _ A70 y259.length y259 := (by rw [hA70]; exact hr70)
                                                        rw [← hy70, ← hA70, ← hc70] at hcut70
                                                        have HR262 := Aside0.mk hr70
                                                        have HC262 := Aside0.mk (show y259.length ≤ c70 from by rw [hy70, hc70]; exact Nat.sub_le_sub_right hroom70 _)
                                                        clear hr70 hC70 hroom70 hi070 hsz70 hc70
                                                        have KY70 := Aside0.mk hy70
                                                        have KA70 := Aside0.mk hA70
                                                        clear hy70 hA70
                                                        have KL70 := Aside0.mk (show 1 ≤ t225.length from by omega)
                                                        replace q70 := eq_true q70
                                                        obtain ⟨Ao71, co71, eo71⟩ := Kd.R_slice HO257.out
                                                        subst eo71
                                                        try go_wp2_with (first | (go_at_call 27; (with_reducible refine (impl_CanEquip.calls kj35 _ _ y255 _ _ y259 (Int.tmod t228 5) false _ ?side1 ?side2 ?side3 ?side4 A49.out).mono ?_); (case side1 => repeat (first | exact (Kd.R_reads' HO257.out).2.2 | (with_reducible refine Kd.C_alloc ?_ _) | (with_reducible refine Kd.C_drewN ?_ _) | (with_reducible refine Kd.C_drew ?_))); (case side2 => exact (Kd.R_reads' HO257.out).2.1); (case side3 => repeat (first | exact (by repeat (first | (with_reducible exact HR262.out) | (with_reducible refine Kd.C_alloc ?_ _) | (with_reducible refine Kd.C_drewN ?_ _) | (with_reducible refine Kd.C_drew ?_) | exact HR262.out)) | (with_reducible refine Kd.C_alloc ?_ _) | (with_reducible refine Kd.C_drewN ?_ _) | (with_reducible refine Kd.C_drew ?_))); (case side4 => exact HC262.out); rintro e w72 ⟨rfl, hb⟩; have n0_ := Aside0.mk (Kd.R_below (by (with_reducible repeat (first | apply Kd.R_alloc | apply Kd.R_drewN | apply Kd.R_drew)); exact HO_3.out) hb); have n1_ := Aside0.mk (Kd.R_below (by (with_reducible repeat (first | apply Kd.R_alloc | apply Kd.R_drewN | apply Kd.R_drew)); exact HO_4.out) hb); have n2_ := Aside0.mk (Kd.R_below (by (with_reducible repeat (first | apply Kd.R_alloc | apply Kd.R_drewN | apply Kd.R_drew)); exact HO_6.out) hb); have n3_ := Aside0.mk (Kd.R_below (by (with_reducible repeat (first | apply Kd.R_alloc | apply Kd.R_drewN | apply Kd.R_drew)); exact HO_68.out) hb); have n4_ := Aside0.mk (Kd.R_below (by (with_reducible repeat (first | apply Kd.R_alloc | apply Kd.R_drewN | apply Kd.R_drew)); exact HO257.out) hb); have n5_ := Aside0.mk (Kd.C_below (by repeat (first | (with_reducible exact HR247.out) | (with_reducible refine Kd.C_alloc ?_ _) | (with_reducible refine Kd.C_drewN ?_ _) | (with_reducible refine Kd.C_drew ?_) | exact HR247.out)) hb); have n6_ := Aside0.mk (Kd.C_below (by repeat (first | (with_reducible exact HR254.out) | (with_reducible refine Kd.C_alloc ?_ _) | (with_reducible refine Kd.C_drewN ?_ _) | (with_reducible refine Kd.C_drew ?_) | exact HR254.out)) hb); have n7_ := Aside0.mk (Kd.C_below (by repeat (first | (with_reducible exact HR262.out) | (with_reducible refine Kd.C_alloc ?_ _) | (with_reducible refine Kd.C_drewN ?_ _) | (with_reducible refine Kd.C_drew ?_) | exact HR262.out)) hb); have n8_ := Aside0.mk (below_step (by repeat (first | (with_reducible first | exact HB.out | apply below_alloc | apply pw_below_drewN | apply below_drew1) | exact HB.out)) hb); clear HO_3; clear HO_4; clear HO_6; clear HO_68; clear HO257; clear HR247; clear HR254; clear HR262; clear HB; have HO_3 := n0_; have HO_4 := n1_; have HO_6 := n2_; have HO_68 := n3_; have HO257 := n4_; have HR247 := n5_; have HR254 := n6_; have HR262 := n7_; have HB := n8_; clear n0_ n1_ n2_ n3_ n4_ n5_ n6_ n7_ n8_; (try clear hb); (try clear hb2); (try clear hk); (try clear hi)))
                                                        go_roundg kj35
                                                        case measure => have := HJ8.out; have := HJ20.out; have := HK3.out; have := HJ35.out; omega
                                                        case rel => exact ⟨(wrap64 (x70_3 + 1)), (by first | rfl | (simp; done) | (simp [*]; done)), H', ⟨by have := HJ8.out; have := HJ20.out; have := HK3.out; have := HJ35.out; omega⟩, ⟨by (with_reducible repeat (first | apply Kd.R_alloc | apply Kd.R_drewN | apply Kd.R_drew)); exact Kd.R_mono HO_3.out (fun _ hk => trivial)⟩, ⟨by (with_reducible repeat (first | apply Kd.R_alloc | apply Kd.R_drewN | apply Kd.R_drew)); exact HO_4.out⟩, ⟨by (with_reducible repeat (first | apply Kd.R_alloc | apply Kd.R_drewN | apply Kd.R_drew)); exact HO_6.out⟩, ⟨by (with_reducible repeat (first | apply Kd.R_alloc | apply Kd.R_drewN | apply Kd.R_drew)); exact HO_68.out⟩, ⟨by repeat (first | (with_reducible first | exact HB.out | apply below_alloc | apply pw_below_drewN | apply below_drew1) | exact HB.out)⟩⟩
                                                    · rw [if_neg c48] at H
                                                      exact absurd H (by simp)
                                                  · rw [if_neg c47] at H
                                                    have c47b0 : decide ((rd t237 x70_3) < (rd t229 0)) = false := decide_eq_false c47
                                                    clear c47
                                                    have H' := Aside0.mk H
                                                    clear H
                                                    try go_wp2
                                                    have n0_ := Aside0.mk (Kd.R_drew HO_3.out)
                                                    have n1_ := Aside0.mk (Kd.R_drew HO_4.out)
                                                    have n2_ := Aside0.mk (Kd.R_drew HO_6.out)
                                                    have n3_ := Aside0.mk (Kd.R_drew HO_68.out)
                                                    have n4_ := Aside0.mk (below_drew1 HB.out)
                                                    clear HO_3
                                                    clear HO_4
                                                    clear HO_6
                                                    clear HO_68
                                                    clear HB
                                                    have HO_3 := n0_
                                                    have HO_4 := n1_
                                                    have HO_6 := n2_
                                                    have HO_68 := n3_
                                                    have HB := n4_
                                                    clear n0_ n1_ n2_ n3_ n4_
                                                    have q74 : ((rd t237 x70_3) : Int) ≤ ((t221.length : Int) : Int) := of_decide_eq_true (by first | (with_reducible assumption) | assumption)
                                                    obtain ⟨i074, hi074, _, hsz74, _⟩ := info_parts info34
                                                    have hroom74 : t221.length ≤ co11 := (Kd.R_reads' HO_3.out).2.1
                                                    have hC74 : Kd.C k34 _ Ao11 t221.length t221 := (Kd.R_reads' HO_3.out).2.2
                                                    have hcut74 := cut_to (P := Try.prog) 40 34 .i64 Try.underlying40 hi074 Ao11 t221.length co11 (rd t237 x70_3) (of_decide_eq_true (by first | (with_reducible assumption) | assumption)) q74 hroom74
                                                    have hr74 := Kd.C_take (m := ((rd t237 x70_3) : Int).toNat) hC74 (by omega)
                                                    have hy74 : y244.length = ((rd t237 x70_3) : Int).toNat := (by rw [Ny244.out, List.length_take]; omega)
                                                    rw [← Ny244.out] at hr74
                                                    rw [← hy74] at hcut74
                                                    have HR247 := Aside0.mk hr74
                                                    have HC247 := Aside0.mk (show y244.length ≤ co11 from by omega)
                                                    clear hr74 hC74 hroom74 hi074 hsz74
                                                    have KY74 := Aside0.mk hy74
                                                    clear hy74
                                                    have KL74 := Aside0.mk (show ((rd t237 x70_3) : Int).toNat ≤ t221.length from by omega)
                                                    replace q74 := eq_true q74
                                                    have q75 : ((ji42) : Int) ≤ ((t221.length : Int) : Int) := of_decide_eq_true (by first | (with_reducible assumption) | assumption)
                                                    obtain ⟨i075, hi075, _, hsz75, _⟩ := info_parts info34
                                                    have hroom75 : t221.length ≤ co11 := (Kd.R_reads' HO_3.out).2.1
                                                    have hC75 : Kd.C k34 _ Ao11 t221.length t221 := (Kd.R_reads' HO_3.out).2.2
                                                    have q075 : (0 : Int) ≤ ((ji42) : Int) := of_decide_eq_true (by first | (with_reducible assumption) | assumption)
                                                    have hcut75 := cut_from (P := Try.prog) 40 34 .i64 Try.underlying40 hi075 3 hsz75 Ao11 t221.length co11 (ji42) q075 q75
                                                    have hr75 := Kd.C_drop (m := ((ji42) : Int).toNat) (c := co11) hC75 (by omega) hroom75
                                                    obtain ⟨A75, hA75⟩ : ∃ A1, A1 = (if co11 = ((ji42) : Int).toNat then Ao11 else (Ao11 : Option Addr).map (·.add (((ji42) : Int).toNat * 3))) := ⟨_, rfl⟩
                                                    obtain ⟨c75, hc75⟩ : ∃ c1, c1 = co11 - ((ji42) : Int).toNat := ⟨_, rfl⟩
                                                    have hy75 : y251.length = t221.length - ((ji42) : Int).toNat := (by rw [Ny251.out, List.length_drop] <;> omega)
                                                    rw [show (t221).drop ((ji42) : Int).toNat = y251 from Ny251.out.symm] at hr75
                                                    replace hr75 : Kd.C k34 _ A75 y251.length y251 := (by rw [hA75]; exact hr75)
                                                    rw [← hy75, ← hA75, ← hc75] at hcut75
                                                    have HR254 := Aside0.mk hr75
                                                    have HC254 := Aside0.mk (show y251.length ≤ c75 from by rw [hy75, hc75]; exact Nat.sub_le_sub_right hroom75 _)
                                                    clear hr75 hC75 hroom75 hi075 hsz75 hc75
                                                    have KY75 := Aside0.mk hy75
                                                    have KA75 := Aside0.mk hA75
                                                    clear hy75 hA75
                                                    have KL75 := Aside0.mk (show ((ji42) : Int).toNat ≤ t221.length from by omega)
                                                    replace q75 := eq_true q75
                                                    refine start_ (n := 11) (S := fun w' => True) (ds := []) #[false, false, false, false, false, false, false, false, false, false, false] (by kernel_rfl) rfl rfl trivial (fun hHeld => ?_); refine with_tabW laws_FnFirstChoice.tab18 laws_FnFirstChoice.bits18 (fun HT_ HW_ => ?_)
                                                    generalize wc.drew = w73 at HO_3 HO_4 HO_6 HO_68 HB HR247 HR254 hHeld ⊢
                                                    refine pure_ (i := 1) (N := some 83) (v := ?_) (a' := ?_) #[false, true, false, false, false, false, false, false, false, false, false] rfl rfl (any_of HT_.out (by kernel_rfl)) (fun _ _ _ h => h) (Or.inl ⟨by rfl, ?_⟩) ?_ ?_
                                                    rotate_left
                                                    · intro w'
                                                      go_simp
                                                      with_reducible rfl
                                                    rotate_left
                                                    · simp only [Act.put, List.setIfInBounds_toArray, List.set_cons_zero, List.set_cons_succ, i64_w, i32_w]
                                                      rfl
                                                    refine pure_ (i := 2) (N := some 84) (v := ?_) (a' := ?_) #[false, true, true, false, false, false, false, false, false, false, false] rfl rfl (any_of HT_.out (by kernel_rfl)) (fun _ _ _ h => h) (Or.inl ⟨by rfl, ?_⟩) ?_ ?_
                                                    rotate_left
                                                    · intro w'
                                                      go_simp
                                                      with_reducible rfl
                                                    rotate_left
                                                    · simp only [Act.put, List.setIfInBounds_toArray, List.set_cons_zero, List.set_cons_succ, i64_w, i32_w]
                                                      rfl
                                                    refine pure_ (i := 3) (N := some 85) (v := ?_) (a' := ?_) #[false, true, true, true, false, false, false, false, false, false, false] rfl rfl (any_of HT_.out (by kernel_rfl)) (fun _ _ _ h => h) (Or.inl ⟨by rfl, ?_⟩) ?_ ?_
                                                    rotate_left
                                                    · intro w'
                                                      go_simp
                                                      with_reducible rfl
                                                    rotate_left
                                                    · simp only [Act.put, List.setIfInBounds_toArray, List.set_cons_zero, List.set_cons_succ, i64_w, i32_w]
                                                      rfl
                                                    refine pure_ (i := 5) (N := some 87) (v := ?_) (a' := ?_) #[false, true, true, true, false, true, false, false, false, false, false] rfl rfl (any_of HT_.out (by kernel_rfl)) (fun _ _ _ h => h) (Or.inl ⟨by rfl, ?_⟩) ?_ ?_
                                                    rotate_left
                                                    · intro w'
                                                      go_simp
                                                      with_reducible rfl
                                                    rotate_left
                                                    · simp only [Act.put, List.setIfInBounds_toArray, List.set_cons_zero, List.set_cons_succ, i64_w, i32_w]
                                                      rfl
                                                    refine pure_ (i := 6) (N := some 88) (v := ?_) (a' := ?_) #[false, true, true, true, false, true, true, false, false, false, false] rfl rfl (any_of HT_.out (by kernel_rfl)) (fun _ _ _ h => h) (Or.inl ⟨by rfl, ?_⟩) ?_ ?_
                                                    rotate_left
                                                    · intro w'
                                                      go_simp
                                                      with_reducible rfl
                                                    rotate_left
                                                    · simp only [Act.put, List.setIfInBounds_toArray, List.set_cons_zero, List.set_cons_succ, i64_w, i32_w]
                                                      rfl
                                                    refine pure_ (i := 7) (N := some 89) (v := ?_) (a' := ?_) #[false, true, true, true, false, true, true, true, false, false, false] rfl rfl (any_of HT_.out (by kernel_rfl)) (fun _ _ _ h => h) (Or.inl ⟨by rfl, ?_⟩) ?_ ?_
                                                    rotate_left
                                                    · intro w'
                                                      go_simp
                                                      with_reducible rfl
                                                    rotate_left
                                                    · simp only [Act.put, List.setIfInBounds_toArray, List.set_cons_zero, List.set_cons_succ, i64_w, i32_w]
                                                      rfl
                                                    refine pure_ (i := 8) (N := some 90) (v := ?_) (a' := ?_) #[false, true, true, true, false, true, true, true, true, false, false] rfl rfl (any_of HT_.out (by kernel_rfl)) (fun _ _ _ h => h) (Or.inl ⟨by rfl, ?_⟩) ?_ ?_
                                                    rotate_left
                                                    · intro w'
                                                      go_simp
                                                      with_reducible rfl
                                                    rotate_left
                                                    · simp only [Act.put, List.setIfInBounds_toArray, List.set_cons_zero, List.set_cons_succ, i64_w, i32_w]
                                                      rfl
                                                    refine one_ (i := 0) (N := some 82) #[true, true, true, true, false, true, true, true, true, false, false] rfl rfl (one_of HT_.out (by kernel_rfl)) (by decide) (fun K hK => ?_)
                                                    refine Kd.R_lit_step k34 _ 34 ?hg (N := 82) ?hd (xs := ([] : List (S34))) (inner := []) (ok := fun _ => True) (okp := fun _ => True) ?hr ?hp (fun _ hk => hk) trivial (Below.refl _ _) (Nat.le_refl _) (by simp) ?_; (case hd => rfl); (case hg => rfl); (case hr => first | (go_simp; done) | (go_simp; rfl)); (case hp => exact (Reps.none _ _))
                                                    intro v242 w76 ho77 hb hg_ hnew_
                                                    clear hg_ hnew_
                                                    (first | rw [← Ny241.out] at ho77 | (simp only [Int.reduceToNat] at ho77; rw [← Ny241.out] at ho77))
                                                    have n0_ := Aside0.mk (Kd.R_elder' (by (with_reducible repeat (first | apply Kd.R_alloc | apply Kd.R_drewN | apply Kd.R_drew)); exact HO_3.out) (Kd.R_base ho77) hb)
                                                    have n1_ := Aside0.mk (Kd.R_below (by (with_reducible repeat (first | apply Kd.R_alloc | apply Kd.R_drewN | apply Kd.R_drew)); exact HO_4.out) hb)
                                                    have n2_ := Aside0.mk (Kd.R_below (by (with_reducible repeat (first | apply Kd.R_alloc | apply Kd.R_drewN | apply Kd.R_drew)); exact HO_6.out) hb)
                                                    have n3_ := Aside0.mk (Kd.R_below (by (with_reducible repeat (first | apply Kd.R_alloc | apply Kd.R_drewN | apply Kd.R_drew)); exact HO_68.out) hb)
                                                    have n4_ := Aside0.mk (Kd.R_lower (Kd.R_new' ho77 (Kd.R_lt (by (with_reducible repeat (first | apply Kd.R_alloc | apply Kd.R_drewN | apply Kd.R_drew)); exact HO_3.out))) (below_size (by repeat (first | (with_reducible first | exact HB.out | apply below_alloc | apply pw_below_drewN | apply below_drew1) | exact HB.out))))
                                                    have n5_ := Aside0.mk (Kd.C_below (by repeat (first | (with_reducible exact HR247.out) | (with_reducible refine Kd.C_alloc ?_ _) | (with_reducible refine Kd.C_drewN ?_ _) | (with_reducible refine Kd.C_drew ?_) | exact HR247.out)) hb)
                                                    have n6_ := Aside0.mk (Kd.C_below (by repeat (first | (with_reducible exact HR254.out) | (with_reducible refine Kd.C_alloc ?_ _) | (with_reducible refine Kd.C_drewN ?_ _) | (with_reducible refine Kd.C_drew ?_) | exact HR254.out)) hb)
                                                    have n7_ := Aside0.mk (below_step (by repeat (first | (with_reducible first | exact HB.out | apply below_alloc | apply pw_below_drewN | apply below_drew1) | exact HB.out)) hb)
                                                    clear HO_3
                                                    clear HO_4
                                                    clear HO_6
                                                    clear HO_68
                                                    clear HR247
                                                    clear HR254
                                                    clear HB
                                                    have HO_3 := n0_
                                                    have HO_4 := n1_
                                                    have HO_6 := n2_
                                                    have HO_68 := n3_
                                                    have HO243 := n4_
                                                    have HR247 := n5_
                                                    have HR254 := n6_
                                                    have HB := n7_
                                                    clear n0_ n1_ n2_ n3_ n4_ n5_ n6_ n7_
                                                    clear hb ho77
                                                    refine hK.out _ _ trivial (fun hHeld => ?_)
                                                    clear hK K
                                                    refine norm_ (a' := ?_) ?_ ?_
                                                    rotate_left
                                                    · show Act.put _ (some 82) _ = _
                                                      simp only [Act.put, List.setIfInBounds_toArray, List.set_cons_zero, List.set_cons_succ, i64_w, i32_w]
                                                      rfl
                                                    refine one_ (i := 4) (N := some 86) #[true, true, true, true, true, true, true, true, true, false, false] rfl rfl (one_of HT_.out (by kernel_rfl)) (by decide) (fun K hK => ?_)
                                                    refine Kd.R_append_rows_step k34 (w0 := w) w.heap.size (by rfl) (.tmp 82) (.tmp 85) 40 34 (.agg #[(.string ⟨#[]⟩), (.int .i64 0), (.int .i64 0)]) 32 rfl Try.underlying40 info34 rfl (by decide) (by omega) v242 y241 y244 _ _ _ (fun k_ => some k_ ≠ (.slice Ao11 t221.length co11 : Value).ownBlock) (fun _ => False) rfl rfl ?aO ?aR (fun _ _ h => h) (fun _ h => h.elim) ?aF ?aB ?aS ?aL ?_
                                                    (case aR => repeat (first | exact (by repeat (first | (with_reducible exact HR247.out) | (with_reducible refine Kd.C_alloc ?_ _) | (with_reducible refine Kd.C_drewN ?_ _) | (with_reducible refine Kd.C_drew ?_) | exact HR247.out)) | (with_reducible refine Kd.C_alloc ?_ _) | (with_reducible refine Kd.C_drewN ?_ _) | (with_reducible refine Kd.C_drew ?_)))
                                                    (case aB => exact (by repeat (first | (with_reducible first | exact HB.out | apply below_alloc | apply pw_below_drewN | apply below_drew1) | exact HB.out)))
                                                    (case aF => exact (fun k_ hk => Kd.fresh' (Kd.R_lt (by (with_reducible repeat (first | apply Kd.R_alloc | apply Kd.R_drewN | apply Kd.R_drew)); exact HO_3.out)) k_ hk))
                                                    (case aO => exact (by (with_reducible repeat (first | apply Kd.R_alloc | apply Kd.R_drewN | apply Kd.R_drew)); exact Kd.R_mono HO243.out (fun _ hk => hk.2)))
                                                    (case aS => exact (below_size (by repeat (first | (with_reducible first | exact HB.out | apply below_alloc | apply pw_below_drewN | apply below_drew1) | exact HB.out))))
                                                    (case aL => have := LMc41.out; omega)
                                                    intro v249 w78 ho hb hg hat
                                                    rw [← Ny248.out] at ho
                                                    have n0_ := Aside0.mk (Kd.R_after (ok := (fun _ => True)) (by (with_reducible repeat (first | apply Kd.R_alloc | apply Kd.R_drewN | apply Kd.R_drew)); exact HO_3.out) hg hat)
                                                    have n1_ := Aside0.mk (Kd.R_over' (by (with_reducible repeat (first | apply Kd.R_alloc | apply Kd.R_drewN | apply Kd.R_drew)); exact HO_4.out) (Kd.R_typed (by (with_reducible repeat (first | apply Kd.R_alloc | apply Kd.R_drewN | apply Kd.R_drew)); exact HO243.out)) (by decide) hg)
                                                    have n2_ := Aside0.mk (Kd.R_over' (by (with_reducible repeat (first | apply Kd.R_alloc | apply Kd.R_drewN | apply Kd.R_drew)); exact HO_6.out) (Kd.R_typed (by (with_reducible repeat (first | apply Kd.R_alloc | apply Kd.R_drewN | apply Kd.R_drew)); exact HO243.out)) (by decide) hg)
                                                    have n3_ := Aside0.mk (Kd.R_over' (by (with_reducible repeat (first | apply Kd.R_alloc | apply Kd.R_drewN | apply Kd.R_drew)); exact HO_68.out) (Kd.R_typed (by (with_reducible repeat (first | apply Kd.R_alloc | apply Kd.R_drewN | apply Kd.R_drew)); exact HO243.out)) (by decide) hg)
                                                    have n4_ := Aside0.mk (hb)
                                                    have n5_ := Aside0.mk ((show Kd.C k34 w78 Ao11 y244.length y244 from by rw [Ny244.out]; exact Kd.C_take (m := ((rd t237 x70_3) : Int).toNat) ((Kd.R_reads' (Kd.R_after (ok := (fun _ => True)) (by (with_reducible repeat (first | apply Kd.R_alloc | apply Kd.R_drewN | apply Kd.R_drew)); exact HO_3.out) hg hat)).2.2) KL74.out))
                                                    have n6_ := Aside0.mk ((show Kd.C k34 w78 A75 y251.length y251 from by rw [Ny251.out, KA75.out]; exact Kd.C_drop (m := ((ji42) : Int).toNat) (c := co11) ((Kd.R_reads' (Kd.R_after (ok := (fun _ => True)) (by (with_reducible repeat (first | apply Kd.R_alloc | apply Kd.R_drewN | apply Kd.R_drew)); exact HO_3.out) hg hat)).2.2) KL75.out ((Kd.R_reads' (Kd.R_after (ok := (fun _ => True)) (by (with_reducible repeat (first | apply Kd.R_alloc | apply Kd.R_drewN | apply Kd.R_drew)); exact HO_3.out) hg hat)).2.1)))
                                                    have n7_ := Aside0.mk (ho)
                                                    clear HO_3
                                                    clear HO_4
                                                    clear HO_6
                                                    clear HO_68
                                                    clear HB
                                                    clear HR247
                                                    clear HR254
                                                    clear HO243
                                                    have HO_3 := n0_
                                                    have HO_4 := n1_
                                                    have HO_6 := n2_
                                                    have HO_68 := n3_
                                                    have HB := n4_
                                                    have HR247 := n5_
                                                    have HR254 := n6_
                                                    have HO250 := n7_
                                                    clear n0_ n1_ n2_ n3_ n4_ n5_ n6_ n7_
                                                    clear ho hb hg hat
                                                    refine hK.out _ _ trivial (fun hHeld => ?_)
                                                    clear hK K
                                                    refine norm_ (a' := ?_) ?_ ?_
                                                    rotate_left
                                                    · show Act.put _ (some 86) _ = _
                                                      simp only [Act.put, List.setIfInBounds_toArray, List.set_cons_zero, List.set_cons_succ, i64_w, i32_w]
                                                      rfl
                                                    refine one_ (i := 9) (N := some 91) #[true, true, true, true, true, true, true, true, true, true, false] rfl rfl (one_of HT_.out (by kernel_rfl)) (by decide) (fun K hK => ?_)
                                                    refine Kd.R_append_rows_step k34 (w0 := w) w.heap.size (by rfl) (.tmp 86) (.tmp 90) 40 34 (.agg #[(.string ⟨#[]⟩), (.int .i64 0), (.int .i64 0)]) 32 rfl Try.underlying40 info34 rfl (by decide) (by omega) v249 y248 y251 _ _ _ (fun k_ => some k_ ≠ (.slice Ao11 t221.length co11 : Value).ownBlock) (fun _ => False) rfl rfl ?aO ?aR (fun _ _ h => h) (fun _ h => h.elim) ?aF ?aB ?aS ?aL ?_
                                                    (case aR => repeat (first | exact (by repeat (first | (with_reducible exact HR254.out) | (with_reducible refine Kd.C_alloc ?_ _) | (with_reducible refine Kd.C_drewN ?_ _) | (with_reducible refine Kd.C_drew ?_) | exact HR254.out)) | (with_reducible refine Kd.C_alloc ?_ _) | (with_reducible refine Kd.C_drewN ?_ _) | (with_reducible refine Kd.C_drew ?_)))
                                                    (case aB => exact (by repeat (first | (with_reducible first | exact HB.out | apply below_alloc | apply pw_below_drewN | apply below_drew1) | exact HB.out)))
                                                    (case aF => exact (fun k_ hk => Kd.fresh' (Kd.R_lt (by (with_reducible repeat (first | apply Kd.R_alloc | apply Kd.R_drewN | apply Kd.R_drew)); exact HO_3.out)) k_ hk))
                                                    (case aO => exact (by (with_reducible repeat (first | apply Kd.R_alloc | apply Kd.R_drewN | apply Kd.R_drew)); exact HO250.out))
                                                    (case aS => exact (below_size (by repeat (first | (with_reducible first | exact HB.out | apply below_alloc | apply pw_below_drewN | apply below_drew1) | exact HB.out))))
                                                    (case aL => have := LMc45.out; omega)
                                                    intro v256 w79 ho hb hg hat
                                                    rw [← Ny255.out] at ho
                                                    have n0_ := Aside0.mk (Kd.R_after (ok := (fun _ => True)) (by (with_reducible repeat (first | apply Kd.R_alloc | apply Kd.R_drewN | apply Kd.R_drew)); exact HO_3.out) hg hat)
                                                    have n1_ := Aside0.mk (Kd.R_over' (by (with_reducible repeat (first | apply Kd.R_alloc | apply Kd.R_drewN | apply Kd.R_drew)); exact HO_4.out) (Kd.R_typed (by (with_reducible repeat (first | apply Kd.R_alloc | apply Kd.R_drewN | apply Kd.R_drew)); exact HO250.out)) (by decide) hg)
                                                    have n2_ := Aside0.mk (Kd.R_over' (by (with_reducible repeat (first | apply Kd.R_alloc | apply Kd.R_drewN | apply Kd.R_drew)); exact HO_6.out) (Kd.R_typed (by (with_reducible repeat (first | apply Kd.R_alloc | apply Kd.R_drewN | apply Kd.R_drew)); exact HO250.out)) (by decide) hg)
                                                    have n3_ := Aside0.mk (Kd.R_over' (by (with_reducible repeat (first | apply Kd.R_alloc | apply Kd.R_drewN | apply Kd.R_drew)); exact HO_68.out) (Kd.R_typed (by (with_reducible repeat (first | apply Kd.R_alloc | apply Kd.R_drewN | apply Kd.R_drew)); exact HO250.out)) (by decide) hg)
                                                    have n4_ := Aside0.mk (hb)
                                                    have n5_ := Aside0.mk ((show Kd.C k34 w79 Ao11 y244.length y244 from by rw [Ny244.out]; exact Kd.C_take (m := ((rd t237 x70_3) : Int).toNat) ((Kd.R_reads' (Kd.R_after (ok := (fun _ => True)) (by (with_reducible repeat (first | apply Kd.R_alloc | apply Kd.R_drewN | apply Kd.R_drew)); exact HO_3.out) hg hat)).2.2) KL74.out))
                                                    have n6_ := Aside0.mk ((show Kd.C k34 w79 A75 y251.length y251 from by rw [Ny251.out, KA75.out]; exact Kd.C_drop (m := ((ji42) : Int).toNat) (c := co11) ((Kd.R_reads' (Kd.R_after (ok := (fun _ => True)) (by (with_reducible repeat (first | apply Kd.R_alloc | apply Kd.R_drewN | apply Kd.R_drew)); exact HO_3.out) hg hat)).2.2) KL75.out ((Kd.R_reads' (Kd.R_after (ok := (fun _ => True)) (by (with_reducible repeat (first | apply Kd.R_alloc | apply Kd.R_drewN | apply Kd.R_drew)); exact HO_3.out) hg hat)).2.1)))
                                                    have n7_ := Aside0.mk (ho)
                                                    clear HO_3
                                                    clear HO_4
                                                    clear HO_6
                                                    clear HO_68
                                                    clear HB
                                                    clear HR247
                                                    clear HR254
                                                    clear HO250
                                                    have HO_3 := n0_
                                                    have HO_4 := n1_
                                                    have HO_6 := n2_
                                                    have HO_68 := n3_
                                                    have HB := n4_
                                                    have HR247 := n5_
                                                    have HR254 := n6_
                                                    have HO257 := n7_
                                                    clear n0_ n1_ n2_ n3_ n4_ n5_ n6_ n7_
                                                    clear ho hb hg hat
                                                    refine hK.out _ _ trivial (fun hHeld => ?_)
                                                    clear hK K
                                                    refine norm_ (a' := ?_) ?_ ?_
                                                    rotate_left
                                                    · show Act.put _ (some 91) _ = _
                                                      simp only [Act.put, List.setIfInBounds_toArray, List.set_cons_zero, List.set_cons_succ, i64_w, i32_w]
                                                      rfl
                                                    refine pure_ (i := 10) (N := some 10) (v := ?_) (a' := ?_) #[true, true, true, true, true, true, true, true, true, true, true] rfl rfl (any_of HT_.out (by kernel_rfl)) (fun _ _ _ h => h) (Or.inl ⟨by rfl, ?_⟩) ?_ ?_
                                                    rotate_left
                                                    · intro w'
                                                      go_simp
                                                      with_reducible rfl
                                                    rotate_left
                                                    · simp only [Act.put, List.setIfInBounds_toArray, List.set_cons_zero, List.set_cons_succ, i64_w, i32_w]
                                                      rfl
                                                    refine done_ (done_of HT_.out (by kernel_rfl)) ?_
                                                    obtain ⟨Ao80, co80, eo80⟩ := Kd.R_slice HO_6.out
                                                    subst eo80
                                                    have p258 : 0 ≤ (0 : Int) := (by omega)
                                                    have q258 : 0 < (t229.length : Int) := of_decide_eq_true (by first | (with_reducible assumption) | assumption)
                                                    obtain ⟨ad258, e258, hx258_0⟩ := Kd.at_int (Kd.R_reads' HO_6.out).2.2 0 p258 q258
                                                    cases e258
                                                    have qi258 : (0 < t229.length) = True := eq_true (by omega)
                                                    (try rw [show ((0 : Int)).toNat = 0 from rfl] at hx258_0)
                                                    (try rw [Addr.add_zero'] at hx258_0)
                                                    replace p258 := eq_true p258
                                                    replace q258 := eq_true q258
                                                    try go_wp2
                                                    go_roundg kj35
                                                    case measure => have := HJ8.out; have := HJ20.out; have := HK3.out; have := HJ35.out; omega
                                                    case rel => exact ⟨(wrap64 (x70_3 + 1)), (by first | rfl | (simp; done) | (simp [*]; done)), H', ⟨by have := HJ8.out; have := HJ20.out; have := HK3.out; have := HJ35.out; omega⟩, ⟨by (with_reducible repeat (first | apply Kd.R_alloc | apply Kd.R_drewN | apply Kd.R_drew)); exact Kd.R_mono HO_3.out (fun _ hk => trivial)⟩, ⟨by (with_reducible repeat (first | apply Kd.R_alloc | apply Kd.R_drewN | apply Kd.R_drew)); exact HO_4.out⟩, ⟨by (with_reducible repeat (first | apply Kd.R_alloc | apply Kd.R_drewN | apply Kd.R_drew)); exact HO_6.out⟩, ⟨by (with_reducible repeat (first | apply Kd.R_alloc | apply Kd.R_drewN | apply Kd.R_drew)); exact HO_68.out⟩, ⟨by repeat (first | (with_reducible first | exact HB.out | apply below_alloc | apply pw_below_drewN | apply below_drew1) | exact HB.out)⟩⟩
                                                · rw [if_neg c46] at H
                                                  exact absurd H (by simp)
                                              · rw [if_neg c45] at H
                                                exact absurd H (by simp)
                                            · rw [if_neg c44] at H
                                              exact absurd H (by simp)
                                          · rw [if_neg c43] at H
                                            exact absurd H (by simp)
                                        · rw [if_neg c41] at H
                                          exact absurd H (by simp)
                                      · rw [if_neg c40] at H
                                        exact absurd H (by simp)
                                    · rw [if_neg c39] at H
                                      exact absurd H (by simp)
                            · rw [if_neg c35] at H
                              exact absurd H (by simp)
                          · rw [if_neg c34] at H
                            exact absurd H (by simp)
                        · rw [if_neg c33] at H
                          have c33b0 : decide (x70_3 < (t237.length : Int)) = false := decide_eq_false c33
                          clear c33
                          obtain rfl := Option.some.inj H
                          go_wp2
                          go_ret
                          exact ⟨by first | rfl | (simp [errW_none, errW_some] <;> rfl) | (simp [*, errW_none, errW_some] <;> rfl), by repeat (first | (with_reducible first | exact HB.out | apply below_alloc | apply pw_below_drewN | apply below_drew1) | exact HB.out)⟩
                  · rw [if_neg c29] at H
                    exact absurd H (by simp)
    · replace c5 := Bool.eq_false_iff.mpr c5
      subst c5
      have H1 : (some false) = some r := by rw [if_neg (show ¬ (false = true) by decide)] at H; exact H
      clear H
      have H := H1
      clear H1
      obtain rfl := Option.some.inj H
      go_enter Try.func7, Try.ntmps7
      go_wp2_with (first | ((with_reducible refine gate_callee (f := 23) rfl ?_); refine goesL_ (some 15) rfl rfl Try.func23 (by kernel_rfl) rfl #[.slice A0 l0.length c0] rfl (by (try simp only [List.map_toArray, List.map_cons, List.map_nil]); first | done | rfl | (simp only [List.length_drop, List.length_take]; rfl)) ?_; (with_reducible refine (spec_MakeStock.calls k _ _ l0 t221 _ ?side1 ?side2 A3.out).mono ?_); (case side1 => repeat (first | exact HR0.out | (with_reducible refine Kd.C_alloc ?_ _) | (with_reducible refine Kd.C_drewN ?_ _) | (with_reducible refine Kd.C_drew ?_))); (case side2 => exact HC0.out); rintro e w81 ⟨v222, rfl, ho0, hb⟩; refine ⟨_, rfl, ?_⟩; have n0_ := Aside0.mk (Kd.R_lower ho0 (below_size (by repeat (first | (with_reducible first | exact HB.out | apply below_alloc | apply pw_below_drewN | apply below_drew1) | exact HB.out)))); have n1_ := Aside0.mk (below_step (by repeat (first | (with_reducible first | exact HB.out | apply below_alloc | apply pw_below_drewN | apply below_drew1) | exact HB.out)) hb); clear HB; have HO223 := n0_; have HB := n1_; clear n0_ n1_; (try clear hb); (try clear hb2); (try clear hk); (try clear hi); (try clear ho0); obtain ⟨Ao82, co82, eo82⟩ := Kd.R_slice HO223.out; subst eo82) | ((with_reducible refine gate_callee (f := 21) rfl ?_); refine goesL_ (some 17) rfl rfl Try.func21 (by kernel_rfl) rfl #[.slice Ao82 t221.length co82] rfl (by (try simp only [List.map_toArray, List.map_cons, List.map_nil]); first | done | rfl | (simp only [List.length_drop, List.length_take]; rfl)) ?_; (with_reducible refine (impl_StockOk.calls k _ _ t221 false _ ?side1 ?side2 A4.out).mono ?_); (case side1 => repeat (first | exact (Kd.R_reads' HO223.out).2.2 | (with_reducible refine Kd.C_alloc ?_ _) | (with_reducible refine Kd.C_drewN ?_ _) | (with_reducible refine Kd.C_drew ?_))); (case side2 => exact (Kd.R_reads' HO223.out).2.1); rintro e w83 ⟨rfl, hb⟩; refine ⟨_, rfl, ?_⟩; have n0_ := Aside0.mk (Kd.R_below (by (with_reducible repeat (first | apply Kd.R_alloc | apply Kd.R_drewN | apply Kd.R_drew)); exact HO223.out) hb); have n1_ := Aside0.mk (below_step (by repeat (first | (with_reducible first | exact HB.out | apply below_alloc | apply pw_below_drewN | apply below_drew1) | exact HB.out)) hb); clear HO223; clear HB; have HO223 := n0_; have HB := n1_; clear n0_ n1_; (try clear hb); (try clear hb2); (try clear hk); (try clear hi)))
      go_ret
      exact ⟨by first | rfl | (simp [errW_none, errW_some] <;> rfl) | (simp [*, errW_none, errW_some] <;> rfl), by repeat (first | (with_reducible first | exact HB.out | apply below_alloc | apply pw_below_drewN | apply below_drew1) | exact HB.out)⟩

/-- THE ONE PURE STATEMENT of laws_FnFirstChoice: yours. -/
def laws_FnFirstChoice.Pure : Prop := ∀ (l0 : List Int), l0.length ≤ maxLen → l0.length * 1 ≤ 140737488351232 → (∀ x ∈ l0, (Lit.int .u8 x).wf = true) → ∃ k, laws_FnFirstChoice.f k l0 = some true
theorem laws_FnFirstChoice.walk (P : laws_FnFirstChoice.Pure) (a0 : Option Addr) (len0 cap0 : Nat) (z0 : List Int) (w : World) (w0 : (a0 = none ∧ len0 = 0 ∧ cap0 = 0 ∧ z0 = []) ∨ ∃ x, a0 = some x ∧ len0 ≤ cap0 ∧ cap0 ≤ maxLen ∧ z0.length = cap0 ∧ (∀ i, i < z0.length → w.cell? (x.add i) = some (.int .u8 (z0.getD i 0))) ∧ ∀ n ∈ z0, (Lit.int .u8 n).wf = true) (y0 : len0 * 1 ≤ 140737488351232) :
    Calls Try.prog 7 #[.slice a0 len0 cap0] w fun e w' => e = .returned (.bool true) ∧ Below w.heap.size w w' := by
  obtain ⟨l0, rfl, hr0, hm0, hw0, hc0⟩ := ReadsInt.ofRowC w0
  obtain ⟨k, h⟩ := P l0 hm0 y0 hw0
  refine (laws_FnFirstChoice.calls k _ _ l0 true w (Kd.C_of_reads (d := (0 : Int)) (h1 := fun _ => rfl) hr0) hc0 h).mono ?_
  rintro e w' ⟨rfl, hd⟩
  exact ⟨rfl, hd⟩

end Go.Proofs.Ytfiaiadcldgclaa.PFnFirstChoice
