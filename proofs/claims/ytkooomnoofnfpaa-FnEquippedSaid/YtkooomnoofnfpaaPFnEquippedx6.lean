-- Printed by this session's own copy of the print, functions that were proved by hand among them.
import Derived.Test.YtkooomnoofnfpaaPFnEquippedx0
import Derived.Test.YtkooomnoofnfpaaPFnEquippedx1
import Derived.Test.YtkooomnoofnfpaaPFnEquippedx2
import Derived.Test.YtkooomnoofnfpaaPFnEquippedx3
import Derived.Test.YtkooomnoofnfpaaPFnEquippedx4
import Derived.Test.YtkooomnoofnfpaaPFnEquippedx5
namespace Go.Proofs.Ytkooomnoofnfpaa.PFnEquipped
open Go.RowKit Go.Proofs.YtkooomnoofnfpaaW.PrintWords Go.Proofs.YtkooomnoofnfpaaW.PrintLast Go.Proofs.YtkooomnoofnfpaaW.PrintMore
attribute [local go_sem] max2_int min2_int max_two min_two max_three min_three max_four min_four   -- for this text's walks alone
set_option linter.unusedVariables false
set_option linter.unusedSimpArgs false

/-! ### laws_FnEquipped: function 3 -/
mutual
def laws_FnEquipped.j0 : Nat → List (S36) → List Int → Int → List Int → Bool → Bool → Option (Bool)
  | 0, _, _, _, _, _, _ => none
  | k + 1, x3, x4, x5, x6, x7, x43 => if x43 = true then (some false) else (if x7 = true then (if (x6.length : Int) = (x4.length : Int) then (laws_FnEquipped.l2 k x3 x4 x5 x6 x6 (x6.length : Int) 0) else (some false)) else (laws_FnEquipped.l0 k x3 x4 x5 x6 x4 (x4.length : Int) 0))
def laws_FnEquipped.l2 : Nat → List (S36) → List Int → Int → List Int → List Int → Int → Int → Option (Bool)
  | 0, _, _, _, _, _, _, _ => none
  | k + 1, x3, x4, x5, x6, x81, x82, x83 => if x83 < x82 then (if 0 ≤ x83 then (if x83 < (x81.length : Int) then (if (rd x81 x83) < 0 then (some false) else (if (rd x81 x83) ≥ (x3.length : Int) then (some false) else (if x83 ≤ (x6.length : Int) then ((laws_has.f k (x6.take (x83 : Int).toNat) (rd x81 x83)).bind fun t259 => (if t259 = true then (some false) else (if x83 < (x4.length : Int) then ((impl_Usable.f k x3 (rd x4 x83) x5).bind fun t261 => ((laws_has.f k t261 (rd x81 x83)).bind fun t264 => (if t264 = true then (if 0 ≤ (rd x81 x83) then (if (rd x81 x83) < (x3.length : Int) then ((impl_ItemOk.f k ((rd_T36 x3 (rd x81 x83)).f0) ((rd_T36 x3 (rd x81 x83)).f1) ((rd_T36 x3 (rd x81 x83)).f2)).bind fun t266 => (if t266 = true then (laws_FnEquipped.l2 k x3 x4 x5 x6 x81 x82 (wrap64 (x83 + 1))) else (some false))) else (none)) else (none)) else (some false)))) else (none)))) else (none)))) else (none)) else (none)) else ((impl_SpareOf.f k x3 x6).bind fun t250 => (if (wrap64 ((t250.length : Int) + (x6.length : Int))) = (x3.length : Int) then ((impl_FirstExpiry.f k x3 x6).bind fun t253 => (some (decide (t253 ≥ x5)))) else (some false)))
def laws_FnEquipped.l0 : Nat → List (S36) → List Int → Int → List Int → List Int → Int → Int → Option (Bool)
  | 0, _, _, _, _, _, _, _ => none
  | k + 1, x3, x4, x5, x6, x46, x47, x48 => if x48 < x47 then (if 0 ≤ x48 then (if x48 < (x46.length : Int) then ((impl_Usable.f k x3 (rd x46 x48) x5).bind fun t246 => (laws_FnEquipped.l1 k x3 x4 x5 x6 (rd x46 x48) t246 0 x46 x47 x48 x4 (x4.length : Int) 0)) else (none)) else (none)) else (some false)
def laws_FnEquipped.l1 : Nat → List (S36) → List Int → Int → List Int → Int → List Int → Int → List Int → Int → Int → List Int → Int → Int → Option (Bool)
  | 0, _, _, _, _, _, _, _, _, _, _, _, _, _ => none
  | k + 1, x3, x4, x5, x6, x9, x10, x11, x46, x47, x48, x56, x57, x58 => if x58 < x57 then (if 0 ≤ x58 then (if x58 < (x56.length : Int) then (if (rd x56 x58) ≥ x9 then (laws_FnEquipped.l1 k x3 x4 x5 x6 x9 x10 (wrap64 (x11 + 1)) x46 x47 x48 x56 x57 (wrap64 (x58 + 1))) else (laws_FnEquipped.l1 k x3 x4 x5 x6 x9 x10 x11 x46 x47 x48 x56 x57 (wrap64 (x58 + 1)))) else (none)) else (none)) else (if (x10.length : Int) < x11 then (some ((x6.length : Int) == 0)) else (laws_FnEquipped.l0 k x3 x4 x5 x6 x46 x47 (wrap64 (x48 + 1))))
end
def laws_FnEquipped.f (k : Nat) (l0 : List Int) : Option (Bool) := if (l0.length : Int) > 1048576 then (some true) else ((spec_MakeStock.f k l0).bind fun t232 => ((spec_MakeNeeds.f k l0 40).bind fun t235 => ((spec_MakeNum.f k l0 50).bind fun t238 => ((impl_EquipFrom.f k t232 t235 (Int.tmod t238 5)).bind fun bt239 => ((impl_CanEquip.f k t232 t235 (Int.tmod t238 5)).bind fun t243 => (if (bt239.2 != t243) = true then (laws_FnEquipped.j0 k t232 t235 (Int.tmod t238 5) bt239.1 bt239.2 true) else ((impl_StockOk.f k t232).bind fun t244 => (laws_FnEquipped.j0 k t232 t235 (Int.tmod t238 5) bt239.1 bt239.2 (!t244)))))))))
theorem laws_FnEquipped.mono_l : ∀ k, (∀ y0 y1 y2 y3 y4 y5, LeO (laws_FnEquipped.j0 k y0 y1 y2 y3 y4 y5) (laws_FnEquipped.j0 (k + 1) y0 y1 y2 y3 y4 y5)) ∧ (∀ y0 y1 y2 y3 y4 y5 y6, LeO (laws_FnEquipped.l2 k y0 y1 y2 y3 y4 y5 y6) (laws_FnEquipped.l2 (k + 1) y0 y1 y2 y3 y4 y5 y6)) ∧ (∀ y0 y1 y2 y3 y4 y5 y6, LeO (laws_FnEquipped.l0 k y0 y1 y2 y3 y4 y5 y6) (laws_FnEquipped.l0 (k + 1) y0 y1 y2 y3 y4 y5 y6)) ∧ (∀ y0 y1 y2 y3 y4 y5 y6 y7 y8 y9 y10 y11 y12, LeO (laws_FnEquipped.l1 k y0 y1 y2 y3 y4 y5 y6 y7 y8 y9 y10 y11 y12) (laws_FnEquipped.l1 (k + 1) y0 y1 y2 y3 y4 y5 y6 y7 y8 y9 y10 y11 y12))
  | 0 => ⟨fun _ _ _ _ _ _ r h => by simp [laws_FnEquipped.j0] at h, fun _ _ _ _ _ _ _ r h => by simp [laws_FnEquipped.l2] at h, fun _ _ _ _ _ _ _ r h => by simp [laws_FnEquipped.l0] at h, fun _ _ _ _ _ _ _ _ _ _ _ _ _ r h => by simp [laws_FnEquipped.l1] at h⟩
  | k + 1 => by
    obtain ⟨ih0, ih1, ih2, ih3⟩ := laws_FnEquipped.mono_l k
    refine ⟨?_, ?_, ?_, ?_⟩
    · intro y0 y1 y2 y3 y4 y5
      unfold laws_FnEquipped.j0
      repeat' first
      | (with_reducible exact ih0 _ _ _ _ _ _)
      | (with_reducible exact ih1 _ _ _ _ _ _ _)
      | (with_reducible exact ih2 _ _ _ _ _ _ _)
      | (with_reducible exact ih3 _ _ _ _ _ _ _ _ _ _ _ _ _)
      | (with_reducible exact impl_CanEquip.mono _ _ _ _)
      | (with_reducible exact impl_EquipFrom.mono _ _ _ _)
      | (with_reducible exact impl_FirstExpiry.mono _ _ _)
      | (with_reducible exact impl_ItemOk.mono _ _ _ _)
      | (with_reducible exact impl_SpareOf.mono _ _ _)
      | (with_reducible exact impl_StockOk.mono _ _)
      | (with_reducible exact impl_Usable.mono _ _ _ _)
      | (with_reducible exact laws_has.mono _ _ _)
      | (with_reducible exact spec_MakeNeeds.mono _ _ _)
      | (with_reducible exact spec_MakeNum.mono _ _ _)
      | (with_reducible exact spec_MakeStock.mono _ _)
      | (with_reducible exact LeO.refl _)
      | (with_reducible exact LeO.none _)
      | (with_reducible refine LeO.ite ?_ ?_)
      | (with_reducible refine LeO.bind ?_ (fun _ => ?_))
      | exact ih0 _ _ _ _ _ _
      | exact ih1 _ _ _ _ _ _ _
      | exact ih2 _ _ _ _ _ _ _
      | exact ih3 _ _ _ _ _ _ _ _ _ _ _ _ _
      | exact impl_CanEquip.mono _ _ _ _
      | exact impl_EquipFrom.mono _ _ _ _
      | exact impl_FirstExpiry.mono _ _ _
      | exact impl_ItemOk.mono _ _ _ _
      | exact impl_SpareOf.mono _ _ _
      | exact impl_StockOk.mono _ _
      | exact impl_Usable.mono _ _ _ _
      | exact laws_has.mono _ _ _
      | exact spec_MakeNeeds.mono _ _ _
      | exact spec_MakeNum.mono _ _ _
      | exact spec_MakeStock.mono _ _
      | exact LeO.none _
      | refine LeO.ite ?_ ?_
      | refine LeO.bind ?_ (fun _ => ?_)
    · intro y0 y1 y2 y3 y4 y5 y6
      unfold laws_FnEquipped.l2
      repeat' first
      | (with_reducible exact ih0 _ _ _ _ _ _)
      | (with_reducible exact ih1 _ _ _ _ _ _ _)
      | (with_reducible exact ih2 _ _ _ _ _ _ _)
      | (with_reducible exact ih3 _ _ _ _ _ _ _ _ _ _ _ _ _)
      | (with_reducible exact impl_CanEquip.mono _ _ _ _)
      | (with_reducible exact impl_EquipFrom.mono _ _ _ _)
      | (with_reducible exact impl_FirstExpiry.mono _ _ _)
      | (with_reducible exact impl_ItemOk.mono _ _ _ _)
      | (with_reducible exact impl_SpareOf.mono _ _ _)
      | (with_reducible exact impl_StockOk.mono _ _)
      | (with_reducible exact impl_Usable.mono _ _ _ _)
      | (with_reducible exact laws_has.mono _ _ _)
      | (with_reducible exact spec_MakeNeeds.mono _ _ _)
      | (with_reducible exact spec_MakeNum.mono _ _ _)
      | (with_reducible exact spec_MakeStock.mono _ _)
      | (with_reducible exact LeO.refl _)
      | (with_reducible exact LeO.none _)
      | (with_reducible refine LeO.ite ?_ ?_)
      | (with_reducible refine LeO.bind ?_ (fun _ => ?_))
      | exact ih0 _ _ _ _ _ _
      | exact ih1 _ _ _ _ _ _ _
      | exact ih2 _ _ _ _ _ _ _
      | exact ih3 _ _ _ _ _ _ _ _ _ _ _ _ _
      | exact impl_CanEquip.mono _ _ _ _
      | exact impl_EquipFrom.mono _ _ _ _
      | exact impl_FirstExpiry.mono _ _ _
      | exact impl_ItemOk.mono _ _ _ _
      | exact impl_SpareOf.mono _ _ _
      | exact impl_StockOk.mono _ _
      | exact impl_Usable.mono _ _ _ _
      | exact laws_has.mono _ _ _
      | exact spec_MakeNeeds.mono _ _ _
      | exact spec_MakeNum.mono _ _ _
      | exact spec_MakeStock.mono _ _
      | exact LeO.none _
      | refine LeO.ite ?_ ?_
      | refine LeO.bind ?_ (fun _ => ?_)
    · intro y0 y1 y2 y3 y4 y5 y6
      unfold laws_FnEquipped.l0
      repeat' first
      | (with_reducible exact ih0 _ _ _ _ _ _)
      | (with_reducible exact ih1 _ _ _ _ _ _ _)
      | (with_reducible exact ih2 _ _ _ _ _ _ _)
      | (with_reducible exact ih3 _ _ _ _ _ _ _ _ _ _ _ _ _)
      | (with_reducible exact impl_CanEquip.mono _ _ _ _)
      | (with_reducible exact impl_EquipFrom.mono _ _ _ _)
      | (with_reducible exact impl_FirstExpiry.mono _ _ _)
      | (with_reducible exact impl_ItemOk.mono _ _ _ _)
      | (with_reducible exact impl_SpareOf.mono _ _ _)
      | (with_reducible exact impl_StockOk.mono _ _)
      | (with_reducible exact impl_Usable.mono _ _ _ _)
      | (with_reducible exact laws_has.mono _ _ _)
      | (with_reducible exact spec_MakeNeeds.mono _ _ _)
      | (with_reducible exact spec_MakeNum.mono _ _ _)
      | (with_reducible exact spec_MakeStock.mono _ _)
      | (with_reducible exact LeO.refl _)
      | (with_reducible exact LeO.none _)
      | (with_reducible refine LeO.ite ?_ ?_)
      | (with_reducible refine LeO.bind ?_ (fun _ => ?_))
      | exact ih0 _ _ _ _ _ _
      | exact ih1 _ _ _ _ _ _ _
      | exact ih2 _ _ _ _ _ _ _
      | exact ih3 _ _ _ _ _ _ _ _ _ _ _ _ _
      | exact impl_CanEquip.mono _ _ _ _
      | exact impl_EquipFrom.mono _ _ _ _
      | exact impl_FirstExpiry.mono _ _ _
      | exact impl_ItemOk.mono _ _ _ _
      | exact impl_SpareOf.mono _ _ _
      | exact impl_StockOk.mono _ _
      | exact impl_Usable.mono _ _ _ _
      | exact laws_has.mono _ _ _
      | exact spec_MakeNeeds.mono _ _ _
      | exact spec_MakeNum.mono _ _ _
      | exact spec_MakeStock.mono _ _
      | exact LeO.none _
      | refine LeO.ite ?_ ?_
      | refine LeO.bind ?_ (fun _ => ?_)
    · intro y0 y1 y2 y3 y4 y5 y6 y7 y8 y9 y10 y11 y12
      unfold laws_FnEquipped.l1
      repeat' first
      | (with_reducible exact ih0 _ _ _ _ _ _)
      | (with_reducible exact ih1 _ _ _ _ _ _ _)
      | (with_reducible exact ih2 _ _ _ _ _ _ _)
      | (with_reducible exact ih3 _ _ _ _ _ _ _ _ _ _ _ _ _)
      | (with_reducible exact impl_CanEquip.mono _ _ _ _)
      | (with_reducible exact impl_EquipFrom.mono _ _ _ _)
      | (with_reducible exact impl_FirstExpiry.mono _ _ _)
      | (with_reducible exact impl_ItemOk.mono _ _ _ _)
      | (with_reducible exact impl_SpareOf.mono _ _ _)
      | (with_reducible exact impl_StockOk.mono _ _)
      | (with_reducible exact impl_Usable.mono _ _ _ _)
      | (with_reducible exact laws_has.mono _ _ _)
      | (with_reducible exact spec_MakeNeeds.mono _ _ _)
      | (with_reducible exact spec_MakeNum.mono _ _ _)
      | (with_reducible exact spec_MakeStock.mono _ _)
      | (with_reducible exact LeO.refl _)
      | (with_reducible exact LeO.none _)
      | (with_reducible refine LeO.ite ?_ ?_)
      | (with_reducible refine LeO.bind ?_ (fun _ => ?_))
      | exact ih0 _ _ _ _ _ _
      | exact ih1 _ _ _ _ _ _ _
      | exact ih2 _ _ _ _ _ _ _
      | exact ih3 _ _ _ _ _ _ _ _ _ _ _ _ _
      | exact impl_CanEquip.mono _ _ _ _
      | exact impl_EquipFrom.mono _ _ _ _
      | exact impl_FirstExpiry.mono _ _ _
      | exact impl_ItemOk.mono _ _ _ _
      | exact impl_SpareOf.mono _ _ _
      | exact impl_StockOk.mono _ _
      | exact impl_Usable.mono _ _ _ _
      | exact laws_has.mono _ _ _
      | exact spec_MakeNeeds.mono _ _ _
      | exact spec_MakeNum.mono _ _ _
      | exact spec_MakeStock.mono _ _
      | exact LeO.none _
      | refine LeO.ite ?_ ?_
      | refine LeO.bind ?_ (fun _ => ?_)
theorem laws_FnEquipped.mono : ∀ a0 k, LeO (laws_FnEquipped.f k a0) (laws_FnEquipped.f (k + 1) a0) := by
  intro a0 k
  obtain ⟨ih0, ih1, ih2, ih3⟩ := laws_FnEquipped.mono_l k
  unfold laws_FnEquipped.f
  repeat' first
      | (with_reducible exact ih0 _ _ _ _ _ _)
      | (with_reducible exact ih1 _ _ _ _ _ _ _)
      | (with_reducible exact ih2 _ _ _ _ _ _ _)
      | (with_reducible exact ih3 _ _ _ _ _ _ _ _ _ _ _ _ _)
      | (with_reducible exact impl_CanEquip.mono _ _ _ _)
      | (with_reducible exact impl_EquipFrom.mono _ _ _ _)
      | (with_reducible exact impl_FirstExpiry.mono _ _ _)
      | (with_reducible exact impl_ItemOk.mono _ _ _ _)
      | (with_reducible exact impl_SpareOf.mono _ _ _)
      | (with_reducible exact impl_StockOk.mono _ _)
      | (with_reducible exact impl_Usable.mono _ _ _ _)
      | (with_reducible exact laws_has.mono _ _ _)
      | (with_reducible exact spec_MakeNeeds.mono _ _ _)
      | (with_reducible exact spec_MakeNum.mono _ _ _)
      | (with_reducible exact spec_MakeStock.mono _ _)
      | (with_reducible exact LeO.refl _)
      | (with_reducible exact LeO.none _)
      | (with_reducible refine LeO.ite ?_ ?_)
      | (with_reducible refine LeO.bind ?_ (fun _ => ?_))
      | exact ih0 _ _ _ _ _ _
      | exact ih1 _ _ _ _ _ _ _
      | exact ih2 _ _ _ _ _ _ _
      | exact ih3 _ _ _ _ _ _ _ _ _ _ _ _ _
      | exact impl_CanEquip.mono _ _ _ _
      | exact impl_EquipFrom.mono _ _ _ _
      | exact impl_FirstExpiry.mono _ _ _
      | exact impl_ItemOk.mono _ _ _ _
      | exact impl_SpareOf.mono _ _ _
      | exact impl_StockOk.mono _ _
      | exact impl_Usable.mono _ _ _ _
      | exact laws_has.mono _ _ _
      | exact spec_MakeNeeds.mono _ _ _
      | exact spec_MakeNum.mono _ _ _
      | exact spec_MakeStock.mono _ _
      | exact LeO.none _
      | refine LeO.ite ?_ ?_
      | refine LeO.bind ?_ (fun _ => ?_)
set_option maxHeartbeats 8000000 in
set_option maxRecDepth 100000 in
theorem laws_FnEquipped.calls (k : Nat) (A0 : Option Addr) (c0 : Nat) (l0 : List Int) (r : Bool) (w : World) (hr0 : Kd.C (Kd.int .u8) w A0 l0.length l0) (hc0 : l0.length ≤ c0) (h : laws_FnEquipped.f k l0 = some r) :
    Calls Try.prog 3 #[.slice A0 l0.length c0] w fun e w' => e = .returned (.bool r) ∧ Below w.heap.size w w' := by
  have hu36 := Try.underlying36
  have HR0 := Aside0.mk hr0
  have HC0 := Aside0.mk hc0
  clear hr0 hc0
  have HB := Aside0.mk (Below.refl w.heap.size w)
  have H : (if (l0.length : Int) > 1048576 then (some true) else ((spec_MakeStock.f k l0).bind fun t232 => ((spec_MakeNeeds.f k l0 40).bind fun t235 => ((spec_MakeNum.f k l0 50).bind fun t238 => ((impl_EquipFrom.f k t232 t235 (Int.tmod t238 5)).bind fun bt239 => ((impl_CanEquip.f k t232 t235 (Int.tmod t238 5)).bind fun t243 => (if (bt239.2 != t243) = true then (laws_FnEquipped.j0 k t232 t235 (Int.tmod t238 5) bt239.1 bt239.2 true) else ((impl_StockOk.f k t232).bind fun t244 => (laws_FnEquipped.j0 k t232 t235 (Int.tmod t238 5) bt239.1 bt239.2 (!t244)))))))))) = some r := h
  clear h
  by_cases c2 : (l0.length : Int) > 1048576
  · rw [if_pos c2] at H
    have c2b0 : decide (1048576 < (l0.length : Int)) = true := decide_eq_true c2
    have c2b1 : decide (1048576 < l0.length) = true := decide_eq_true (by omega)
    clear c2
    obtain rfl := Option.some.inj H
    go_enter Try.func3, Try.ntmps3
    go_wp2
    go_ret
    exact ⟨by first | rfl | (simp [errW_none, errW_some] <;> rfl) | (simp [*, errW_none, errW_some] <;> rfl), by repeat (first | (with_reducible first | exact HB.out | apply below_alloc | apply pw_below_drewN | apply below_drew1) | exact HB.out)⟩
  · rw [if_neg c2] at H
    have c2b0 : decide (1048576 < (l0.length : Int)) = false := decide_eq_false c2
    have c2b1 : decide (1048576 < l0.length) = false := decide_eq_false (by omega)
    clear c2
    replace H := Option.bind_eq_some_iff.mp H
    obtain ⟨t232, A30, H⟩ := H
    replace H : ((spec_MakeNeeds.f k l0 40).bind fun t235 => ((spec_MakeNum.f k l0 50).bind fun t238 => ((impl_EquipFrom.f k t232 t235 (Int.tmod t238 5)).bind fun bt239 => ((impl_CanEquip.f k t232 t235 (Int.tmod t238 5)).bind fun t243 => (if (bt239.2 != t243) = true then (laws_FnEquipped.j0 k t232 t235 (Int.tmod t238 5) bt239.1 bt239.2 true) else ((impl_StockOk.f k t232).bind fun t244 => (laws_FnEquipped.j0 k t232 t235 (Int.tmod t238 5) bt239.1 bt239.2 (!t244)))))))) = some r := H
    have A3 := Aside0.mk A30
    clear A30
    replace H := Option.bind_eq_some_iff.mp H
    obtain ⟨t235, A40, H⟩ := H
    replace H : ((spec_MakeNum.f k l0 50).bind fun t238 => ((impl_EquipFrom.f k t232 t235 (Int.tmod t238 5)).bind fun bt239 => ((impl_CanEquip.f k t232 t235 (Int.tmod t238 5)).bind fun t243 => (if (bt239.2 != t243) = true then (laws_FnEquipped.j0 k t232 t235 (Int.tmod t238 5) bt239.1 bt239.2 true) else ((impl_StockOk.f k t232).bind fun t244 => (laws_FnEquipped.j0 k t232 t235 (Int.tmod t238 5) bt239.1 bt239.2 (!t244))))))) = some r := H
    have A4 := Aside0.mk A40
    clear A40
    replace H := Option.bind_eq_some_iff.mp H
    obtain ⟨t238, A50, H⟩ := H
    replace H : ((impl_EquipFrom.f k t232 t235 (Int.tmod t238 5)).bind fun bt239 => ((impl_CanEquip.f k t232 t235 (Int.tmod t238 5)).bind fun t243 => (if (bt239.2 != t243) = true then (laws_FnEquipped.j0 k t232 t235 (Int.tmod t238 5) bt239.1 bt239.2 true) else ((impl_StockOk.f k t232).bind fun t244 => (laws_FnEquipped.j0 k t232 t235 (Int.tmod t238 5) bt239.1 bt239.2 (!t244)))))) = some r := H
    have A5 := Aside0.mk A50
    clear A50
    replace H := Option.bind_eq_some_iff.mp H
    obtain ⟨⟨t239, t240⟩, A60, H⟩ := H
    replace H : ((impl_CanEquip.f k t232 t235 (Int.tmod t238 5)).bind fun t243 => (if (t240 != t243) = true then (laws_FnEquipped.j0 k t232 t235 (Int.tmod t238 5) t239 t240 true) else ((impl_StockOk.f k t232).bind fun t244 => (laws_FnEquipped.j0 k t232 t235 (Int.tmod t238 5) t239 t240 (!t244))))) = some r := H
    have A6 := Aside0.mk A60
    clear A60
    have HC7 := Aside0.mk H
    clear H
    go_enter Try.func3, Try.ntmps3
    go_upto_region 7 with (first | ((with_reducible refine gate_callee (f := 10) rfl ?_); refine goesL_ (some 20) rfl rfl Try.func10 (by kernel_rfl) rfl #[.slice A0 l0.length c0] rfl (by (try simp only [List.map_toArray, List.map_cons, List.map_nil]); first | done | rfl | (simp only [List.length_drop, List.length_take]; rfl)) ?_; (with_reducible refine (spec_MakeStock.calls k _ _ l0 t232 _ ?side1 ?side2 A3.out).mono ?_); (case side1 => repeat (first | exact HR0.out | (with_reducible refine Kd.C_alloc ?_ _) | (with_reducible refine Kd.C_drewN ?_ _) | (with_reducible refine Kd.C_drew ?_))); (case side2 => exact HC0.out); rintro e w8 ⟨v233, rfl, ho0, hb⟩; refine ⟨_, rfl, ?_⟩; have n0_ := Aside0.mk (Kd.R_lower ho0 (below_size (by repeat (first | (with_reducible first | exact HB.out | apply below_alloc | apply pw_below_drewN | apply below_drew1) | exact HB.out)))); have n1_ := Aside0.mk (below_step (by repeat (first | (with_reducible first | exact HB.out | apply below_alloc | apply pw_below_drewN | apply below_drew1) | exact HB.out)) hb); clear HB; have HO234 := n0_; have HB := n1_; clear n0_ n1_; (try clear hb); (try clear hb2); (try clear hk); (try clear hi); (try clear ho0)) | ((with_reducible refine gate_callee (f := 11) rfl ?_); refine goesL_ (some 22) rfl rfl Try.func11 (by kernel_rfl) rfl #[.slice A0 l0.length c0, .int .i64 40] rfl (by (try simp only [List.map_toArray, List.map_cons, List.map_nil]); first | done | rfl | (simp only [List.length_drop, List.length_take]; rfl)) ?_; (with_reducible refine (spec_MakeNeeds.calls k _ _ l0 40 t235 _ ?side1 ?side2 A4.out).mono ?_); (case side1 => repeat (first | exact (Kd.C_below HR0.out HB.out) | (with_reducible refine Kd.C_alloc ?_ _) | (with_reducible refine Kd.C_drewN ?_ _) | (with_reducible refine Kd.C_drew ?_))); (case side2 => exact HC0.out); rintro e w9 ⟨v236, rfl, ho0, hb⟩; refine ⟨_, rfl, ?_⟩; have n0_ := Aside0.mk (Kd.R_below (by (with_reducible repeat (first | apply Kd.R_alloc | apply Kd.R_drewN | apply Kd.R_drew)); exact HO234.out) hb); have n1_ := Aside0.mk (Kd.R_lower ho0 (below_size (by repeat (first | (with_reducible first | exact HB.out | apply below_alloc | apply pw_below_drewN | apply below_drew1) | exact HB.out)))); have n2_ := Aside0.mk (below_step (by repeat (first | (with_reducible first | exact HB.out | apply below_alloc | apply pw_below_drewN | apply below_drew1) | exact HB.out)) hb); clear HO234; clear HB; have HO234 := n0_; have HO237 := n1_; have HB := n2_; clear n0_ n1_ n2_; (try clear hb); (try clear hb2); (try clear hk); (try clear hi); (try clear ho0)) | ((with_reducible refine gate_callee (f := 12) rfl ?_); refine goesL_ (some 24) rfl rfl Try.func12 (by kernel_rfl) rfl #[.slice A0 l0.length c0, .int .i64 50] rfl (by (try simp only [List.map_toArray, List.map_cons, List.map_nil]); first | done | rfl | (simp only [List.length_drop, List.length_take]; rfl)) ?_; (with_reducible refine (spec_MakeNum.calls k _ _ l0 50 t238 _ ?side1 ?side2 A5.out).mono ?_); (case side1 => repeat (first | exact (Kd.C_below HR0.out HB.out) | (with_reducible refine Kd.C_alloc ?_ _) | (with_reducible refine Kd.C_drewN ?_ _) | (with_reducible refine Kd.C_drew ?_))); (case side2 => exact HC0.out); rintro e w10 ⟨rfl, hb⟩; refine ⟨_, rfl, ?_⟩; have n0_ := Aside0.mk (Kd.R_below (by (with_reducible repeat (first | apply Kd.R_alloc | apply Kd.R_drewN | apply Kd.R_drew)); exact HO234.out) hb); have n1_ := Aside0.mk (Kd.R_below (by (with_reducible repeat (first | apply Kd.R_alloc | apply Kd.R_drewN | apply Kd.R_drew)); exact HO237.out) hb); have n2_ := Aside0.mk (below_step (by repeat (first | (with_reducible first | exact HB.out | apply below_alloc | apply pw_below_drewN | apply below_drew1) | exact HB.out)) hb); clear HO234; clear HO237; clear HB; have HO234 := n0_; have HO237 := n1_; have HB := n2_; clear n0_ n1_ n2_; (try clear hb); (try clear hb2); (try clear hk); (try clear hi); obtain ⟨Ao11, co11, eo11⟩ := Kd.R_slice HO234.out; subst eo11; obtain ⟨Ao12, co12, eo12⟩ := Kd.R_slice HO237.out; subst eo12) | ((with_reducible refine gate_callee (f := 13) rfl ?_); refine goesL_ (some 30) rfl rfl Try.func13 (by kernel_rfl) rfl #[.slice Ao11 t232.length co11, .slice Ao12 t235.length co12, .int .i64 (Int.tmod t238 5)] rfl (by (try simp only [List.map_toArray, List.map_cons, List.map_nil]); first | done | rfl | (simp only [List.length_drop, List.length_take]; rfl)) ?_; (with_reducible refine (impl_EquipFrom.calls k _ _ t232 _ _ t235 (Int.tmod t238 5) t239 t240 _ ?side1 ?side2 ?side3 ?side4 A6.out).mono ?_); (case side1 => repeat (first | exact (Kd.R_reads' HO234.out).2.2 | (with_reducible refine Kd.C_alloc ?_ _) | (with_reducible refine Kd.C_drewN ?_ _) | (with_reducible refine Kd.C_drew ?_))); (case side2 => exact (Kd.R_reads' HO234.out).2.1); (case side3 => repeat (first | exact (Kd.R_reads' HO237.out).2.2 | (with_reducible refine Kd.C_alloc ?_ _) | (with_reducible refine Kd.C_drewN ?_ _) | (with_reducible refine Kd.C_drew ?_))); (case side4 => exact (Kd.R_reads' HO237.out).2.1); rintro e w13 ⟨v241, rfl, ho0, hb⟩; refine ⟨_, rfl, ?_⟩; have n0_ := Aside0.mk (Kd.R_below (by (with_reducible repeat (first | apply Kd.R_alloc | apply Kd.R_drewN | apply Kd.R_drew)); exact HO234.out) hb); have n1_ := Aside0.mk (Kd.R_elder' (by (with_reducible repeat (first | apply Kd.R_alloc | apply Kd.R_drewN | apply Kd.R_drew)); exact HO237.out) (Kd.R_base ho0) hb); have n2_ := Aside0.mk (Kd.R_lower (Kd.R_new' ho0 (Kd.R_lt (by (with_reducible repeat (first | apply Kd.R_alloc | apply Kd.R_drewN | apply Kd.R_drew)); exact HO237.out))) (below_size (by repeat (first | (with_reducible first | exact HB.out | apply below_alloc | apply pw_below_drewN | apply below_drew1) | exact HB.out)))); have n3_ := Aside0.mk (below_step (by repeat (first | (with_reducible first | exact HB.out | apply below_alloc | apply pw_below_drewN | apply below_drew1) | exact HB.out)) hb); clear HO234; clear HO237; clear HB; have HO234 := n0_; have HO237 := n1_; have HO242 := n2_; have HB := n3_; clear n0_ n1_ n2_ n3_; (try clear hb); (try clear hb2); (try clear hk); (try clear hi); (try clear ho0)))
    (try simp only [Act.put, List.setIfInBounds_toArray, List.set_cons_zero, List.set_cons_succ])
    go_cut [43] (fun v43 wc => ∃ (kq : Nat) (x43_6 : Bool), v43 = .bool x43_6 ∧ Aside0 (laws_FnEquipped.j0 kq t232 t235 (Int.tmod t238 5) t239 t240 x43_6 = some r) ∧ Aside0 (kq ≤ k) ∧ Aside0 (Kd.R k36 36 wc w.heap.size (fun _ => True) (.slice Ao11 t232.length co11) t232) ∧ Aside0 (Kd.R (Kd.int .i64) 3 wc w.heap.size (fun k_ => some k_ ≠ (v241 : Value).ownBlock) (.slice Ao12 t235.length co12) t235) ∧ Aside0 (Kd.R (Kd.int .i64) 3 wc w.heap.size (fun k_ => some k_ ≠ ((.slice Ao12 t235.length co12) : Value).ownBlock) v241 t239) ∧ Aside0 (Below w.heap.size w wc))
    case first =>
      have H := HC7.out
      clear HC7
      replace H := Option.bind_eq_some_iff.mp H
      obtain ⟨t243, A140, H⟩ := H
      replace H : (if (t240 != t243) = true then (laws_FnEquipped.j0 k t232 t235 (Int.tmod t238 5) t239 t240 true) else ((impl_StockOk.f k t232).bind fun t244 => (laws_FnEquipped.j0 k t232 t235 (Int.tmod t238 5) t239 t240 (!t244)))) = some r := H
      have A14 := Aside0.mk A140
      clear A140
      by_cases c15 : (t240 != t243) = true
      · rw [if_pos c15] at H
        have c15b0 : (t240 != t243) = true := c15
        (try (have c15b1 : decide (t240 = t243) = false := by simpa using c15))
        (try (have c15b2 : (t240 == t243) = false := by simpa using c15))
        (try (have c15b3 : ¬ (t240 = t243) := by simpa using c15))
        clear c15
        (first | rw [c15b0] | (simp only [i64_w, i32_w]; rw [c15b0]) | skip)
        have H' := Aside0.mk H
        clear H
        go_wp2_with (first | ((with_reducible refine gate_callee (f := 14) rfl ?_); refine goesL_ (some 37) rfl rfl Try.func14 (by kernel_rfl) rfl #[.slice Ao11 t232.length co11, .slice Ao12 t235.length co12, .int .i64 (Int.tmod t238 5)] rfl (by (try simp only [List.map_toArray, List.map_cons, List.map_nil]); first | done | rfl | (simp only [List.length_drop, List.length_take]; rfl)) ?_; (with_reducible refine (impl_CanEquip.calls k _ _ t232 _ _ t235 (Int.tmod t238 5) t243 _ ?side1 ?side2 ?side3 ?side4 A14.out).mono ?_); (case side1 => repeat (first | exact (Kd.R_reads' HO234.out).2.2 | (with_reducible refine Kd.C_alloc ?_ _) | (with_reducible refine Kd.C_drewN ?_ _) | (with_reducible refine Kd.C_drew ?_))); (case side2 => exact (Kd.R_reads' HO234.out).2.1); (case side3 => repeat (first | exact (Kd.R_reads' HO237.out).2.2 | (with_reducible refine Kd.C_alloc ?_ _) | (with_reducible refine Kd.C_drewN ?_ _) | (with_reducible refine Kd.C_drew ?_))); (case side4 => exact (Kd.R_reads' HO237.out).2.1); rintro e w16 ⟨rfl, hb⟩; refine ⟨_, rfl, ?_⟩; have n0_ := Aside0.mk (Kd.R_below (by (with_reducible repeat (first | apply Kd.R_alloc | apply Kd.R_drewN | apply Kd.R_drew)); exact HO234.out) hb); have n1_ := Aside0.mk (Kd.R_below (by (with_reducible repeat (first | apply Kd.R_alloc | apply Kd.R_drewN | apply Kd.R_drew)); exact HO237.out) hb); have n2_ := Aside0.mk (Kd.R_below (by (with_reducible repeat (first | apply Kd.R_alloc | apply Kd.R_drewN | apply Kd.R_drew)); exact HO242.out) hb); have n3_ := Aside0.mk (below_step (by repeat (first | (with_reducible first | exact HB.out | apply below_alloc | apply pw_below_drewN | apply below_drew1) | exact HB.out)) hb); clear HO234; clear HO237; clear HO242; clear HB; have HO234 := n0_; have HO237 := n1_; have HO242 := n2_; have HB := n3_; clear n0_ n1_ n2_ n3_; (try clear hb); (try clear hb2); (try clear hk); (try clear hi)))
        go_meet
        case rel => exact ⟨_, (true), (by first | rfl | (simp; done) | (simp [*]; done)), H', ⟨by first | omega | exact Nat.le_refl _⟩, ⟨by (with_reducible repeat (first | apply Kd.R_alloc | apply Kd.R_drewN | apply Kd.R_drew)); exact HO234.out⟩, ⟨by (with_reducible repeat (first | apply Kd.R_alloc | apply Kd.R_drewN | apply Kd.R_drew)); exact Kd.R_mono HO237.out (fun _ hk => hk.2)⟩, ⟨by (with_reducible repeat (first | apply Kd.R_alloc | apply Kd.R_drewN | apply Kd.R_drew)); exact Kd.R_mono HO242.out (fun _ hk => hk.2)⟩, ⟨by repeat (first | (with_reducible first | exact HB.out | apply below_alloc | apply pw_below_drewN | apply below_drew1) | exact HB.out)⟩⟩
      · rw [if_neg c15] at H
        have c15b0 : (t240 != t243) = false := by simpa using c15
        (try (have c15b1 : decide (t240 = t243) = true := by simpa using c15))
        (try (have c15b2 : (t240 == t243) = true := by simpa using c15))
        clear c15
        (first | rw [c15b0] | (simp only [i64_w, i32_w]; rw [c15b0]) | skip)
        replace H := Option.bind_eq_some_iff.mp H
        obtain ⟨t244, A170, H⟩ := H
        replace H : (laws_FnEquipped.j0 k t232 t235 (Int.tmod t238 5) t239 t240 (!t244)) = some r := H
        have A17 := Aside0.mk A170
        clear A170
        have H' := Aside0.mk H
        clear H
        go_wp2_with (first | ((with_reducible refine gate_callee (f := 14) rfl ?_); refine goesL_ (some 37) rfl rfl Try.func14 (by kernel_rfl) rfl #[.slice Ao11 t232.length co11, .slice Ao12 t235.length co12, .int .i64 (Int.tmod t238 5)] rfl (by (try simp only [List.map_toArray, List.map_cons, List.map_nil]); first | done | rfl | (simp only [List.length_drop, List.length_take]; rfl)) ?_; (with_reducible refine (impl_CanEquip.calls k _ _ t232 _ _ t235 (Int.tmod t238 5) t243 _ ?side1 ?side2 ?side3 ?side4 A14.out).mono ?_); (case side1 => repeat (first | exact (Kd.R_reads' HO234.out).2.2 | (with_reducible refine Kd.C_alloc ?_ _) | (with_reducible refine Kd.C_drewN ?_ _) | (with_reducible refine Kd.C_drew ?_))); (case side2 => exact (Kd.R_reads' HO234.out).2.1); (case side3 => repeat (first | exact (Kd.R_reads' HO237.out).2.2 | (with_reducible refine Kd.C_alloc ?_ _) | (with_reducible refine Kd.C_drewN ?_ _) | (with_reducible refine Kd.C_drew ?_))); (case side4 => exact (Kd.R_reads' HO237.out).2.1); rintro e w18 ⟨rfl, hb⟩; refine ⟨_, rfl, ?_⟩; have n0_ := Aside0.mk (Kd.R_below (by (with_reducible repeat (first | apply Kd.R_alloc | apply Kd.R_drewN | apply Kd.R_drew)); exact HO234.out) hb); have n1_ := Aside0.mk (Kd.R_below (by (with_reducible repeat (first | apply Kd.R_alloc | apply Kd.R_drewN | apply Kd.R_drew)); exact HO237.out) hb); have n2_ := Aside0.mk (Kd.R_below (by (with_reducible repeat (first | apply Kd.R_alloc | apply Kd.R_drewN | apply Kd.R_drew)); exact HO242.out) hb); have n3_ := Aside0.mk (below_step (by repeat (first | (with_reducible first | exact HB.out | apply below_alloc | apply pw_below_drewN | apply below_drew1) | exact HB.out)) hb); clear HO234; clear HO237; clear HO242; clear HB; have HO234 := n0_; have HO237 := n1_; have HO242 := n2_; have HB := n3_; clear n0_ n1_ n2_ n3_; (try clear hb); (try clear hb2); (try clear hk); (try clear hi)) | (go_at_call 15; (with_reducible refine (impl_StockOk.calls k _ _ t232 t244 _ ?side1 ?side2 A17.out).mono ?_); (case side1 => repeat (first | exact (Kd.R_reads' HO234.out).2.2 | (with_reducible refine Kd.C_alloc ?_ _) | (with_reducible refine Kd.C_drewN ?_ _) | (with_reducible refine Kd.C_drew ?_))); (case side2 => exact (Kd.R_reads' HO234.out).2.1); rintro e w19 ⟨rfl, hb⟩; have n0_ := Aside0.mk (Kd.R_below (by (with_reducible repeat (first | apply Kd.R_alloc | apply Kd.R_drewN | apply Kd.R_drew)); exact HO234.out) hb); have n1_ := Aside0.mk (Kd.R_below (by (with_reducible repeat (first | apply Kd.R_alloc | apply Kd.R_drewN | apply Kd.R_drew)); exact HO237.out) hb); have n2_ := Aside0.mk (Kd.R_below (by (with_reducible repeat (first | apply Kd.R_alloc | apply Kd.R_drewN | apply Kd.R_drew)); exact HO242.out) hb); have n3_ := Aside0.mk (below_step (by repeat (first | (with_reducible first | exact HB.out | apply below_alloc | apply pw_below_drewN | apply below_drew1) | exact HB.out)) hb); clear HO234; clear HO237; clear HO242; clear HB; have HO234 := n0_; have HO237 := n1_; have HO242 := n2_; have HB := n3_; clear n0_ n1_ n2_ n3_; (try clear hb); (try clear hb2); (try clear hk); (try clear hi)))
        go_meet
        case rel => exact ⟨_, (!t244), (by first | rfl | (simp; done) | (simp [*]; done)), H', ⟨by first | omega | exact Nat.le_refl _⟩, ⟨by (with_reducible repeat (first | apply Kd.R_alloc | apply Kd.R_drewN | apply Kd.R_drew)); exact HO234.out⟩, ⟨by (with_reducible repeat (first | apply Kd.R_alloc | apply Kd.R_drewN | apply Kd.R_drew)); exact Kd.R_mono HO237.out (fun _ hk => hk.2)⟩, ⟨by (with_reducible repeat (first | apply Kd.R_alloc | apply Kd.R_drewN | apply Kd.R_drew)); exact Kd.R_mono HO242.out (fun _ hk => hk.2)⟩, ⟨by repeat (first | (with_reducible first | exact HB.out | apply below_alloc | apply pw_below_drewN | apply below_drew1) | exact HB.out)⟩⟩
    case rest =>
      clear HC7
      try clear c1
      try clear c2
      try clear c2b0
      try clear c2b1
      try clear p2
      try clear c3
      try clear c10
      try clear c11
      try clear c12
      try clear c13
      try clear c14
      try clear c15
      try clear c15b0
      try clear c15b1
      try clear c15b2
      obtain ⟨kq, x43_6, rfl, HA, HJ6, HO_3, HO_4, HO_6, HB⟩ := hcut
      cases kq with
      | zero => exact absurd HA.out (by simp [laws_FnEquipped.j0])
      | succ kj6 =>
        have H := HA.out
        clear HA
        simp only [laws_FnEquipped.j0] at H
        by_cases c20 : x43_6 = true
        · subst c20
          have H1 : (some false) = some r := by rw [if_pos rfl] at H; exact H
          clear H
          have H := H1
          clear H1
          obtain rfl := Option.some.inj H
          go_wp2
          go_ret
          exact ⟨by first | rfl | (simp [errW_none, errW_some] <;> rfl) | (simp [*, errW_none, errW_some] <;> rfl), by repeat (first | (with_reducible first | exact HB.out | apply below_alloc | apply pw_below_drewN | apply below_drew1) | exact HB.out)⟩
        · replace c20 := Bool.eq_false_iff.mpr c20
          subst c20
          have H1 : (if t240 = true then (if (t239.length : Int) = (t235.length : Int) then (laws_FnEquipped.l2 kj6 t232 t235 (Int.tmod t238 5) t239 t239 (t239.length : Int) 0) else (some false)) else (laws_FnEquipped.l0 kj6 t232 t235 (Int.tmod t238 5) t239 t235 (t235.length : Int) 0)) = some r := by rw [if_neg (show ¬ (false = true) by decide)] at H; exact H
          clear H
          have H := H1
          clear H1
          by_cases c21 : t240 = true
          · subst c21
            have H1 : (if (t239.length : Int) = (t235.length : Int) then (laws_FnEquipped.l2 kj6 t232 t235 (Int.tmod t238 5) t239 t239 (t239.length : Int) 0) else (some false)) = some r := by rw [if_pos rfl] at H; exact H
            clear H
            have H := H1
            clear H1
            by_cases c22 : (t239.length : Int) = (t235.length : Int)
            · rw [if_pos c22] at H
              have c22b0 : ((t239.length : Int) == (t235.length : Int)) = true := beq_iff_eq.mpr c22
              have c22b1 : ((t239.length : Int) != (t235.length : Int)) = false := bne_eq_false_iff_eq.mpr c22
              have c22b2 : (t239.length == t235.length) = true := by first | simpa using c22 | (simp at c22 ⊢; omega)
              clear c22
              have H' := Aside0.mk H
              clear H
              obtain ⟨Ao23, co23, eo23⟩ := Kd.R_slice HO_6.out
              subst eo23
              go_wp2
              go_loopg [83] kj6 (fun kq v83 w' => ∃ (x83_2 : Int), v83 = .int .i64 x83_2 ∧ Aside0 (laws_FnEquipped.l2 kq t232 t235 (Int.tmod t238 5) t239 t239 (t239.length : Int) x83_2 = some r) ∧ Aside0 (kq ≤ kj6) ∧ Aside0 (Kd.R k36 36 w' w.heap.size (fun _ => True) (.slice Ao11 t232.length co11) t232) ∧ Aside0 (Kd.R (Kd.int .i64) 3 w' w.heap.size (fun k_ => some k_ ≠ ((.slice Ao23 t239.length co23) : Value).ownBlock ∧ some k_ ≠ ((.slice Ao23 t239.length co23) : Value).ownBlock) (.slice Ao12 t235.length co12) t235) ∧ Aside0 (Kd.R (Kd.int .i64) 3 w' w.heap.size (fun k_ => some k_ ≠ ((.slice Ao12 t235.length co12) : Value).ownBlock) (.slice Ao23 t239.length co23) t239) ∧ Aside0 (Kd.R (Kd.int .i64) 3 w' w.heap.size (fun k_ => some k_ ≠ ((.slice Ao12 t235.length co12) : Value).ownBlock) (.slice Ao23 t239.length co23) t239) ∧ Aside0 (Below w.heap.size w w'))
              case atStart => exact ⟨(0), (by first | rfl | (simp; done) | (simp [*]; done)), H', ⟨Nat.le_refl _⟩, ⟨by (with_reducible repeat (first | apply Kd.R_alloc | apply Kd.R_drewN | apply Kd.R_drew)); exact HO_3.out⟩, ⟨by (with_reducible repeat (first | apply Kd.R_alloc | apply Kd.R_drewN | apply Kd.R_drew)); exact Kd.R_mono HO_4.out (fun _ hk => ⟨hk, hk⟩)⟩, ⟨by (with_reducible repeat (first | apply Kd.R_alloc | apply Kd.R_drewN | apply Kd.R_drew)); exact HO_6.out⟩, ⟨by (with_reducible repeat (first | apply Kd.R_alloc | apply Kd.R_drewN | apply Kd.R_drew)); exact HO_6.out⟩, ⟨by repeat (first | (with_reducible first | exact HB.out | apply below_alloc | apply pw_below_drewN | apply below_drew1) | exact HB.out)⟩⟩
              case round =>
                clear H'
                try clear c1
                try clear c2
                try clear c2b0
                try clear c2b1
                try clear p2
                try clear c3
                try clear c10
                try clear c11
                try clear c12
                try clear c13
                try clear c14
                try clear c15
                try clear c15b0
                try clear c15b1
                try clear c15b2
                try clear c20
                try clear c21
                try clear c22
                try clear c22b0
                try clear c22b1
                try clear c22b2
                try clear p2
                obtain ⟨x83_2, rfl, HA, HK2, HO_3, HO_4, HO_6, HO_81, HB⟩ := hrel
                cases gk with
                | zero => exact absurd HA.out (by simp [laws_FnEquipped.l2])
                | succ k2 =>
                  have H := HA.out
                  clear HA
                  simp only [laws_FnEquipped.l2] at H
                  by_cases c24 : x83_2 < (t239.length : Int)
                  · rw [if_pos c24] at H
                    have c24b0 : decide (x83_2 < (t239.length : Int)) = true := decide_eq_true c24
                    clear c24
                    by_cases c25 : 0 ≤ x83_2
                    · rw [if_pos c25] at H
                      have c25b0 : decide (0 ≤ x83_2) = true := decide_eq_true c25
                      clear c25
                      by_cases c26 : x83_2 < (t239.length : Int)
                      · rw [if_pos c26] at H
                        have c26b0 : decide (x83_2 < (t239.length : Int)) = true := decide_eq_true c26
                        clear c26
                        by_cases c27 : (rd t239 x83_2) < 0
                        · rw [if_pos c27] at H
                          have c27b0 : decide ((rd t239 x83_2) < 0) = true := decide_eq_true c27
                          clear c27
                          obtain rfl := Option.some.inj H
                          have p254 : 0 ≤ (x83_2 : Int) := of_decide_eq_true (by first | (with_reducible assumption) | assumption)
                          have q254 : x83_2 < (t239.length : Int) := of_decide_eq_true (by first | (with_reducible assumption) | assumption)
                          obtain ⟨ad254, e254, hx254_0⟩ := Kd.at_int (Kd.R_reads' HO_81.out).2.2 x83_2 p254 q254
                          cases e254
                          replace p254 := eq_true p254
                          replace q254 := eq_true q254
                          go_wp2
                          go_ret
                          exact ⟨by first | rfl | (simp [errW_none, errW_some] <;> rfl) | (simp [*, errW_none, errW_some] <;> rfl), by repeat (first | (with_reducible first | exact HB.out | apply below_alloc | apply pw_below_drewN | apply below_drew1) | exact HB.out)⟩
                        · rw [if_neg c27] at H
                          have c27b0 : decide ((rd t239 x83_2) < 0) = false := decide_eq_false c27
                          clear c27
                          by_cases c28 : (rd t239 x83_2) ≥ (t232.length : Int)
                          · rw [if_pos c28] at H
                            have c28b0 : decide ((t232.length : Int) ≤ (rd t239 x83_2)) = true := decide_eq_true c28
                            clear c28
                            obtain rfl := Option.some.inj H
                            have p254 : 0 ≤ (x83_2 : Int) := of_decide_eq_true (by first | (with_reducible assumption) | assumption)
                            have q254 : x83_2 < (t239.length : Int) := of_decide_eq_true (by first | (with_reducible assumption) | assumption)
                            obtain ⟨ad254, e254, hx254_0⟩ := Kd.at_int (Kd.R_reads' HO_81.out).2.2 x83_2 p254 q254
                            cases e254
                            replace p254 := eq_true p254
                            replace q254 := eq_true q254
                            go_wp2
                            go_ret
                            exact ⟨by first | rfl | (simp [errW_none, errW_some] <;> rfl) | (simp [*, errW_none, errW_some] <;> rfl), by repeat (first | (with_reducible first | exact HB.out | apply below_alloc | apply pw_below_drewN | apply below_drew1) | exact HB.out)⟩
                          · rw [if_neg c28] at H
                            have c28b0 : decide ((t232.length : Int) ≤ (rd t239 x83_2)) = false := decide_eq_false c28
                            clear c28
                            have c29b0 := eq_true (of_decide_eq_true (by first | (with_reducible assumption) | assumption) : 0 ≤ x83_2)
                            by_cases c30 : x83_2 ≤ (t239.length : Int)
                            · rw [if_pos c30] at H
                              have c30b0 := eq_true c30
                              have c30b1 : decide (x83_2 ≤ (t239.length : Int)) = true := decide_eq_true c30
                              clear c30
                              obtain ⟨y255, hy255⟩ : ∃ y_ : List Int, y_ = (t239.take (x83_2 : Int).toNat) := ⟨_, rfl⟩
                              replace H : ((laws_has.f k2 y255 (rd t239 x83_2)).bind fun t259 => (if t259 = true then (some false) else (if x83_2 < (t235.length : Int) then ((impl_Usable.f k2 t232 (rd t235 x83_2) (Int.tmod t238 5)).bind fun t261 => ((laws_has.f k2 t261 (rd t239 x83_2)).bind fun t264 => (if t264 = true then (if 0 ≤ (rd t239 x83_2) then (if (rd t239 x83_2) < (t232.length : Int) then ((impl_ItemOk.f k2 ((rd_T36 t232 (rd t239 x83_2)).f0) ((rd_T36 t232 (rd t239 x83_2)).f1) ((rd_T36 t232 (rd t239 x83_2)).f2)).bind fun t266 => (if t266 = true then (laws_FnEquipped.l2 k2 t232 t235 (Int.tmod t238 5) t239 t239 (t239.length : Int) (wrap64 (x83_2 + 1))) else (some false))) else (none)) else (none)) else (some false)))) else (none)))) = some r := by first | (rw [hy255]; with_reducible exact H) | (have H2_ := (Option.bind_some _ _).symm.trans H; rw [hy255]; with_reducible exact H2_) | (have H2_ := (Option.bind_some _ _).symm.trans H; with_reducible exact H2_) | with_reducible exact H | (rw [hy255]; exact H) | exact H
                              have Ny255 := Aside0.mk hy255
                              clear hy255
                              replace H := Option.bind_eq_some_iff.mp H
                              obtain ⟨t259, A310, H⟩ := H
                              replace H : (if t259 = true then (some false) else (if x83_2 < (t235.length : Int) then ((impl_Usable.f k2 t232 (rd t235 x83_2) (Int.tmod t238 5)).bind fun t261 => ((laws_has.f k2 t261 (rd t239 x83_2)).bind fun t264 => (if t264 = true then (if 0 ≤ (rd t239 x83_2) then (if (rd t239 x83_2) < (t232.length : Int) then ((impl_ItemOk.f k2 ((rd_T36 t232 (rd t239 x83_2)).f0) ((rd_T36 t232 (rd t239 x83_2)).f1) ((rd_T36 t232 (rd t239 x83_2)).f2)).bind fun t266 => (if t266 = true then (laws_FnEquipped.l2 k2 t232 t235 (Int.tmod t238 5) t239 t239 (t239.length : Int) (wrap64 (x83_2 + 1))) else (some false))) else (none)) else (none)) else (some false)))) else (none))) = some r := H
                              have A31 := Aside0.mk A310
                              clear A310
                              by_cases c32 : t259 = true
                              · subst c32
                                have H1 : (some false) = some r := by rw [if_pos rfl] at H; exact H
                                clear H
                                have H := H1
                                clear H1
                                obtain rfl := Option.some.inj H
                                have p254 : 0 ≤ (x83_2 : Int) := of_decide_eq_true (by first | (with_reducible assumption) | assumption)
                                have q254 : x83_2 < (t239.length : Int) := of_decide_eq_true (by first | (with_reducible assumption) | assumption)
                                obtain ⟨ad254, e254, hx254_0⟩ := Kd.at_int (Kd.R_reads' HO_81.out).2.2 x83_2 p254 q254
                                cases e254
                                replace p254 := eq_true p254
                                replace q254 := eq_true q254
                                have q33 : (x83_2 : Int) ≤ ((t239.length : Int) : Int) := of_decide_eq_true (by first | (with_reducible assumption) | assumption)
                                obtain ⟨i033, hi033, _, hsz33, _⟩ := info_parts info3
                                have hroom33 : t239.length ≤ co23 := (Kd.R_reads' HO_6.out).2.1
                                have hC33 : Kd.C (Kd.int .i64) _ (some ad254) t239.length t239 := (Kd.R_reads' HO_6.out).2.2
                                have hcut33 := cut_to (P := Try.prog) 25 3 .i64 Try.underlying25 hi033 (some ad254) t239.length co23 x83_2 (of_decide_eq_true (by first | (with_reducible assumption) | assumption)) q33 hroom33
                                have hr33 := Kd.C_take (m := (x83_2 : Int).toNat) hC33 (by omega)
                                have hy33 : y255.length = (x83_2 : Int).toNat := (by rw [Ny255.out, List.length_take]; omega)
                                rw [← Ny255.out] at hr33
                                rw [← hy33] at hcut33
                                have HR258 := Aside0.mk hr33
                                have HC258 := Aside0.mk (show y255.length ≤ co23 from by omega)
                                clear hr33 hC33 hroom33 hi033 hsz33
                                have KY33 := Aside0.mk hy33
                                clear hy33
                                have KL33 := Aside0.mk (show (x83_2 : Int).toNat ≤ t239.length from by omega)
                                replace q33 := eq_true q33
                                go_wp2_with (first | (go_at_call 17; (with_reducible refine (laws_has.calls k2 _ _ y255 (rd t239 x83_2) true _ ?side1 ?side2 A31.out).mono ?_); (case side1 => repeat (first | exact (by repeat (first | (with_reducible exact HR258.out) | (with_reducible refine Kd.C_alloc ?_ _) | (with_reducible refine Kd.C_drewN ?_ _) | (with_reducible refine Kd.C_drew ?_) | exact HR258.out)) | (with_reducible refine Kd.C_alloc ?_ _) | (with_reducible refine Kd.C_drewN ?_ _) | (with_reducible refine Kd.C_drew ?_))); (case side2 => exact HC258.out); rintro e w' ⟨rfl, ⟨nd, rfl⟩⟩))
                                go_ret
                                exact ⟨by first | rfl | (simp [errW_none, errW_some] <;> rfl) | (simp [*, errW_none, errW_some] <;> rfl), by repeat (first | (with_reducible first | exact HB.out | apply below_alloc | apply pw_below_drewN | apply below_drew1) | exact HB.out)⟩
                              · replace c32 := Bool.eq_false_iff.mpr c32
                                subst c32
                                have H1 : (if x83_2 < (t235.length : Int) then ((impl_Usable.f k2 t232 (rd t235 x83_2) (Int.tmod t238 5)).bind fun t261 => ((laws_has.f k2 t261 (rd t239 x83_2)).bind fun t264 => (if t264 = true then (if 0 ≤ (rd t239 x83_2) then (if (rd t239 x83_2) < (t232.length : Int) then ((impl_ItemOk.f k2 ((rd_T36 t232 (rd t239 x83_2)).f0) ((rd_T36 t232 (rd t239 x83_2)).f1) ((rd_T36 t232 (rd t239 x83_2)).f2)).bind fun t266 => (if t266 = true then (laws_FnEquipped.l2 k2 t232 t235 (Int.tmod t238 5) t239 t239 (t239.length : Int) (wrap64 (x83_2 + 1))) else (some false))) else (none)) else (none)) else (some false)))) else (none)) = some r := by rw [if_neg (show ¬ (false = true) by decide)] at H; exact H
                                clear H
                                have H := H1
                                clear H1
                                by_cases c34 : x83_2 < (t235.length : Int)
                                · rw [if_pos c34] at H
                                  have c34b0 : decide (x83_2 < (t235.length : Int)) = true := decide_eq_true c34
                                  clear c34
                                  replace H := Option.bind_eq_some_iff.mp H
                                  obtain ⟨t261, A350, H⟩ := H
                                  replace H : ((laws_has.f k2 t261 (rd t239 x83_2)).bind fun t264 => (if t264 = true then (if 0 ≤ (rd t239 x83_2) then (if (rd t239 x83_2) < (t232.length : Int) then ((impl_ItemOk.f k2 ((rd_T36 t232 (rd t239 x83_2)).f0) ((rd_T36 t232 (rd t239 x83_2)).f1) ((rd_T36 t232 (rd t239 x83_2)).f2)).bind fun t266 => (if t266 = true then (laws_FnEquipped.l2 k2 t232 t235 (Int.tmod t238 5) t239 t239 (t239.length : Int) (wrap64 (x83_2 + 1))) else (some false))) else (none)) else (none)) else (some false))) = some r := H
                                  have A35 := Aside0.mk A350
                                  clear A350
                                  replace H := Option.bind_eq_some_iff.mp H
                                  obtain ⟨t264, A360, H⟩ := H
                                  replace H : (if t264 = true then (if 0 ≤ (rd t239 x83_2) then (if (rd t239 x83_2) < (t232.length : Int) then ((impl_ItemOk.f k2 ((rd_T36 t232 (rd t239 x83_2)).f0) ((rd_T36 t232 (rd t239 x83_2)).f1) ((rd_T36 t232 (rd t239 x83_2)).f2)).bind fun t266 => (if t266 = true then (laws_FnEquipped.l2 k2 t232 t235 (Int.tmod t238 5) t239 t239 (t239.length : Int) (wrap64 (x83_2 + 1))) else (some false))) else (none)) else (none)) else (some false)) = some r := H
                                  have A36 := Aside0.mk A360
                                  clear A360
                                  by_cases c37 : t264 = true
                                  · subst c37
                                    have H1 : (if 0 ≤ (rd t239 x83_2) then (if (rd t239 x83_2) < (t232.length : Int) then ((impl_ItemOk.f k2 ((rd_T36 t232 (rd t239 x83_2)).f0) ((rd_T36 t232 (rd t239 x83_2)).f1) ((rd_T36 t232 (rd t239 x83_2)).f2)).bind fun t266 => (if t266 = true then (laws_FnEquipped.l2 k2 t232 t235 (Int.tmod t238 5) t239 t239 (t239.length : Int) (wrap64 (x83_2 + 1))) else (some false))) else (none)) else (none)) = some r := by rw [if_pos rfl] at H; exact H
                                    clear H
                                    have H := H1
                                    clear H1
                                    by_cases c38 : 0 ≤ (rd t239 x83_2)
                                    · rw [if_pos c38] at H
                                      have c38b0 : decide (0 ≤ (rd t239 x83_2)) = true := decide_eq_true c38
                                      clear c38
                                      by_cases c39 : (rd t239 x83_2) < (t232.length : Int)
                                      · rw [if_pos c39] at H
                                        have c39b0 : decide ((rd t239 x83_2) < (t232.length : Int)) = true := decide_eq_true c39
                                        clear c39
                                        replace H := Option.bind_eq_some_iff.mp H
                                        obtain ⟨t266, A400, H⟩ := H
                                        replace H : (if t266 = true then (laws_FnEquipped.l2 k2 t232 t235 (Int.tmod t238 5) t239 t239 (t239.length : Int) (wrap64 (x83_2 + 1))) else (some false)) = some r := H
                                        have A40 := Aside0.mk A400
                                        clear A400
                                        by_cases c41 : t266 = true
                                        · subst c41
                                          have H1 : (laws_FnEquipped.l2 k2 t232 t235 (Int.tmod t238 5) t239 t239 (t239.length : Int) (wrap64 (x83_2 + 1))) = some r := by rw [if_pos rfl] at H; exact H
                                          clear H
                                          have H := H1
                                          clear H1
                                          have H' := Aside0.mk H
                                          clear H
                                          have p254 : 0 ≤ (x83_2 : Int) := of_decide_eq_true (by first | (with_reducible assumption) | assumption)
                                          have q254 : x83_2 < (t239.length : Int) := of_decide_eq_true (by first | (with_reducible assumption) | assumption)
                                          obtain ⟨ad254, e254, hx254_0⟩ := Kd.at_int (Kd.R_reads' HO_81.out).2.2 x83_2 p254 q254
                                          cases e254
                                          replace p254 := eq_true p254
                                          replace q254 := eq_true q254
                                          have q42 : (x83_2 : Int) ≤ ((t239.length : Int) : Int) := of_decide_eq_true (by first | (with_reducible assumption) | assumption)
                                          obtain ⟨i042, hi042, _, hsz42, _⟩ := info_parts info3
                                          have hroom42 : t239.length ≤ co23 := (Kd.R_reads' HO_6.out).2.1
                                          have hC42 : Kd.C (Kd.int .i64) _ (some ad254) t239.length t239 := (Kd.R_reads' HO_6.out).2.2
                                          have hcut42 := cut_to (P := Try.prog) 25 3 .i64 Try.underlying25 hi042 (some ad254) t239.length co23 x83_2 (of_decide_eq_true (by first | (with_reducible assumption) | assumption)) q42 hroom42
                                          have hr42 := Kd.C_take (m := (x83_2 : Int).toNat) hC42 (by omega)
                                          have hy42 : y255.length = (x83_2 : Int).toNat := (by rw [Ny255.out, List.length_take]; omega)
                                          rw [← Ny255.out] at hr42
                                          rw [← hy42] at hcut42
                                          have HR258 := Aside0.mk hr42
                                          have HC258 := Aside0.mk (show y255.length ≤ co23 from by omega)
                                          clear hr42 hC42 hroom42 hi042 hsz42
                                          have KY42 := Aside0.mk hy42
                                          clear hy42
                                          have KL42 := Aside0.mk (show (x83_2 : Int).toNat ≤ t239.length from by omega)
                                          replace q42 := eq_true q42
                                          go_wp2_with (first | (go_at_call 17; (with_reducible refine (laws_has.calls k2 _ _ y255 (rd t239 x83_2) false _ ?side1 ?side2 A31.out).mono ?_); (case side1 => repeat (first | exact (by repeat (first | (with_reducible exact HR258.out) | (with_reducible refine Kd.C_alloc ?_ _) | (with_reducible refine Kd.C_drewN ?_ _) | (with_reducible refine Kd.C_drew ?_) | exact HR258.out)) | (with_reducible refine Kd.C_alloc ?_ _) | (with_reducible refine Kd.C_drewN ?_ _) | (with_reducible refine Kd.C_drew ?_))); (case side2 => exact HC258.out); rintro e w' ⟨rfl, ⟨nd, rfl⟩⟩; have p260 : 0 ≤ (x83_2 : Int) := of_decide_eq_true (by first | (with_reducible assumption) | assumption); have q260 : x83_2 < (t235.length : Int) := of_decide_eq_true (by first | (with_reducible assumption) | assumption); obtain ⟨ad260, e260, hx260_0⟩ := Kd.at_int (Kd.R_reads' HO_4.out).2.2 x83_2 p260 q260; cases e260; replace p260 := eq_true p260; replace q260 := eq_true q260) | (go_at_call 16; (with_reducible refine (impl_Usable.calls k2 _ _ t232 (rd t235 x83_2) (Int.tmod t238 5) t261 _ ?side1 ?side2 A35.out).mono ?_); (case side1 => repeat (first | exact (Kd.R_reads' HO_3.out).2.2 | (with_reducible refine Kd.C_alloc ?_ _) | (with_reducible refine Kd.C_drewN ?_ _) | (with_reducible refine Kd.C_drew ?_))); (case side2 => exact (Kd.R_reads' HO_3.out).2.1); rintro e w43 ⟨v262, rfl, ho0, hb⟩; have n0_ := Aside0.mk (Kd.R_below (by (with_reducible repeat (first | apply Kd.R_alloc | apply Kd.R_drewN | apply Kd.R_drew)); exact HO_3.out) hb); have n1_ := Aside0.mk (Kd.R_elder' (by (with_reducible repeat (first | apply Kd.R_alloc | apply Kd.R_drewN | apply Kd.R_drew)); exact HO_4.out) (Kd.R_base ho0) hb); have n2_ := Aside0.mk (Kd.R_elder' (by (with_reducible repeat (first | apply Kd.R_alloc | apply Kd.R_drewN | apply Kd.R_drew)); exact HO_6.out) (Kd.R_base ho0) hb); have n3_ := Aside0.mk (Kd.R_elder' (by (with_reducible repeat (first | apply Kd.R_alloc | apply Kd.R_drewN | apply Kd.R_drew)); exact HO_81.out) (Kd.R_base ho0) hb); have n4_ := Aside0.mk (Kd.R_lower (Kd.R_new' (Kd.R_new' (Kd.R_new' ho0 (Kd.R_lt (by (with_reducible repeat (first | apply Kd.R_alloc | apply Kd.R_drewN | apply Kd.R_drew)); exact HO_4.out))) (Kd.R_lt (by (with_reducible repeat (first | apply Kd.R_alloc | apply Kd.R_drewN | apply Kd.R_drew)); exact HO_6.out))) (Kd.R_lt (by (with_reducible repeat (first | apply Kd.R_alloc | apply Kd.R_drewN | apply Kd.R_drew)); exact HO_81.out))) (below_size (by repeat (first | (with_reducible first | exact HB.out | apply below_alloc | apply pw_below_drewN | apply below_drew1) | exact HB.out)))); have n5_ := Aside0.mk (Kd.C_below (by repeat (first | (with_reducible exact HR258.out) | (with_reducible refine Kd.C_alloc ?_ _) | (with_reducible refine Kd.C_drewN ?_ _) | (with_reducible refine Kd.C_drew ?_) | exact HR258.out)) hb); have n6_ := Aside0.mk (below_step (by repeat (first | (with_reducible first | exact HB.out | apply below_alloc | apply pw_below_drewN | apply below_drew1) | exact HB.out)) hb); clear HO_3; clear HO_4; clear HO_6; clear HO_81; clear HR258; clear HB; have HO_3 := n0_; have HO_4 := n1_; have HO_6 := n2_; have HO_81 := n3_; have HO263 := n4_; have HR258 := n5_; have HB := n6_; clear n0_ n1_ n2_ n3_ n4_ n5_ n6_; (try clear hb); (try clear hb2); (try clear hk); (try clear hi); (try clear ho0); obtain ⟨Ao44, co44, eo44⟩ := Kd.R_slice HO263.out; subst eo44) | (go_at_call 17; (with_reducible refine (laws_has.calls k2 _ _ t261 (rd t239 x83_2) true _ ?side1 ?side2 A36.out).mono ?_); (case side1 => repeat (first | exact (Kd.R_reads' HO263.out).2.2 | (with_reducible refine Kd.C_alloc ?_ _) | (with_reducible refine Kd.C_drewN ?_ _) | (with_reducible refine Kd.C_drew ?_))); (case side2 => exact (Kd.R_reads' HO263.out).2.1); rintro e w' ⟨rfl, ⟨nd, rfl⟩⟩; have p265 : 0 ≤ ((rd t239 x83_2) : Int) := of_decide_eq_true (by first | (with_reducible assumption) | assumption); have q265 : (rd t239 x83_2) < (t232.length : Int) := of_decide_eq_true (by first | (with_reducible assumption) | assumption); obtain ⟨ad265, e265, hx265_0, hx265_1, hx265_2⟩ := at_T36 (Kd.R_reads' HO_3.out).2.2 (rd t239 x83_2) p265 q265; cases e265; replace p265 := eq_true p265; replace q265 := eq_true q265) | (go_at_call 18; (with_reducible refine (impl_ItemOk.calls k2 ((rd_T36 t232 (rd t239 x83_2)).f0) ((rd_T36 t232 (rd t239 x83_2)).f1) ((rd_T36 t232 (rd t239 x83_2)).f2) true _ A40.out).mono ?_); rintro e w45 ⟨rfl, hb⟩; have n0_ := Aside0.mk (Kd.R_below (by (with_reducible repeat (first | apply Kd.R_alloc | apply Kd.R_drewN | apply Kd.R_drew)); exact HO_3.out) hb); have n1_ := Aside0.mk (Kd.R_below (by (with_reducible repeat (first | apply Kd.R_alloc | apply Kd.R_drewN | apply Kd.R_drew)); exact HO_4.out) hb); have n2_ := Aside0.mk (Kd.R_below (by (with_reducible repeat (first | apply Kd.R_alloc | apply Kd.R_drewN | apply Kd.R_drew)); exact HO_6.out) hb); have n3_ := Aside0.mk (Kd.R_below (by (with_reducible repeat (first | apply Kd.R_alloc | apply Kd.R_drewN | apply Kd.R_drew)); exact HO_81.out) hb); have n4_ := Aside0.mk (Kd.R_below (by (with_reducible repeat (first | apply Kd.R_alloc | apply Kd.R_drewN | apply Kd.R_drew)); exact HO263.out) hb); have n5_ := Aside0.mk (Kd.C_below (by repeat (first | (with_reducible exact HR258.out) | (with_reducible refine Kd.C_alloc ?_ _) | (with_reducible refine Kd.C_drewN ?_ _) | (with_reducible refine Kd.C_drew ?_) | exact HR258.out)) hb); have n6_ := Aside0.mk (below_step (by repeat (first | (with_reducible first | exact HB.out | apply below_alloc | apply pw_below_drewN | apply below_drew1) | exact HB.out)) hb); clear HO_3; clear HO_4; clear HO_6; clear HO_81; clear HO263; clear HR258; clear HB; have HO_3 := n0_; have HO_4 := n1_; have HO_6 := n2_; have HO_81 := n3_; have HO263 := n4_; have HR258 := n5_; have HB := n6_; clear n0_ n1_ n2_ n3_ n4_ n5_ n6_; (try clear hb); (try clear hb2); (try clear hk); (try clear hi)))
                                          go_roundg k2
                                          case measure => have := HJ6.out; have := HK2.out; omega
                                          case rel => exact ⟨(wrap64 (x83_2 + 1)), (by first | rfl | (simp; done) | (simp [*]; done)), H', ⟨by have := HJ6.out; have := HK2.out; omega⟩, ⟨by (with_reducible repeat (first | apply Kd.R_alloc | apply Kd.R_drewN | apply Kd.R_drew)); exact HO_3.out⟩, ⟨by (with_reducible repeat (first | apply Kd.R_alloc | apply Kd.R_drewN | apply Kd.R_drew)); exact Kd.R_mono HO_4.out (fun _ hk => ⟨hk.1.1, hk.1.2⟩)⟩, ⟨by (with_reducible repeat (first | apply Kd.R_alloc | apply Kd.R_drewN | apply Kd.R_drew)); exact Kd.R_mono HO_6.out (fun _ hk => hk.1)⟩, ⟨by (with_reducible repeat (first | apply Kd.R_alloc | apply Kd.R_drewN | apply Kd.R_drew)); exact Kd.R_mono HO_81.out (fun _ hk => hk.1)⟩, ⟨by repeat (first | (with_reducible first | exact HB.out | apply below_alloc | apply pw_below_drewN | apply below_drew1) | exact HB.out)⟩⟩
                                        · replace c41 := Bool.eq_false_iff.mpr c41
                                          subst c41
                                          have H1 : (some false) = some r := by rw [if_neg (show ¬ (false = true) by decide)] at H; exact H
                                          clear H
                                          have H := H1
                                          clear H1
                                          obtain rfl := Option.some.inj H
                                          have p254 : 0 ≤ (x83_2 : Int) := of_decide_eq_true (by first | (with_reducible assumption) | assumption)
                                          have q254 : x83_2 < (t239.length : Int) := of_decide_eq_true (by first | (with_reducible assumption) | assumption)
                                          obtain ⟨ad254, e254, hx254_0⟩ := Kd.at_int (Kd.R_reads' HO_81.out).2.2 x83_2 p254 q254
                                          cases e254
                                          replace p254 := eq_true p254
                                          replace q254 := eq_true q254
                                          have q46 : (x83_2 : Int) ≤ ((t239.length : Int) : Int) := of_decide_eq_true (by first | (with_reducible assumption) | assumption)
                                          obtain ⟨i046, hi046, _, hsz46, _⟩ := info_parts info3
                                          have hroom46 : t239.length ≤ co23 := (Kd.R_reads' HO_6.out).2.1
                                          have hC46 : Kd.C (Kd.int .i64) _ (some ad254) t239.length t239 := (Kd.R_reads' HO_6.out).2.2
                                          have hcut46 := cut_to (P := Try.prog) 25 3 .i64 Try.underlying25 hi046 (some ad254) t239.length co23 x83_2 (of_decide_eq_true (by first | (with_reducible assumption) | assumption)) q46 hroom46
                                          have hr46 := Kd.C_take (m := (x83_2 : Int).toNat) hC46 (by omega)
                                          have hy46 : y255.length = (x83_2 : Int).toNat := (by rw [Ny255.out, List.length_take]; omega)
                                          rw [← Ny255.out] at hr46
                                          rw [← hy46] at hcut46
                                          have HR258 := Aside0.mk hr46
                                          have HC258 := Aside0.mk (show y255.length ≤ co23 from by omega)
                                          clear hr46 hC46 hroom46 hi046 hsz46
                                          have KY46 := Aside0.mk hy46
                                          clear hy46
                                          have KL46 := Aside0.mk (show (x83_2 : Int).toNat ≤ t239.length from by omega)
                                          replace q46 := eq_true q46
                                          go_wp2_with (first | (go_at_call 17; (with_reducible refine (laws_has.calls k2 _ _ y255 (rd t239 x83_2) false _ ?side1 ?side2 A31.out).mono ?_); (case side1 => repeat (first | exact (by repeat (first | (with_reducible exact HR258.out) | (with_reducible refine Kd.C_alloc ?_ _) | (with_reducible refine Kd.C_drewN ?_ _) | (with_reducible refine Kd.C_drew ?_) | exact HR258.out)) | (with_reducible refine Kd.C_alloc ?_ _) | (with_reducible refine Kd.C_drewN ?_ _) | (with_reducible refine Kd.C_drew ?_))); (case side2 => exact HC258.out); rintro e w' ⟨rfl, ⟨nd, rfl⟩⟩; have p260 : 0 ≤ (x83_2 : Int) := of_decide_eq_true (by first | (with_reducible assumption) | assumption); have q260 : x83_2 < (t235.length : Int) := of_decide_eq_true (by first | (with_reducible assumption) | assumption); obtain ⟨ad260, e260, hx260_0⟩ := Kd.at_int (Kd.R_reads' HO_4.out).2.2 x83_2 p260 q260; cases e260; replace p260 := eq_true p260; replace q260 := eq_true q260) | (go_at_call 16; (with_reducible refine (impl_Usable.calls k2 _ _ t232 (rd t235 x83_2) (Int.tmod t238 5) t261 _ ?side1 ?side2 A35.out).mono ?_); (case side1 => repeat (first | exact (Kd.R_reads' HO_3.out).2.2 | (with_reducible refine Kd.C_alloc ?_ _) | (with_reducible refine Kd.C_drewN ?_ _) | (with_reducible refine Kd.C_drew ?_))); (case side2 => exact (Kd.R_reads' HO_3.out).2.1); rintro e w47 ⟨v262, rfl, ho0, hb⟩; have n0_ := Aside0.mk (Kd.R_below (by (with_reducible repeat (first | apply Kd.R_alloc | apply Kd.R_drewN | apply Kd.R_drew)); exact HO_3.out) hb); have n1_ := Aside0.mk (Kd.R_elder' (by (with_reducible repeat (first | apply Kd.R_alloc | apply Kd.R_drewN | apply Kd.R_drew)); exact HO_4.out) (Kd.R_base ho0) hb); have n2_ := Aside0.mk (Kd.R_elder' (by (with_reducible repeat (first | apply Kd.R_alloc | apply Kd.R_drewN | apply Kd.R_drew)); exact HO_6.out) (Kd.R_base ho0) hb); have n3_ := Aside0.mk (Kd.R_elder' (by (with_reducible repeat (first | apply Kd.R_alloc | apply Kd.R_drewN | apply Kd.R_drew)); exact HO_81.out) (Kd.R_base ho0) hb); have n4_ := Aside0.mk (Kd.R_lower (Kd.R_new' (Kd.R_new' (Kd.R_new' ho0 (Kd.R_lt (by (with_reducible repeat (first | apply Kd.R_alloc | apply Kd.R_drewN | apply Kd.R_drew)); exact HO_4.out))) (Kd.R_lt (by (with_reducible repeat (first | apply Kd.R_alloc | apply Kd.R_drewN | apply Kd.R_drew)); exact HO_6.out))) (Kd.R_lt (by (with_reducible repeat (first | apply Kd.R_alloc | apply Kd.R_drewN | apply Kd.R_drew)); exact HO_81.out))) (below_size (by repeat (first | (with_reducible first | exact HB.out | apply below_alloc | apply pw_below_drewN | apply below_drew1) | exact HB.out)))); have n5_ := Aside0.mk (Kd.C_below (by repeat (first | (with_reducible exact HR258.out) | (with_reducible refine Kd.C_alloc ?_ _) | (with_reducible refine Kd.C_drewN ?_ _) | (with_reducible refine Kd.C_drew ?_) | exact HR258.out)) hb); have n6_ := Aside0.mk (below_step (by repeat (first | (with_reducible first | exact HB.out | apply below_alloc | apply pw_below_drewN | apply below_drew1) | exact HB.out)) hb); clear HO_3; clear HO_4; clear HO_6; clear HO_81; clear HR258; clear HB; have HO_3 := n0_; have HO_4 := n1_; have HO_6 := n2_; have HO_81 := n3_; have HO263 := n4_; have HR258 := n5_; have HB := n6_; clear n0_ n1_ n2_ n3_ n4_ n5_ n6_; (try clear hb); (try clear hb2); (try clear hk); (try clear hi); (try clear ho0); obtain ⟨Ao48, co48, eo48⟩ := Kd.R_slice HO263.out; subst eo48) | (go_at_call 17; (with_reducible refine (laws_has.calls k2 _ _ t261 (rd t239 x83_2) true _ ?side1 ?side2 A36.out).mono ?_); (case side1 => repeat (first | exact (Kd.R_reads' HO263.out).2.2 | (with_reducible refine Kd.C_alloc ?_ _) | (with_reducible refine Kd.C_drewN ?_ _) | (with_reducible refine Kd.C_drew ?_))); (case side2 => exact (Kd.R_reads' HO263.out).2.1); rintro e w' ⟨rfl, ⟨nd, rfl⟩⟩; have p265 : 0 ≤ ((rd t239 x83_2) : Int) := of_decide_eq_true (by first | (with_reducible assumption) | assumption); have q265 : (rd t239 x83_2) < (t232.length : Int) := of_decide_eq_true (by first | (with_reducible assumption) | assumption); obtain ⟨ad265, e265, hx265_0, hx265_1, hx265_2⟩ := at_T36 (Kd.R_reads' HO_3.out).2.2 (rd t239 x83_2) p265 q265; cases e265; replace p265 := eq_true p265; replace q265 := eq_true q265) | (go_at_call 18; (with_reducible refine (impl_ItemOk.calls k2 ((rd_T36 t232 (rd t239 x83_2)).f0) ((rd_T36 t232 (rd t239 x83_2)).f1) ((rd_T36 t232 (rd t239 x83_2)).f2) false _ A40.out).mono ?_); rintro e w49 ⟨rfl, hb⟩; have n0_ := Aside0.mk (Kd.R_below (by (with_reducible repeat (first | apply Kd.R_alloc | apply Kd.R_drewN | apply Kd.R_drew)); exact HO_3.out) hb); have n1_ := Aside0.mk (Kd.R_below (by (with_reducible repeat (first | apply Kd.R_alloc | apply Kd.R_drewN | apply Kd.R_drew)); exact HO_4.out) hb); have n2_ := Aside0.mk (Kd.R_below (by (with_reducible repeat (first | apply Kd.R_alloc | apply Kd.R_drewN | apply Kd.R_drew)); exact HO_6.out) hb); have n3_ := Aside0.mk (Kd.R_below (by (with_reducible repeat (first | apply Kd.R_alloc | apply Kd.R_drewN | apply Kd.R_drew)); exact HO_81.out) hb); have n4_ := Aside0.mk (Kd.R_below (by (with_reducible repeat (first | apply Kd.R_alloc | apply Kd.R_drewN | apply Kd.R_drew)); exact HO263.out) hb); have n5_ := Aside0.mk (Kd.C_below (by repeat (first | (with_reducible exact HR258.out) | (with_reducible refine Kd.C_alloc ?_ _) | (with_reducible refine Kd.C_drewN ?_ _) | (with_reducible refine Kd.C_drew ?_) | exact HR258.out)) hb); have n6_ := Aside0.mk (below_step (by repeat (first | (with_reducible first | exact HB.out | apply below_alloc | apply pw_below_drewN | apply below_drew1) | exact HB.out)) hb); clear HO_3; clear HO_4; clear HO_6; clear HO_81; clear HO263; clear HR258; clear HB; have HO_3 := n0_; have HO_4 := n1_; have HO_6 := n2_; have HO_81 := n3_; have HO263 := n4_; have HR258 := n5_; have HB := n6_; clear n0_ n1_ n2_ n3_ n4_ n5_ n6_; (try clear hb); (try clear hb2); (try clear hk); (try clear hi)))
                                          go_ret
                                          exact ⟨by first | rfl | (simp [errW_none, errW_some] <;> rfl) | (simp [*, errW_none, errW_some] <;> rfl), by repeat (first | (with_reducible first | exact HB.out | apply below_alloc | apply pw_below_drewN | apply below_drew1) | exact HB.out)⟩
                                      · rw [if_neg c39] at H
                                        exact absurd H (by simp)
                                    · rw [if_neg c38] at H
                                      exact absurd H (by simp)
                                  · replace c37 := Bool.eq_false_iff.mpr c37
                                    subst c37
                                    have H1 : (some false) = some r := by rw [if_neg (show ¬ (false = true) by decide)] at H; exact H
                                    clear H
                                    have H := H1
                                    clear H1
                                    obtain rfl := Option.some.inj H
                                    have p254 : 0 ≤ (x83_2 : Int) := of_decide_eq_true (by first | (with_reducible assumption) | assumption)
                                    have q254 : x83_2 < (t239.length : Int) := of_decide_eq_true (by first | (with_reducible assumption) | assumption)
                                    obtain ⟨ad254, e254, hx254_0⟩ := Kd.at_int (Kd.R_reads' HO_81.out).2.2 x83_2 p254 q254
                                    cases e254
                                    replace p254 := eq_true p254
                                    replace q254 := eq_true q254
                                    have q50 : (x83_2 : Int) ≤ ((t239.length : Int) : Int) := of_decide_eq_true (by first | (with_reducible assumption) | assumption)
                                    obtain ⟨i050, hi050, _, hsz50, _⟩ := info_parts info3
                                    have hroom50 : t239.length ≤ co23 := (Kd.R_reads' HO_6.out).2.1
                                    have hC50 : Kd.C (Kd.int .i64) _ (some ad254) t239.length t239 := (Kd.R_reads' HO_6.out).2.2
                                    have hcut50 := cut_to (P := Try.prog) 25 3 .i64 Try.underlying25 hi050 (some ad254) t239.length co23 x83_2 (of_decide_eq_true (by first | (with_reducible assumption) | assumption)) q50 hroom50
                                    have hr50 := Kd.C_take (m := (x83_2 : Int).toNat) hC50 (by omega)
                                    have hy50 : y255.length = (x83_2 : Int).toNat := (by rw [Ny255.out, List.length_take]; omega)
                                    rw [← Ny255.out] at hr50
                                    rw [← hy50] at hcut50
                                    have HR258 := Aside0.mk hr50
                                    have HC258 := Aside0.mk (show y255.length ≤ co23 from by omega)
                                    clear hr50 hC50 hroom50 hi050 hsz50
                                    have KY50 := Aside0.mk hy50
                                    clear hy50
                                    have KL50 := Aside0.mk (show (x83_2 : Int).toNat ≤ t239.length from by omega)
                                    replace q50 := eq_true q50
                                    go_wp2_with (first | (go_at_call 17; (with_reducible refine (laws_has.calls k2 _ _ y255 (rd t239 x83_2) false _ ?side1 ?side2 A31.out).mono ?_); (case side1 => repeat (first | exact (by repeat (first | (with_reducible exact HR258.out) | (with_reducible refine Kd.C_alloc ?_ _) | (with_reducible refine Kd.C_drewN ?_ _) | (with_reducible refine Kd.C_drew ?_) | exact HR258.out)) | (with_reducible refine Kd.C_alloc ?_ _) | (with_reducible refine Kd.C_drewN ?_ _) | (with_reducible refine Kd.C_drew ?_))); (case side2 => exact HC258.out); rintro e w' ⟨rfl, ⟨nd, rfl⟩⟩; have p260 : 0 ≤ (x83_2 : Int) := of_decide_eq_true (by first | (with_reducible assumption) | assumption); have q260 : x83_2 < (t235.length : Int) := of_decide_eq_true (by first | (with_reducible assumption) | assumption); obtain ⟨ad260, e260, hx260_0⟩ := Kd.at_int (Kd.R_reads' HO_4.out).2.2 x83_2 p260 q260; cases e260; replace p260 := eq_true p260; replace q260 := eq_true q260) | (go_at_call 16; (with_reducible refine (impl_Usable.calls k2 _ _ t232 (rd t235 x83_2) (Int.tmod t238 5) t261 _ ?side1 ?side2 A35.out).mono ?_); (case side1 => repeat (first | exact (Kd.R_reads' HO_3.out).2.2 | (with_reducible refine Kd.C_alloc ?_ _) | (with_reducible refine Kd.C_drewN ?_ _) | (with_reducible refine Kd.C_drew ?_))); (case side2 => exact (Kd.R_reads' HO_3.out).2.1); rintro e w51 ⟨v262, rfl, ho0, hb⟩; have n0_ := Aside0.mk (Kd.R_below (by (with_reducible repeat (first | apply Kd.R_alloc | apply Kd.R_drewN | apply Kd.R_drew)); exact HO_3.out) hb); have n1_ := Aside0.mk (Kd.R_elder' (by (with_reducible repeat (first | apply Kd.R_alloc | apply Kd.R_drewN | apply Kd.R_drew)); exact HO_4.out) (Kd.R_base ho0) hb); have n2_ := Aside0.mk (Kd.R_elder' (by (with_reducible repeat (first | apply Kd.R_alloc | apply Kd.R_drewN | apply Kd.R_drew)); exact HO_6.out) (Kd.R_base ho0) hb); have n3_ := Aside0.mk (Kd.R_elder' (by (with_reducible repeat (first | apply Kd.R_alloc | apply Kd.R_drewN | apply Kd.R_drew)); exact HO_81.out) (Kd.R_base ho0) hb); have n4_ := Aside0.mk (Kd.R_lower (Kd.R_new' (Kd.R_new' (Kd.R_new' ho0 (Kd.R_lt (by (with_reducible repeat (first | apply Kd.R_alloc | apply Kd.R_drewN | apply Kd.R_drew)); exact HO_4.out))) (Kd.R_lt (by (with_reducible repeat (first | apply Kd.R_alloc | apply Kd.R_drewN | apply Kd.R_drew)); exact HO_6.out))) (Kd.R_lt (by (with_reducible repeat (first | apply Kd.R_alloc | apply Kd.R_drewN | apply Kd.R_drew)); exact HO_81.out))) (below_size (by repeat (first | (with_reducible first | exact HB.out | apply below_alloc | apply pw_below_drewN | apply below_drew1) | exact HB.out)))); have n5_ := Aside0.mk (Kd.C_below (by repeat (first | (with_reducible exact HR258.out) | (with_reducible refine Kd.C_alloc ?_ _) | (with_reducible refine Kd.C_drewN ?_ _) | (with_reducible refine Kd.C_drew ?_) | exact HR258.out)) hb); have n6_ := Aside0.mk (below_step (by repeat (first | (with_reducible first | exact HB.out | apply below_alloc | apply pw_below_drewN | apply below_drew1) | exact HB.out)) hb); clear HO_3; clear HO_4; clear HO_6; clear HO_81; clear HR258; clear HB; have HO_3 := n0_; have HO_4 := n1_; have HO_6 := n2_; have HO_81 := n3_; have HO263 := n4_; have HR258 := n5_; have HB := n6_; clear n0_ n1_ n2_ n3_ n4_ n5_ n6_; (try clear hb); (try clear hb2); (try clear hk); (try clear hi); (try clear ho0); obtain ⟨Ao52, co52, eo52⟩ := Kd.R_slice HO263.out; subst eo52) | (go_at_call 17; (with_reducible refine (laws_has.calls k2 _ _ t261 (rd t239 x83_2) false _ ?side1 ?side2 A36.out).mono ?_); (case side1 => repeat (first | exact (Kd.R_reads' HO263.out).2.2 | (with_reducible refine Kd.C_alloc ?_ _) | (with_reducible refine Kd.C_drewN ?_ _) | (with_reducible refine Kd.C_drew ?_))); (case side2 => exact (Kd.R_reads' HO263.out).2.1); rintro e w' ⟨rfl, ⟨nd, rfl⟩⟩))
                                    go_ret
                                    exact ⟨by first | rfl | (simp [errW_none, errW_some] <;> rfl) | (simp [*, errW_none, errW_some] <;> rfl), by repeat (first | (with_reducible first | exact HB.out | apply below_alloc | apply pw_below_drewN | apply below_drew1) | exact HB.out)⟩
                                · rw [if_neg c34] at H
                                  exact absurd H (by simp)
                            · rw [if_neg c30] at H
                              exact absurd H (by simp)
                      · rw [if_neg c26] at H
                        exact absurd H (by simp)
                    · rw [if_neg c25] at H
                      exact absurd H (by simp)
                  · rw [if_neg c24] at H
                    have c24b0 : decide (x83_2 < (t239.length : Int)) = false := decide_eq_false c24
                    clear c24
                    replace H := Option.bind_eq_some_iff.mp H
                    obtain ⟨t250, A530, H⟩ := H
                    replace H : (if (wrap64 ((t250.length : Int) + (t239.length : Int))) = (t232.length : Int) then ((impl_FirstExpiry.f k2 t232 t239).bind fun t253 => (some (decide (t253 ≥ (Int.tmod t238 5))))) else (some false)) = some r := H
                    have A53 := Aside0.mk A530
                    clear A530
                    by_cases c54 : (wrap64 ((t250.length : Int) + (t239.length : Int))) = (t232.length : Int)
                    · rw [if_pos c54] at H
                      have c54b0 : ((wrap64 ((t250.length : Int) + (t239.length : Int))) == (t232.length : Int)) = true := beq_iff_eq.mpr c54
                      have c54b1 : ((wrap64 ((t250.length : Int) + (t239.length : Int))) != (t232.length : Int)) = false := bne_eq_false_iff_eq.mpr c54
                      clear c54
                      replace H := Option.bind_eq_some_iff.mp H
                      obtain ⟨t253, A550, H⟩ := H
                      replace H : (some (decide (t253 ≥ (Int.tmod t238 5)))) = some r := H
                      have A55 := Aside0.mk A550
                      clear A550
                      obtain rfl := Option.some.inj H
                      go_wp2_with (first | ((with_reducible refine gate_callee (f := 19) rfl ?_); refine goesL_ (some 126) rfl rfl Try.func19 (by kernel_rfl) rfl #[.slice Ao11 t232.length co11, .slice Ao23 t239.length co23] rfl (by (try simp only [List.map_toArray, List.map_cons, List.map_nil]); first | done | rfl | (simp only [List.length_drop, List.length_take]; rfl)) ?_; (with_reducible refine (impl_SpareOf.calls k2 _ _ t232 _ _ t239 t250 _ ?side1 ?side2 ?side3 ?side4 A53.out).mono ?_); (case side1 => repeat (first | exact (Kd.R_reads' HO_3.out).2.2 | (with_reducible refine Kd.C_alloc ?_ _) | (with_reducible refine Kd.C_drewN ?_ _) | (with_reducible refine Kd.C_drew ?_))); (case side2 => exact (Kd.R_reads' HO_3.out).2.1); (case side3 => repeat (first | exact (Kd.R_reads' HO_6.out).2.2 | (with_reducible refine Kd.C_alloc ?_ _) | (with_reducible refine Kd.C_drewN ?_ _) | (with_reducible refine Kd.C_drew ?_))); (case side4 => exact (Kd.R_reads' HO_6.out).2.1); rintro e w56 ⟨v251, rfl, ho0, hb⟩; refine ⟨_, rfl, ?_⟩; have n0_ := Aside0.mk (Kd.R_below (by (with_reducible repeat (first | apply Kd.R_alloc | apply Kd.R_drewN | apply Kd.R_drew)); exact HO_3.out) hb); have n1_ := Aside0.mk (Kd.R_elder' (by (with_reducible repeat (first | apply Kd.R_alloc | apply Kd.R_drewN | apply Kd.R_drew)); exact HO_4.out) (Kd.R_base ho0) hb); have n2_ := Aside0.mk (Kd.R_elder' (by (with_reducible repeat (first | apply Kd.R_alloc | apply Kd.R_drewN | apply Kd.R_drew)); exact HO_6.out) (Kd.R_base ho0) hb); have n3_ := Aside0.mk (Kd.R_elder' (by (with_reducible repeat (first | apply Kd.R_alloc | apply Kd.R_drewN | apply Kd.R_drew)); exact HO_81.out) (Kd.R_base ho0) hb); have n4_ := Aside0.mk (Kd.R_lower (Kd.R_new' (Kd.R_new' (Kd.R_new' ho0 (Kd.R_lt (by (with_reducible repeat (first | apply Kd.R_alloc | apply Kd.R_drewN | apply Kd.R_drew)); exact HO_4.out))) (Kd.R_lt (by (with_reducible repeat (first | apply Kd.R_alloc | apply Kd.R_drewN | apply Kd.R_drew)); exact HO_6.out))) (Kd.R_lt (by (with_reducible repeat (first | apply Kd.R_alloc | apply Kd.R_drewN | apply Kd.R_drew)); exact HO_81.out))) (below_size (by repeat (first | (with_reducible first | exact HB.out | apply below_alloc | apply pw_below_drewN | apply below_drew1) | exact HB.out)))); have n5_ := Aside0.mk (below_step (by repeat (first | (with_reducible first | exact HB.out | apply below_alloc | apply pw_below_drewN | apply below_drew1) | exact HB.out)) hb); clear HO_3; clear HO_4; clear HO_6; clear HO_81; clear HB; have HO_3 := n0_; have HO_4 := n1_; have HO_6 := n2_; have HO_81 := n3_; have HO252 := n4_; have HB := n5_; clear n0_ n1_ n2_ n3_ n4_ n5_; (try clear hb); (try clear hb2); (try clear hk); (try clear hi); (try clear ho0); obtain ⟨Ao57, co57, eo57⟩ := Kd.R_slice HO252.out; subst eo57) | (go_at_call 20; (with_reducible refine (impl_FirstExpiry.calls k2 _ _ t232 _ _ t239 t253 _ ?side1 ?side2 ?side3 ?side4 A55.out).mono ?_); (case side1 => repeat (first | exact (Kd.R_reads' HO_3.out).2.2 | (with_reducible refine Kd.C_alloc ?_ _) | (with_reducible refine Kd.C_drewN ?_ _) | (with_reducible refine Kd.C_drew ?_))); (case side2 => exact (Kd.R_reads' HO_3.out).2.1); (case side3 => repeat (first | exact (Kd.R_reads' HO_6.out).2.2 | (with_reducible refine Kd.C_alloc ?_ _) | (with_reducible refine Kd.C_drewN ?_ _) | (with_reducible refine Kd.C_drew ?_))); (case side4 => exact (Kd.R_reads' HO_6.out).2.1); rintro e w58 ⟨rfl, hb⟩; have n0_ := Aside0.mk (Kd.R_below (by (with_reducible repeat (first | apply Kd.R_alloc | apply Kd.R_drewN | apply Kd.R_drew)); exact HO_3.out) hb); have n1_ := Aside0.mk (Kd.R_below (by (with_reducible repeat (first | apply Kd.R_alloc | apply Kd.R_drewN | apply Kd.R_drew)); exact HO_4.out) hb); have n2_ := Aside0.mk (Kd.R_below (by (with_reducible repeat (first | apply Kd.R_alloc | apply Kd.R_drewN | apply Kd.R_drew)); exact HO_6.out) hb); have n3_ := Aside0.mk (Kd.R_below (by (with_reducible repeat (first | apply Kd.R_alloc | apply Kd.R_drewN | apply Kd.R_drew)); exact HO_81.out) hb); have n4_ := Aside0.mk (Kd.R_below (by (with_reducible repeat (first | apply Kd.R_alloc | apply Kd.R_drewN | apply Kd.R_drew)); exact HO252.out) hb); have n5_ := Aside0.mk (below_step (by repeat (first | (with_reducible first | exact HB.out | apply below_alloc | apply pw_below_drewN | apply below_drew1) | exact HB.out)) hb); clear HO_3; clear HO_4; clear HO_6; clear HO_81; clear HO252; clear HB; have HO_3 := n0_; have HO_4 := n1_; have HO_6 := n2_; have HO_81 := n3_; have HO252 := n4_; have HB := n5_; clear n0_ n1_ n2_ n3_ n4_ n5_; (try clear hb); (try clear hb2); (try clear hk); (try clear hi)))
                      go_ret
                      exact ⟨by first | rfl | (simp [errW_none, errW_some] <;> rfl) | (simp [*, errW_none, errW_some] <;> rfl), by repeat (first | (with_reducible first | exact HB.out | apply below_alloc | apply pw_below_drewN | apply below_drew1) | exact HB.out)⟩
                    · rw [if_neg c54] at H
                      have c54b0 : ((wrap64 ((t250.length : Int) + (t239.length : Int))) == (t232.length : Int)) = false := beq_eq_false_iff_ne.mpr c54
                      have c54b1 : ((wrap64 ((t250.length : Int) + (t239.length : Int))) != (t232.length : Int)) = true := bne_iff_ne.mpr c54
                      obtain rfl := Option.some.inj H
                      go_wp2_with (first | ((with_reducible refine gate_callee (f := 19) rfl ?_); refine goesL_ (some 126) rfl rfl Try.func19 (by kernel_rfl) rfl #[.slice Ao11 t232.length co11, .slice Ao23 t239.length co23] rfl (by (try simp only [List.map_toArray, List.map_cons, List.map_nil]); first | done | rfl | (simp only [List.length_drop, List.length_take]; rfl)) ?_; (with_reducible refine (impl_SpareOf.calls k2 _ _ t232 _ _ t239 t250 _ ?side1 ?side2 ?side3 ?side4 A53.out).mono ?_); (case side1 => repeat (first | exact (Kd.R_reads' HO_3.out).2.2 | (with_reducible refine Kd.C_alloc ?_ _) | (with_reducible refine Kd.C_drewN ?_ _) | (with_reducible refine Kd.C_drew ?_))); (case side2 => exact (Kd.R_reads' HO_3.out).2.1); (case side3 => repeat (first | exact (Kd.R_reads' HO_6.out).2.2 | (with_reducible refine Kd.C_alloc ?_ _) | (with_reducible refine Kd.C_drewN ?_ _) | (with_reducible refine Kd.C_drew ?_))); (case side4 => exact (Kd.R_reads' HO_6.out).2.1); rintro e w59 ⟨v251, rfl, ho0, hb⟩; refine ⟨_, rfl, ?_⟩; have n0_ := Aside0.mk (Kd.R_below (by (with_reducible repeat (first | apply Kd.R_alloc | apply Kd.R_drewN | apply Kd.R_drew)); exact HO_3.out) hb); have n1_ := Aside0.mk (Kd.R_elder' (by (with_reducible repeat (first | apply Kd.R_alloc | apply Kd.R_drewN | apply Kd.R_drew)); exact HO_4.out) (Kd.R_base ho0) hb); have n2_ := Aside0.mk (Kd.R_elder' (by (with_reducible repeat (first | apply Kd.R_alloc | apply Kd.R_drewN | apply Kd.R_drew)); exact HO_6.out) (Kd.R_base ho0) hb); have n3_ := Aside0.mk (Kd.R_elder' (by (with_reducible repeat (first | apply Kd.R_alloc | apply Kd.R_drewN | apply Kd.R_drew)); exact HO_81.out) (Kd.R_base ho0) hb); have n4_ := Aside0.mk (Kd.R_lower (Kd.R_new' (Kd.R_new' (Kd.R_new' ho0 (Kd.R_lt (by (with_reducible repeat (first | apply Kd.R_alloc | apply Kd.R_drewN | apply Kd.R_drew)); exact HO_4.out))) (Kd.R_lt (by (with_reducible repeat (first | apply Kd.R_alloc | apply Kd.R_drewN | apply Kd.R_drew)); exact HO_6.out))) (Kd.R_lt (by (with_reducible repeat (first | apply Kd.R_alloc | apply Kd.R_drewN | apply Kd.R_drew)); exact HO_81.out))) (below_size (by repeat (first | (with_reducible first | exact HB.out | apply below_alloc | apply pw_below_drewN | apply below_drew1) | exact HB.out)))); have n5_ := Aside0.mk (below_step (by repeat (first | (with_reducible first | exact HB.out | apply below_alloc | apply pw_below_drewN | apply below_drew1) | exact HB.out)) hb); clear HO_3; clear HO_4; clear HO_6; clear HO_81; clear HB; have HO_3 := n0_; have HO_4 := n1_; have HO_6 := n2_; have HO_81 := n3_; have HO252 := n4_; have HB := n5_; clear n0_ n1_ n2_ n3_ n4_ n5_; (try clear hb); (try clear hb2); (try clear hk); (try clear hi); (try clear ho0); obtain ⟨Ao60, co60, eo60⟩ := Kd.R_slice HO252.out; subst eo60))
                      go_ret
                      exact ⟨by first | rfl | (simp [errW_none, errW_some] <;> rfl) | (simp [*, errW_none, errW_some] <;> rfl), by repeat (first | (with_reducible first | exact HB.out | apply below_alloc | apply pw_below_drewN | apply below_drew1) | exact HB.out)⟩
            · rw [if_neg c22] at H
              have c22b0 : ((t239.length : Int) == (t235.length : Int)) = false := beq_eq_false_iff_ne.mpr c22
              have c22b1 : ((t239.length : Int) != (t235.length : Int)) = true := bne_iff_ne.mpr c22
              have c22b2 : (t239.length == t235.length) = false := by first | simpa using c22 | (simp at c22 ⊢; omega)
              obtain rfl := Option.some.inj H
              obtain ⟨Ao61, co61, eo61⟩ := Kd.R_slice HO_6.out
              subst eo61
              go_wp2
              go_ret
              exact ⟨by first | rfl | (simp [errW_none, errW_some] <;> rfl) | (simp [*, errW_none, errW_some] <;> rfl), by repeat (first | (with_reducible first | exact HB.out | apply below_alloc | apply pw_below_drewN | apply below_drew1) | exact HB.out)⟩
          · replace c21 := Bool.eq_false_iff.mpr c21
            subst c21
            have H1 : (laws_FnEquipped.l0 kj6 t232 t235 (Int.tmod t238 5) t239 t235 (t235.length : Int) 0) = some r := by rw [if_neg (show ¬ (false = true) by decide)] at H; exact H
            clear H
            have H := H1
            clear H1
            have H' := Aside0.mk H
            clear H
            go_wp2
            go_loopg [48] kj6 (fun kq v48 w' => ∃ (x48_2 : Int), v48 = .int .i64 x48_2 ∧ Aside0 (laws_FnEquipped.l0 kq t232 t235 (Int.tmod t238 5) t239 t235 (t235.length : Int) x48_2 = some r) ∧ Aside0 (kq ≤ kj6) ∧ Aside0 (Kd.R k36 36 w' w.heap.size (fun _ => True) (.slice Ao11 t232.length co11) t232) ∧ Aside0 (Kd.R (Kd.int .i64) 3 w' w.heap.size (fun k_ => some k_ ≠ (v241 : Value).ownBlock) (.slice Ao12 t235.length co12) t235) ∧ Aside0 (Kd.R (Kd.int .i64) 3 w' w.heap.size (fun k_ => some k_ ≠ ((.slice Ao12 t235.length co12) : Value).ownBlock ∧ some k_ ≠ ((.slice Ao12 t235.length co12) : Value).ownBlock) v241 t239) ∧ Aside0 (Kd.R (Kd.int .i64) 3 w' w.heap.size (fun k_ => some k_ ≠ (v241 : Value).ownBlock) (.slice Ao12 t235.length co12) t235) ∧ Aside0 (Below w.heap.size w w'))
            case atStart => exact ⟨(0), (by first | rfl | (simp; done) | (simp [*]; done)), H', ⟨Nat.le_refl _⟩, ⟨by (with_reducible repeat (first | apply Kd.R_alloc | apply Kd.R_drewN | apply Kd.R_drew)); exact HO_3.out⟩, ⟨by (with_reducible repeat (first | apply Kd.R_alloc | apply Kd.R_drewN | apply Kd.R_drew)); exact HO_4.out⟩, ⟨by (with_reducible repeat (first | apply Kd.R_alloc | apply Kd.R_drewN | apply Kd.R_drew)); exact Kd.R_mono HO_6.out (fun _ hk => ⟨hk, hk⟩)⟩, ⟨by (with_reducible repeat (first | apply Kd.R_alloc | apply Kd.R_drewN | apply Kd.R_drew)); exact HO_4.out⟩, ⟨by repeat (first | (with_reducible first | exact HB.out | apply below_alloc | apply pw_below_drewN | apply below_drew1) | exact HB.out)⟩⟩
            case round =>
              clear H'
              try clear c1
              try clear c2
              try clear c2b0
              try clear c2b1
              try clear p2
              try clear q2
              try clear hx2
              try clear c3
              try clear q3
              try clear c4
              try clear q4
              try clear c5
              try clear q5
              try clear p6
              try clear c10
              try clear c11
              try clear c12
              try clear c13
              try clear c14
              try clear c15
              try clear c15b0
              try clear c15b1
              try clear c15b2
              try clear c19
              try clear c20
              try clear c21
              try clear c22
              try clear c22b0
              try clear c22b1
              try clear c22b2
              try clear c24
              try clear c24b0
              try clear c25
              try clear c25b0
              try clear p25
              try clear q25
              try clear hx25
              try clear c26
              try clear c26b0
              try clear p26
              try clear q26
              try clear hx26
              try clear c27
              try clear c27b0
              try clear c28
              try clear c28b0
              try clear c29
              try clear c29b0
              try clear c30
              try clear c30b0
              try clear c30b1
              try clear c32
              try clear q33
              try clear c34
              try clear c34b0
              try clear c37
              try clear c38
              try clear c38b0
              try clear c39
              try clear c39b0
              try clear c41
              try clear q42
              try clear q46
              try clear q50
              try clear c54
              try clear c54b0
              try clear c54b1
              try clear hx254_0
              try clear hx260_0
              try clear hx265_0
              try clear hx265_1
              try clear hx265_2
              try clear p2
              try clear p254
              try clear p260
              try clear p265
              try clear q254
              try clear q260
              try clear q265
              try clear q33
              try clear q42
              try clear q46
              try clear q50
              obtain ⟨x48_2, rfl, HA, HK2, HO_3, HO_4, HO_6, HO_46, HB⟩ := hrel
              cases gk with
              | zero => exact absurd HA.out (by simp [laws_FnEquipped.l0])
              | succ k2 =>
                have H := HA.out
                clear HA
                simp only [laws_FnEquipped.l0] at H
                by_cases c62 : x48_2 < (t235.length : Int)
                · rw [if_pos c62] at H
                  have c62b0 : decide (x48_2 < (t235.length : Int)) = true := decide_eq_true c62
                  clear c62
                  by_cases c63 : 0 ≤ x48_2
                  · rw [if_pos c63] at H
                    have c63b0 : decide (0 ≤ x48_2) = true := decide_eq_true c63
                    clear c63
                    by_cases c64 : x48_2 < (t235.length : Int)
                    · rw [if_pos c64] at H
                      have c64b0 : decide (x48_2 < (t235.length : Int)) = true := decide_eq_true c64
                      clear c64
                      replace H := Option.bind_eq_some_iff.mp H
                      obtain ⟨t246, A650, H⟩ := H
                      replace H : (laws_FnEquipped.l1 k2 t232 t235 (Int.tmod t238 5) t239 (rd t235 x48_2) t246 0 t235 (t235.length : Int) x48_2 t235 (t235.length : Int) 0) = some r := H
                      have A65 := Aside0.mk A650
                      clear A650
                      have H' := Aside0.mk H
                      clear H
                      have p245 : 0 ≤ (x48_2 : Int) := of_decide_eq_true (by first | (with_reducible assumption) | assumption)
                      have q245 : x48_2 < (t235.length : Int) := of_decide_eq_true (by first | (with_reducible assumption) | assumption)
                      obtain ⟨ad245, e245, hx245_0⟩ := Kd.at_int (Kd.R_reads' HO_46.out).2.2 x48_2 p245 q245
                      cases e245
                      replace p245 := eq_true p245
                      replace q245 := eq_true q245
                      go_wp2_with (first | ((with_reducible refine gate_callee (f := 16) rfl ?_); refine goesL_ (some 55) rfl rfl Try.func16 (by kernel_rfl) rfl #[.slice Ao11 t232.length co11, .int .i64 (rd t235 x48_2), .int .i64 (Int.tmod t238 5)] rfl (by (try simp only [List.map_toArray, List.map_cons, List.map_nil]); first | done | rfl | (simp only [List.length_drop, List.length_take]; rfl)) ?_; (with_reducible refine (impl_Usable.calls k2 _ _ t232 (rd t235 x48_2) (Int.tmod t238 5) t246 _ ?side1 ?side2 A65.out).mono ?_); (case side1 => repeat (first | exact (Kd.R_reads' HO_3.out).2.2 | (with_reducible refine Kd.C_alloc ?_ _) | (with_reducible refine Kd.C_drewN ?_ _) | (with_reducible refine Kd.C_drew ?_))); (case side2 => exact (Kd.R_reads' HO_3.out).2.1); rintro e w66 ⟨v247, rfl, ho0, hb⟩; refine ⟨_, rfl, ?_⟩; have n0_ := Aside0.mk (Kd.R_below (by (with_reducible repeat (first | apply Kd.R_alloc | apply Kd.R_drewN | apply Kd.R_drew)); exact HO_3.out) hb); have n1_ := Aside0.mk (Kd.R_elder' (by (with_reducible repeat (first | apply Kd.R_alloc | apply Kd.R_drewN | apply Kd.R_drew)); exact HO_4.out) (Kd.R_base ho0) hb); have n2_ := Aside0.mk (Kd.R_elder' (by (with_reducible repeat (first | apply Kd.R_alloc | apply Kd.R_drewN | apply Kd.R_drew)); exact HO_6.out) (Kd.R_base ho0) hb); have n3_ := Aside0.mk (Kd.R_elder' (by (with_reducible repeat (first | apply Kd.R_alloc | apply Kd.R_drewN | apply Kd.R_drew)); exact HO_46.out) (Kd.R_base ho0) hb); have n4_ := Aside0.mk (Kd.R_lower (Kd.R_new' (Kd.R_new' (Kd.R_new' ho0 (Kd.R_lt (by (with_reducible repeat (first | apply Kd.R_alloc | apply Kd.R_drewN | apply Kd.R_drew)); exact HO_4.out))) (Kd.R_lt (by (with_reducible repeat (first | apply Kd.R_alloc | apply Kd.R_drewN | apply Kd.R_drew)); exact HO_6.out))) (Kd.R_lt (by (with_reducible repeat (first | apply Kd.R_alloc | apply Kd.R_drewN | apply Kd.R_drew)); exact HO_46.out))) (below_size (by repeat (first | (with_reducible first | exact HB.out | apply below_alloc | apply pw_below_drewN | apply below_drew1) | exact HB.out)))); have n5_ := Aside0.mk (below_step (by repeat (first | (with_reducible first | exact HB.out | apply below_alloc | apply pw_below_drewN | apply below_drew1) | exact HB.out)) hb); clear HO_3; clear HO_4; clear HO_6; clear HO_46; clear HB; have HO_3 := n0_; have HO_4 := n1_; have HO_6 := n2_; have HO_46 := n3_; have HO248 := n4_; have HB := n5_; clear n0_ n1_ n2_ n3_ n4_ n5_; (try clear hb); (try clear hb2); (try clear hk); (try clear hi); (try clear ho0)))
                      go_loopg [11, 58] k2 (fun kq v11 v58 w' => ∃ (x11_3 : Int) (x58_3 : Int), v11 = .int .i64 x11_3 ∧ v58 = .int .i64 x58_3 ∧ Aside0 (laws_FnEquipped.l1 kq t232 t235 (Int.tmod t238 5) t239 (rd t235 x48_2) t246 x11_3 t235 (t235.length : Int) x48_2 t235 (t235.length : Int) x58_3 = some r) ∧ Aside0 (kq ≤ k2) ∧ Aside0 (Kd.R k36 36 w' w.heap.size (fun _ => True) (.slice Ao11 t232.length co11) t232) ∧ Aside0 (Kd.R (Kd.int .i64) 3 w' w.heap.size (fun k_ => some k_ ≠ (v241 : Value).ownBlock ∧ some k_ ≠ (v247 : Value).ownBlock) (.slice (some ad245) t235.length co12) t235) ∧ Aside0 (Kd.R (Kd.int .i64) 3 w' w.heap.size (fun k_ => some k_ ≠ ((.slice (some ad245) t235.length co12) : Value).ownBlock ∧ some k_ ≠ (v247 : Value).ownBlock ∧ some k_ ≠ ((.slice (some ad245) t235.length co12) : Value).ownBlock ∧ some k_ ≠ ((.slice (some ad245) t235.length co12) : Value).ownBlock) v241 t239) ∧ Aside0 (Kd.R (Kd.int .i64) 3 w' w.heap.size (fun k_ => some k_ ≠ ((.slice (some ad245) t235.length co12) : Value).ownBlock ∧ some k_ ≠ (v241 : Value).ownBlock ∧ some k_ ≠ ((.slice (some ad245) t235.length co12) : Value).ownBlock ∧ some k_ ≠ ((.slice (some ad245) t235.length co12) : Value).ownBlock) v247 t246) ∧ Aside0 (Kd.R (Kd.int .i64) 3 w' w.heap.size (fun k_ => some k_ ≠ (v241 : Value).ownBlock ∧ some k_ ≠ (v247 : Value).ownBlock) (.slice (some ad245) t235.length co12) t235) ∧ Aside0 (Kd.R (Kd.int .i64) 3 w' w.heap.size (fun k_ => some k_ ≠ (v241 : Value).ownBlock ∧ some k_ ≠ (v247 : Value).ownBlock) (.slice (some ad245) t235.length co12) t235) ∧ Aside0 (Below w.heap.size w w'))
                      case atStart => exact ⟨(0), (0), (by first | rfl | (simp; done) | (simp [*]; done)), (by first | rfl | (simp; done) | (simp [*]; done)), H', ⟨Nat.le_refl _⟩, ⟨by (with_reducible repeat (first | apply Kd.R_alloc | apply Kd.R_drewN | apply Kd.R_drew)); exact HO_3.out⟩, ⟨by (with_reducible repeat (first | apply Kd.R_alloc | apply Kd.R_drewN | apply Kd.R_drew)); exact HO_4.out⟩, ⟨by (with_reducible repeat (first | apply Kd.R_alloc | apply Kd.R_drewN | apply Kd.R_drew)); exact Kd.R_mono HO_6.out (fun _ hk => ⟨hk.1.1, ⟨hk.2, ⟨hk.1.2, hk.1.1⟩⟩⟩)⟩, ⟨by (with_reducible repeat (first | apply Kd.R_alloc | apply Kd.R_drewN | apply Kd.R_drew)); exact Kd.R_mono HO248.out (fun _ hk => ⟨hk.1.1.2, ⟨hk.1.2, ⟨hk.2, hk.1.1.2⟩⟩⟩)⟩, ⟨by (with_reducible repeat (first | apply Kd.R_alloc | apply Kd.R_drewN | apply Kd.R_drew)); exact HO_46.out⟩, ⟨by (with_reducible repeat (first | apply Kd.R_alloc | apply Kd.R_drewN | apply Kd.R_drew)); exact HO_4.out⟩, ⟨by repeat (first | (with_reducible first | exact HB.out | apply below_alloc | apply pw_below_drewN | apply below_drew1) | exact HB.out)⟩⟩
                      case round =>
                        clear H'
                        try clear c1
                        try clear c2
                        try clear c2b0
                        try clear c2b1
                        try clear p2
                        try clear q2
                        try clear hx2
                        try clear c3
                        try clear q3
                        try clear c4
                        try clear q4
                        try clear c5
                        try clear q5
                        try clear c6
                        try clear p6
                        try clear c10
                        try clear c11
                        try clear c12
                        try clear c13
                        try clear c14
                        try clear c15
                        try clear c15b0
                        try clear c15b1
                        try clear c15b2
                        try clear c16
                        try clear c19
                        try clear c20
                        try clear c21
                        try clear c22
                        try clear c22b0
                        try clear c22b1
                        try clear c22b2
                        try clear c24
                        try clear c24b0
                        try clear p24
                        try clear q24
                        try clear hx24
                        try clear c25
                        try clear c25b0
                        try clear p25
                        try clear q25
                        try clear hx25
                        try clear c26
                        try clear c26b0
                        try clear p26
                        try clear q26
                        try clear hx26
                        try clear c27
                        try clear c27b0
                        try clear c28
                        try clear c28b0
                        try clear c29
                        try clear c29b0
                        try clear c30
                        try clear c30b0
                        try clear c30b1
                        try clear c32
                        try clear q33
                        try clear c34
                        try clear c34b0
                        try clear c37
                        try clear c38
                        try clear c38b0
                        try clear c39
                        try clear c39b0
                        try clear c41
                        try clear q42
                        try clear q46
                        try clear q50
                        try clear c54
                        try clear c54b0
                        try clear c54b1
                        try clear c62
                        try clear c62b0
                        try clear c63
                        try clear c63b0
                        try clear c64
                        try clear c64b0
                        try clear p64
                        try clear hx245_0
                        try clear hx254_0
                        try clear hx260_0
                        try clear hx265_0
                        try clear hx265_1
                        try clear hx265_2
                        try clear p2
                        try clear p245
                        try clear p25
                        try clear p254
                        try clear p26
                        try clear p260
                        try clear p265
                        try clear p6
                        try clear q2
                        try clear q245
                        try clear q25
                        try clear q254
                        try clear q26
                        try clear q260
                        try clear q265
                        try clear q3
                        try clear q33
                        try clear q4
                        try clear q42
                        try clear q46
                        try clear q5
                        try clear q50
                        obtain ⟨x11_3, x58_3, rfl, rfl, HA, HK3, HO_3, HO_4, HO_6, HO_10, HO_46, HO_56, HB⟩ := hrel
                        cases gk with
                        | zero => exact absurd HA.out (by simp [laws_FnEquipped.l1])
                        | succ k3 =>
                          have H := HA.out
                          clear HA
                          simp only [laws_FnEquipped.l1] at H
                          by_cases c67 : x58_3 < (t235.length : Int)
                          · rw [if_pos c67] at H
                            have c67b0 : decide (x58_3 < (t235.length : Int)) = true := decide_eq_true c67
                            clear c67
                            by_cases c68 : 0 ≤ x58_3
                            · rw [if_pos c68] at H
                              have c68b0 : decide (0 ≤ x58_3) = true := decide_eq_true c68
                              clear c68
                              by_cases c69 : x58_3 < (t235.length : Int)
                              · rw [if_pos c69] at H
                                have c69b0 : decide (x58_3 < (t235.length : Int)) = true := decide_eq_true c69
                                clear c69
                                by_cases c70 : (rd t235 x58_3) ≥ (rd t235 x48_2)
                                · rw [if_pos c70] at H
                                  have c70b0 : decide ((rd t235 x48_2) ≤ (rd t235 x58_3)) = true := decide_eq_true c70
                                  clear c70
                                  have H' := Aside0.mk H
                                  clear H
                                  have p249 : 0 ≤ (x58_3 : Int) := of_decide_eq_true (by first | (with_reducible assumption) | assumption)
                                  have q249 : x58_3 < (t235.length : Int) := of_decide_eq_true (by first | (with_reducible assumption) | assumption)
                                  obtain ⟨ad249, e249, hx249_0⟩ := Kd.at_int (Kd.R_reads' HO_56.out).2.2 x58_3 p249 q249
                                  obtain rfl : ad245 = ad249 := (by injection e249)
                                  replace p249 := eq_true p249
                                  replace q249 := eq_true q249
                                  go_wp2
                                  go_roundg k3
                                  case measure => have := HJ6.out; have := HK2.out; have := HK3.out; omega
                                  case rel => exact ⟨(wrap64 (x11_3 + 1)), (wrap64 (x58_3 + 1)), (by first | rfl | (simp; done) | (simp [*]; done)), (by first | rfl | (simp; done) | (simp [*]; done)), H', ⟨by have := HJ6.out; have := HK2.out; have := HK3.out; omega⟩, ⟨by (with_reducible repeat (first | apply Kd.R_alloc | apply Kd.R_drewN | apply Kd.R_drew)); exact HO_3.out⟩, ⟨by (with_reducible repeat (first | apply Kd.R_alloc | apply Kd.R_drewN | apply Kd.R_drew)); exact HO_4.out⟩, ⟨by (with_reducible repeat (first | apply Kd.R_alloc | apply Kd.R_drewN | apply Kd.R_drew)); exact HO_6.out⟩, ⟨by (with_reducible repeat (first | apply Kd.R_alloc | apply Kd.R_drewN | apply Kd.R_drew)); exact HO_10.out⟩, ⟨by (with_reducible repeat (first | apply Kd.R_alloc | apply Kd.R_drewN | apply Kd.R_drew)); exact HO_46.out⟩, ⟨by (with_reducible repeat (first | apply Kd.R_alloc | apply Kd.R_drewN | apply Kd.R_drew)); exact HO_56.out⟩, ⟨by repeat (first | (with_reducible first | exact HB.out | apply below_alloc | apply pw_below_drewN | apply below_drew1) | exact HB.out)⟩⟩
                                · rw [if_neg c70] at H
                                  have c70b0 : decide ((rd t235 x48_2) ≤ (rd t235 x58_3)) = false := decide_eq_false c70
                                  clear c70
                                  have H' := Aside0.mk H
                                  clear H
                                  have p249 : 0 ≤ (x58_3 : Int) := of_decide_eq_true (by first | (with_reducible assumption) | assumption)
                                  have q249 : x58_3 < (t235.length : Int) := of_decide_eq_true (by first | (with_reducible assumption) | assumption)
                                  obtain ⟨ad249, e249, hx249_0⟩ := Kd.at_int (Kd.R_reads' HO_56.out).2.2 x58_3 p249 q249
                                  obtain rfl : ad245 = ad249 := (by injection e249)
                                  replace p249 := eq_true p249
                                  replace q249 := eq_true q249
                                  go_wp2
                                  go_roundg k3
                                  case measure => have := HJ6.out; have := HK2.out; have := HK3.out; omega
                                  case rel => exact ⟨(x11_3), (wrap64 (x58_3 + 1)), (by first | rfl | (simp; done) | (simp [*]; done)), (by first | rfl | (simp; done) | (simp [*]; done)), H', ⟨by have := HJ6.out; have := HK2.out; have := HK3.out; omega⟩, ⟨by (with_reducible repeat (first | apply Kd.R_alloc | apply Kd.R_drewN | apply Kd.R_drew)); exact HO_3.out⟩, ⟨by (with_reducible repeat (first | apply Kd.R_alloc | apply Kd.R_drewN | apply Kd.R_drew)); exact HO_4.out⟩, ⟨by (with_reducible repeat (first | apply Kd.R_alloc | apply Kd.R_drewN | apply Kd.R_drew)); exact HO_6.out⟩, ⟨by (with_reducible repeat (first | apply Kd.R_alloc | apply Kd.R_drewN | apply Kd.R_drew)); exact HO_10.out⟩, ⟨by (with_reducible repeat (first | apply Kd.R_alloc | apply Kd.R_drewN | apply Kd.R_drew)); exact HO_46.out⟩, ⟨by (with_reducible repeat (first | apply Kd.R_alloc | apply Kd.R_drewN | apply Kd.R_drew)); exact HO_56.out⟩, ⟨by repeat (first | (with_reducible first | exact HB.out | apply below_alloc | apply pw_below_drewN | apply below_drew1) | exact HB.out)⟩⟩
                              · rw [if_neg c69] at H
                                exact absurd H (by simp)
                            · rw [if_neg c68] at H
                              exact absurd H (by simp)
                          · rw [if_neg c67] at H
                            have c67b0 : decide (x58_3 < (t235.length : Int)) = false := decide_eq_false c67
                            clear c67
                            by_cases c71 : (t246.length : Int) < x11_3
                            · rw [if_pos c71] at H
                              have c71b0 : decide ((t246.length : Int) < x11_3) = true := decide_eq_true c71
                              clear c71
                              obtain rfl := Option.some.inj H
                              obtain ⟨Ao72, co72, eo72⟩ := Kd.R_slice HO_10.out
                              subst eo72
                              obtain ⟨Ao73, co73, eo73⟩ := Kd.R_slice HO_6.out
                              subst eo73
                              go_wp2
                              go_ret
                              exact ⟨by first | rfl | (simp [errW_none, errW_some] <;> rfl) | (simp [*, errW_none, errW_some] <;> rfl), by repeat (first | (with_reducible first | exact HB.out | apply below_alloc | apply pw_below_drewN | apply below_drew1) | exact HB.out)⟩
                            · rw [if_neg c71] at H
                              have c71b0 : decide ((t246.length : Int) < x11_3) = false := decide_eq_false c71
                              clear c71
                              have H' := Aside0.mk H
                              clear H
                              obtain ⟨Ao74, co74, eo74⟩ := Kd.R_slice HO_10.out
                              subst eo74
                              go_wp2
                              go_roundg k3
                              case measure => have := HJ6.out; have := HK2.out; have := HK3.out; omega
                              case rel => exact ⟨(wrap64 (x48_2 + 1)), (by first | rfl | (simp; done) | (simp [*]; done)), H', ⟨by have := HJ6.out; have := HK2.out; have := HK3.out; omega⟩, ⟨by (with_reducible repeat (first | apply Kd.R_alloc | apply Kd.R_drewN | apply Kd.R_drew)); exact HO_3.out⟩, ⟨by (with_reducible repeat (first | apply Kd.R_alloc | apply Kd.R_drewN | apply Kd.R_drew)); exact Kd.R_mono HO_4.out (fun _ hk => hk.1)⟩, ⟨by (with_reducible repeat (first | apply Kd.R_alloc | apply Kd.R_drewN | apply Kd.R_drew)); exact Kd.R_mono HO_6.out (fun _ hk => ⟨hk.1, hk.2.2.1⟩)⟩, ⟨by (with_reducible repeat (first | apply Kd.R_alloc | apply Kd.R_drewN | apply Kd.R_drew)); exact Kd.R_mono HO_46.out (fun _ hk => hk.1)⟩, ⟨by repeat (first | (with_reducible first | exact HB.out | apply below_alloc | apply pw_below_drewN | apply below_drew1) | exact HB.out)⟩⟩
                    · rw [if_neg c64] at H
                      exact absurd H (by simp)
                  · rw [if_neg c63] at H
                    exact absurd H (by simp)
                · rw [if_neg c62] at H
                  have c62b0 : decide (x48_2 < (t235.length : Int)) = false := decide_eq_false c62
                  clear c62
                  obtain rfl := Option.some.inj H
                  go_wp2
                  go_ret
                  exact ⟨by first | rfl | (simp [errW_none, errW_some] <;> rfl) | (simp [*, errW_none, errW_some] <;> rfl), by repeat (first | (with_reducible first | exact HB.out | apply below_alloc | apply pw_below_drewN | apply below_drew1) | exact HB.out)⟩

/-- THE ONE PURE STATEMENT of laws_FnEquipped: yours. -/
def laws_FnEquipped.Pure : Prop := ∀ (l0 : List Int), l0.length ≤ maxLen → l0.length * 1 ≤ 140737488351232 → (∀ x ∈ l0, (Lit.int .u8 x).wf = true) → ∃ k, laws_FnEquipped.f k l0 = some true
theorem laws_FnEquipped.walk (P : laws_FnEquipped.Pure) (a0 : Option Addr) (len0 cap0 : Nat) (z0 : List Int) (w : World) (w0 : (a0 = none ∧ len0 = 0 ∧ cap0 = 0 ∧ z0 = []) ∨ ∃ x, a0 = some x ∧ len0 ≤ cap0 ∧ cap0 ≤ maxLen ∧ z0.length = cap0 ∧ (∀ i, i < z0.length → w.cell? (x.add i) = some (.int .u8 (z0.getD i 0))) ∧ ∀ n ∈ z0, (Lit.int .u8 n).wf = true) (y0 : len0 * 1 ≤ 140737488351232) :
    Calls Try.prog 3 #[.slice a0 len0 cap0] w fun e w' => e = .returned (.bool true) ∧ Below w.heap.size w w' := by
  obtain ⟨l0, rfl, hr0, hm0, hw0, hc0⟩ := ReadsInt.ofRowC w0
  obtain ⟨k, h⟩ := P l0 hm0 y0 hw0
  refine (laws_FnEquipped.calls k _ _ l0 true w (Kd.C_of_reads (d := (0 : Int)) (h1 := fun _ => rfl) hr0) hc0 h).mono ?_
  rintro e w' ⟨rfl, hd⟩
  exact ⟨rfl, hd⟩

end Go.Proofs.Ytkooomnoofnfpaa.PFnEquipped
