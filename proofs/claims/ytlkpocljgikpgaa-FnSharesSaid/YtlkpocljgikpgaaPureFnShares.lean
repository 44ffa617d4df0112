import Derived.Test.YtlkpocljgikpgaaTb4
set_option linter.unusedSimpArgs false
set_option linter.unusedVariables false
namespace Go.Proofs.Ytlkpocljgikpgaa
open Go Go.TV

theorem right_mono {b : Beam} (hw : 0 ≤ b.weight) (hlr : b.left < b.right) {p q : Int} (h : p ≤ q) : rightQ b p ≤ rightQ b q := by
  have hD : (0 : Rat) < ((b.right - b.left : Int) : Rat) := Rat.intCast_pos.mpr (by omega)
  have hne : ((b.right - b.left : Int) : Rat) ≠ 0 := by grind
  have h1 : b.weight * (p - b.left) ≤ b.weight * (q - b.left) := Int.mul_le_mul_of_nonneg_left (by omega) hw
  have h2 : ((b.weight * (p - b.left) : Int) : Rat) ≤ ((b.weight * (q - b.left) : Int) : Rat) := Rat.intCast_le_intCast.mpr h1
  refine Rat.le_of_mul_le_mul_right (c := ((b.right - b.left : Int) : Rat)) ?_ hD
  unfold rightQ
  rw [Rat.div_mul_cancel hne, Rat.div_mul_cancel hne]
  exact h2
theorem right_left {b : Beam} (hlr : b.left < b.right) : rightQ b b.left = 0 := by
  unfold rightQ
  rw [Int.sub_self, Int.mul_zero, Rat.div_def]
  exact Rat.zero_mul _
theorem right_right {b : Beam} (hlr : b.left < b.right) : rightQ b b.right = b.weight := by
  have hD : (0 : Rat) < ((b.right - b.left : Int) : Rat) := Rat.intCast_pos.mpr (by omega)
  have hne : ((b.right - b.left : Int) : Rat) ≠ 0 := by grind
  unfold rightQ
  rw [Rat.intCast_mul, Rat.mul_div_cancel hne]
theorem right_none {b : Beam} (h : b.weight = 0) (p : Int) : rightQ b p = 0 := by
  unfold rightQ
  rw [h, Int.zero_mul, Rat.div_def]
  exact Rat.zero_mul _
theorem cmp_le_of {x y : Rat} (h : x ≤ y) : ¬0 < cmpZ (x.num * y.den) (y.num * x.den) := by
  have := (Rat.le_iff x y).mp h
  unfold cmpZ
  split
  · decide
  · split
    · decide
    · omega
theorem sign_of {x : Rat} (h : 0 ≤ x) : 0 ≤ cmpZ x.num 0 := by
  have := Rat.num_nonneg.mpr h
  unfold cmpZ
  split
  · omega
  · split <;> decide
namespace Pure
theorem FnShares (x0 : (List Int)) (h0 : (okL 1 (fun n => (Lit.int .u8 n).wf = true)) x0) :
    fn Try.prog conv ext 3 [LL (fun n : Int => [.sc (.int .u8 n)]) x0] = some (Bo true) := by
  by_cases hs : (1048576 : Int) < (x0.length : Int)
  · rw [fn_eq, ev_eqQ (rs := [.tmp 2]) [] rfl Try.func3 rfl rfl (by kernel_rfl) (by kernel_rfl)]
    simp only [go_sem, hs]
  have hx : ∀ x ∈ x0, 0 ≤ x ∧ x ≤ 255 := fun x hx => by
    have := h0.1 x hx
    simp only [Lit.wf, Bool.and_eq_true, decide_eq_true_eq] at this
    have m1 : IntKind.u8.min = 0 := by decide
    have m2 : IntKind.u8.max = 255 := by decide
    rw [m1, m2] at this
    exact this
  have hl : x0.length ≤ 1048576 := by omega
  obtain ⟨b, k1_, e1, e2, e3, e4, e5⟩ := sMakeBeam x0 hx hl
  have k1 : fn Try.prog conv ext 8 [LL (fun n : Int => [.sc (.int .u8 n)]) x0] = some (.agg (cBeam b)) := k1_
  obtain ⟨r, k2_, a2⟩ := sMakeNum x0 hx hl 20 (by decide)
  have k2 : fn Try.prog conv ext 9 [LL (fun n : Int => [.sc (.int .u8 n)]) x0, I 20] = some (I r) := k2_
  have w1 := wrap_id (n := b.high - b.low) (by omega) (by omega)
  have w2 := wrap_id (n := b.high - b.low + 1) (by omega) (by omega)
  have c1 : ¬b.high - b.low + 1 = 0 := by omega
  obtain ⟨p, hp, hp0, hp1⟩ : ∃ p, p = b.low + r.tmod (b.high - b.low + 1) ∧ b.low ≤ p ∧ p ≤ b.high := by
    refine ⟨_, rfl, ?_, ?_⟩
    · rw [Int.tmod_eq_emod_of_nonneg a2.1]
      have := Int.emod_nonneg r (b := b.high - b.low + 1) (by omega)
      omega
    · rw [Int.tmod_eq_emod_of_nonneg a2.1]
      have := Int.emod_lt_of_pos r (b := b.high - b.low + 1) (by omega)
      omega
  have w3 := wrap_id (n := p) (by omega) (by omega)
  have hok : beamB b = true := by
    unfold beamB inB
    simp only [Bool.and_eq_true, decide_eq_true_eq]
    omega
  have hg := beamGood hok
  have k3 := iShareAt b p
  rw [hok, if_pos (by simp; omega)] at k3
  have k4 := iWorstShares b
  rw [if_pos hok] at k4
  have k5 := iBeamOk b
  rw [hok] at k5
  have sx := left_small hg (p := p) (by omega)
  have sy := (right_small hg (p := p) (by omega)).2.1
  have su := left_small hg (p := b.low) (by omega)
  have sv := (right_small hg (p := b.high) (by omega)).2.1
  have m1 := right_mono e2.1 hg.lr hp0
  have m2 := right_mono e2.1 hg.lr hp1
  have k6 := iRatAdd _ _ sx sy
  have hsum : (b.weight : Rat) - rightQ b p + rightQ b p = b.weight := by grind
  rw [hsum] at k6
  have k7 := iRatFromIntZ b.weight (by omega)
  have sw : Sm (b.weight : Rat) := ⟨by show b.weight.natAbs < _; omega, by show 1 < _; decide⟩
  have k8 := iRatEqual (b.weight : Rat) (b.weight : Rat) sw sw
  rw [decide_eq_true rfl] at k8
  have k9 := iRatCmpQ _ _ sx su
  have k10 := iRatCmpQ _ _ sy sv
  have c9 := cmp_le_of (x := (b.weight : Rat) - rightQ b p) (y := (b.weight : Rat) - rightQ b b.low) (by grind)
  have c10 := cmp_le_of m2
  have k11 := iIsSteady b
  rw [hok, Bool.true_and] at k11
  have k12 := iRatSign _ sx
  have k13 := iRatSign _ sy
  have hst : (decide (b.weight = 0) || decide (b.left ≤ b.low) && decide (b.high ≤ b.right)) = true → 0 ≤ (b.weight : Rat) - rightQ b p ∧ 0 ≤ rightQ b p := by
    intro h
    simp only [Bool.or_eq_true, Bool.and_eq_true, decide_eq_true_eq] at h
    rcases h with h | ⟨h1, h2⟩
    · rw [right_none h, h, Rat.intCast_zero]; exact ⟨by grind, Rat.le_refl⟩
    · have q1 := right_mono e2.1 hg.lr (p := b.left) (q := p) (by omega)
      have q2 := right_mono e2.1 hg.lr (p := p) (q := b.right) (by omega)
      rw [right_left hg.lr] at q1
      rw [right_right hg.lr] at q2
      exact ⟨by grind, q1⟩
  have d12 := fun h => sign_of (hst h).1
  have d13 := fun h => sign_of (hst h).2
  clear hst hsum
  generalize cmpZ (((b.weight : Rat) - rightQ b p).num * ((b.weight : Rat) - rightQ b b.low).den) (((b.weight : Rat) - rightQ b b.low).num * ((b.weight : Rat) - rightQ b p).den) = z9 at *
  generalize cmpZ ((rightQ b p).num * (rightQ b b.high).den) ((rightQ b b.high).num * (rightQ b p).den) = z10 at *
  generalize (b.weight : Rat) - rightQ b p = X at *
  generalize rightQ b p = Y at *
  generalize (b.weight : Rat) - rightQ b b.low = U at *
  generalize rightQ b b.high = W at *
  generalize (b.weight : Rat) = B at *
  unfold cQ at *
  rw [fn_eq, ev_eqQ (rs := [.tmp 2]) [] rfl Try.func3 rfl rfl (by kernel_rfl) (by kernel_rfl)]
  cases hst : (decide (b.weight = 0) || decide (b.left ≤ b.low) && decide (b.high ≤ b.right)) with
  | false =>
    rw [hst] at k11
    simp only [go_sem, hs, k1, k2, w1, w2, c1, ← hp, w3, k3, k4, k5, k6, k7, k8, k9, k10, c9, c10, k11]
  | true =>
    rw [hst] at k11
    have d1 := d12 hst
    have d2 := d13 hst
    simp only [go_sem, hs, k1, k2, w1, w2, c1, ← hp, w3, k3, k4, k5, k6, k7, k8, k9, k10, c9, c10, k11, k12, k13, d1, d2]
end Pure
end Go.Proofs.Ytlkpocljgikpgaa
