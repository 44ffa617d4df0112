import Derived.Test.YtlacjcdhfoeekaaTvQ
set_option linter.unusedSimpArgs false
set_option linter.unusedVariables false
namespace Go.Proofs.Ytlacjcdhfoeekaa
open Go Go.TV

theorem fits_mono {w f l : Int} (hw : 0 ≤ w) (hf : 0 ≤ f) (hl : 0 ≤ l) {i j : Nat} (hij : i ≤ j) (h : fitsB w f l i = true) : fitsB w f l j = true := by
  unfold fitsB at h ⊢
  rw [decide_eq_true_eq] at h ⊢
  have e : ∀ a : Int, 4 * a * a * l * l = (4 * (l * l)) * (a * a) := fun a => by
    simp only [Int.mul_assoc, Int.mul_comm, Int.mul_left_comm]
  rw [e] at h ⊢
  rw [Int.mul_add] at h ⊢
  have hq : 1 * 1 ≤ ((i : Int) + 1) * ((i : Int) + 1) := Int.mul_le_mul (by omega) (by omega) (by omega) (by omega)
  have hpq : ((i : Int) + 1) * ((i : Int) + 1) ≤ ((j : Int) + 1) * ((j : Int) + 1) := Int.mul_le_mul (by omega) (by omega) (by omega) (by omega)
  have hA : 0 ≤ w * w * (f * f) := Int.mul_nonneg (Int.mul_nonneg hw hw) (Int.mul_nonneg hf hf)
  generalize ((i : Int) + 1) * ((i : Int) + 1) = q at *
  generalize ((j : Int) + 1) * ((j : Int) + 1) = p at *
  generalize w * w * (f * f) = A at *
  generalize w * w = W at *
  generalize 4 * (l * l) = L at *
  have e2 : (L - W) * q = L * q - W * q := Int.sub_mul _ _ _
  have e3 : (L - W) * p = L * p - W * p := Int.sub_mul _ _ _
  have hLW : 0 ≤ L - W := Classical.byContradiction fun hn => by
    have : (L - W) * q ≤ -1 * q := Int.mul_le_mul_of_nonneg_right (by omega) (by omega)
    omega
  have := Int.mul_le_mul_of_nonneg_left hpq hLW
  omega
theorem least_iff {w f l : Int} (hw : 0 ≤ w) (hf : 0 ≤ f) (hl : 0 ≤ l) (k : Nat) (hk : k < 1000) : (decide (0 < leastH w f l) && decide (leastH w f l ≤ (k : Int) + 1)) = fitsB w f l k := by
  by_cases hall : ∃ i, i < 1000 ∧ fitsB w f l i = true
  · obtain ⟨m, ⟨hm, hmf⟩, hmin⟩ : ∃ m, (m < 1000 ∧ fitsB w f l m = true) ∧ ∀ i, i < m → fitsB w f l i = false := by
      obtain ⟨i, hi, hfi⟩ := hall
      induction i using Nat.strongRecOn with
      | _ i ih =>
        by_cases hex : ∃ j, j < i ∧ fitsB w f l j = true
        · obtain ⟨j, hj, hfj⟩ := hex
          exact ih j hj (by omega) hfj
        · exact ⟨i, ⟨hi, hfi⟩, fun j hj => by
            cases hfj : fitsB w f l j with
            | false => rfl
            | true => exact absurd ⟨j, hj, hfj⟩ hex⟩
    rw [least_at hm hmin hmf]
    rw [decide_eq_true (by omega : (0 : Int) < (m : Int) + 1), Bool.true_and]
    by_cases hmk : m ≤ k
    · rw [decide_eq_true (by omega), fits_mono hw hf hl hmk hmf]
    · rw [decide_eq_false (by omega), hmin k (by omega)]
  · have hn : ∀ i, i < 1000 → fitsB w f l i = false := fun i hi => by
      cases h : fitsB w f l i with
      | false => rfl
      | true => exact absurd ⟨i, hi, h⟩ hall
    rw [least_none hn, hn k hk]
    rfl
theorem slT_nat (w f h : Nat) (hw : w ≤ 1000) (hf : f ≤ 1000) (h1 : 1 ≤ h) (h2 : h ≤ 1000) : slT w f h = ratD (w * w * (f * f + h * h)) (4 * h * h) := by
  have b1 : inB (w : Int) 0 1000 = true := by unfold inB; rw [decide_eq_true (by omega), decide_eq_true (by omega)]; rfl
  have b2 : inB (f : Int) 0 1000 = true := by unfold inB; rw [decide_eq_true (by omega), decide_eq_true (by omega)]; rfl
  have b3 : inB (h : Int) 1 1000 = true := by unfold inB; rw [decide_eq_true (by omega), decide_eq_true (by omega)]; rfl
  unfold slT
  rw [b1, b2, b3, if_pos (by rfl)]
  have e1 : ((w : Int) * w * ((f : Int) * f + (h : Int) * h)) = ((w * w * (f * f + h * h) : Nat) : Int) := by simp
  have e2 : (4 * (h : Int) * h) = ((4 * h * h : Nat) : Int) := by simp
  rw [e1, e2, Int.toNat_natCast, Int.toNat_natCast]
theorem rat_one (m : Nat) : ratD m 1 = [Bo false, LI (dg m), LI (dg 1)] := by
  unfold ratD
  rw [Nat.gcd_one_right, Nat.div_one, Nat.div_one]
theorem cmp_le {a b : Nat} : decide (cmpN a b ≤ 0) = decide (a ≤ b) := by
  unfold cmpN
  by_cases h : a < b
  · rw [if_pos h, decide_eq_true (by omega), decide_eq_true (by omega)]
  · rw [if_neg h]
    by_cases h2 : a = b
    · rw [if_pos h2, decide_eq_true (by omega), decide_eq_true (by omega)]
    · rw [if_neg h2, decide_eq_false (by omega), decide_eq_false (by omega)]
theorem cmp_ge {a b : Nat} (h : b ≤ a) : ¬cmpN a b < 0 := by
  unfold cmpN
  rw [if_neg (by omega)]
  split <;> decide
theorem higher (w f h : Nat) : w * w * (f * f + (h + 1) * (h + 1)) * (4 * h * h) ≤ w * w * (f * f + h * h) * (4 * (h + 1) * (h + 1)) := by
  have e1 : w * w * (f * f + (h + 1) * (h + 1)) * (4 * h * h) = w * w * 4 * ((f * f + (h + 1) * (h + 1)) * (h * h)) := by simp only [Nat.mul_assoc, Nat.mul_comm, Nat.mul_left_comm]
  have e2 : w * w * (f * f + h * h) * (4 * (h + 1) * (h + 1)) = w * w * 4 * ((f * f + h * h) * ((h + 1) * (h + 1))) := by simp only [Nat.mul_assoc, Nat.mul_comm, Nat.mul_left_comm]
  rw [e1, e2]
  refine Nat.mul_le_mul_left _ ?_
  have hq : h * h ≤ (h + 1) * (h + 1) := Nat.mul_le_mul (by omega) (by omega)
  generalize h * h = q at *
  generalize (h + 1) * (h + 1) = p at *
  rw [Nat.add_mul, Nat.add_mul, Nat.mul_comm p q]
  have := Nat.mul_le_mul_left (f * f) hq
  omega
namespace Pure
theorem FnSlings (x0 : (List Int)) (h0 : (okL 1 (fun n => (Lit.int .u8 n).wf = true)) x0) :
    fn Try.prog conv ext 4 [LL (fun n : Int => [.sc (.int .u8 n)]) x0] = some (Bo true) := by
  by_cases hs : (1048576 : Int) < (x0.length : Int)
  · rw [fn_eq, ev_eqQ (rs := [.tmp 2]) [] rfl Try.func4 rfl rfl (by kernel_rfl) (by kernel_rfl)]
    simp only [go_sem, hs]
  have hx : ∀ x ∈ x0, 0 ≤ x ∧ x ≤ 255 := fun x hx => by
    have := h0.1 x hx
    simp only [Lit.wf, Bool.and_eq_true, decide_eq_true_eq] at this
    have m1 : IntKind.u8.min = 0 := by decide
    have m2 : IntKind.u8.max = 255 := by decide
    rw [m1, m2] at this
    exact this
  have hl : x0.length ≤ 1048576 := by omega
  obtain ⟨r1, k1_, a1⟩ := sMakeNum x0 hx hl 20 (by decide)
  have k1 : fn Try.prog conv ext 15 [LL (fun n : Int => [.sc (.int .u8 n)]) x0, I 20] = some (I r1) := k1_
  obtain ⟨r2, k2_, a2⟩ := sMakeNum x0 hx hl 22 (by decide)
  have k2 : fn Try.prog conv ext 15 [LL (fun n : Int => [.sc (.int .u8 n)]) x0, I 22] = some (I r2) := k2_
  obtain ⟨r3, k3_, a3⟩ := sMakeNum x0 hx hl 24 (by decide)
  have k3 : fn Try.prog conv ext 15 [LL (fun n : Int => [.sc (.int .u8 n)]) x0, I 24] = some (I r3) := k3_
  obtain ⟨r4, k4_, a4⟩ := sMakeNum x0 hx hl 26 (by decide)
  have k4 : fn Try.prog conv ext 15 [LL (fun n : Int => [.sc (.int .u8 n)]) x0, I 26] = some (I r4) := k4_
  obtain ⟨W, hW, hWe⟩ : ∃ W : Nat, W < 60 ∧ r1.tmod 60 = W := ⟨(r1.tmod 60).toNat, by rw [Int.tmod_eq_emod_of_nonneg a1.1]; omega, by rw [Int.tmod_eq_emod_of_nonneg a1.1]; omega⟩
  obtain ⟨F, hF, hFe⟩ : ∃ F : Nat, F < 9 ∧ r2.tmod 9 = F := ⟨(r2.tmod 9).toNat, by rw [Int.tmod_eq_emod_of_nonneg a2.1]; omega, by rw [Int.tmod_eq_emod_of_nonneg a2.1]; omega⟩
  obtain ⟨G, hG, hGe⟩ : ∃ G : Nat, G < 20 ∧ r3.tmod 20 = G := ⟨(r3.tmod 20).toNat, by rw [Int.tmod_eq_emod_of_nonneg a3.1]; omega, by rw [Int.tmod_eq_emod_of_nonneg a3.1]; omega⟩
  obtain ⟨M, hM, hMe⟩ : ∃ M : Nat, M < 60 ∧ r4.tmod 60 = M := ⟨(r4.tmod 60).toNat, by rw [Int.tmod_eq_emod_of_nonneg a4.1]; omega, by rw [Int.tmod_eq_emod_of_nonneg a4.1]; omega⟩
  have z1 : ¬(60 : Int) = 0 := by decide
  have z2 : ¬(9 : Int) = 0 := by decide
  have z3 : ¬(20 : Int) = 0 := by decide
  have g1 : (1 : Int) + (G : Int) = ((G + 1 : Nat) : Int) := by omega
  have w1 := wrap_id (n := ((G + 1 : Nat) : Int)) (by omega) (by omega)
  have g2 : ((G + 1 : Nat) : Int) + 1 = ((G + 1 + 1 : Nat) : Int) := by omega
  have w2 := wrap_id (n := ((G + 1 + 1 : Nat) : Int)) (by omega) (by omega)
  have b1 : inB (W : Int) 0 1000 = true := by unfold inB; rw [decide_eq_true (by omega), decide_eq_true (by omega)]; rfl
  have b2 : inB (F : Int) 0 1000 = true := by unfold inB; rw [decide_eq_true (by omega), decide_eq_true (by omega)]; rfl
  have b3 : inB ((G + 1 : Nat) : Int) 1 1000 = true := by unfold inB; rw [decide_eq_true (by omega), decide_eq_true (by omega)]; rfl
  have b4 : inB ((G + 1 + 1 : Nat) : Int) 1 1000 = true := by unfold inB; rw [decide_eq_true (by omega), decide_eq_true (by omega)]; rfl
  have b5 : inB (M : Int) 0 1000 = true := by unfold inB; rw [decide_eq_true (by omega), decide_eq_true (by omega)]; rfl
  have s1 := iSling W F (G + 1 : Nat)
  have s2 := iSling W F (G + 1 + 1 : Nat)
  rw [b1, b2, b3, slT_nat W F (G + 1) (by omega) (by omega) (by omega) (by omega)] at s1
  rw [b1, b2, b4, slT_nat W F (G + 1 + 1) (by omega) (by omega) (by omega) (by omega)] at s2
  have s3 := iLeast W F M
  unfold lhR at s3
  rw [b1, b2, b5] at s3
  have s4 := iSteep F (G + 1 : Nat) b2 b3
  have q1 : W * W ≤ 60 * 60 := Nat.mul_le_mul (by omega) (by omega)
  have q2 : F * F ≤ 9 * 9 := Nat.mul_le_mul (by omega) (by omega)
  have q3 : (G + 1) * (G + 1) ≤ 20 * 20 := Nat.mul_le_mul (by omega) (by omega)
  have q4 : (G + 1 + 1) * (G + 1 + 1) ≤ 21 * 21 := Nat.mul_le_mul (by omega) (by omega)
  have q5 : 4 * (G + 1) * (G + 1) ≤ 80 * 20 := Nat.mul_le_mul (by omega) (by omega)
  have q6 : 4 * (G + 1 + 1) * (G + 1 + 1) ≤ 84 * 21 := Nat.mul_le_mul (by omega) (by omega)
  have q7 : W * W * (F * F + (G + 1) * (G + 1)) ≤ 3600 * 481 := Nat.mul_le_mul (by omega) (by omega)
  have q8 : W * W * (F * F + (G + 1 + 1) * (G + 1 + 1)) ≤ 3600 * 522 := Nat.mul_le_mul (by omega) (by omega)
  have q9 : M * M ≤ 60 * 60 := Nat.mul_le_mul (by omega) (by omega)
  have p1 : 0 < 4 * (G + 1) * (G + 1) := Nat.mul_pos (by omega) (by omega)
  have p2 : 0 < 4 * (G + 1 + 1) * (G + 1 + 1) := Nat.mul_pos (by omega) (by omega)
  have s5 := iRatCmpD (W * W * (F * F + (G + 1) * (G + 1))) (4 * (G + 1) * (G + 1)) (W * W * (F * F + (G + 1 + 1) * (G + 1 + 1))) (4 * (G + 1 + 1) * (G + 1 + 1)) (by omega) (by omega) (by omega) (by omega) (by omega) (by omega)
  have c5 := cmp_ge (higher W F (G + 1))
  have s6 := iRatCmpD (W * W * (F * F + (G + 1) * (G + 1))) (4 * (G + 1) * (G + 1)) (M * M) 1 (by omega) (by omega) (by omega) (by omega) (by omega) (by omega)
  have s7 := iFromInt (M * M) (by omega)
  rw [rat_one] at s6
  have w3 := wrap_id (n := ((M * M : Nat) : Int)) (by omega) (by omega)
  rw [Int.natCast_mul] at w3 s7
  have c6 := cmp_le (a := W * W * (F * F + (G + 1) * (G + 1)) * 1) (b := M * M * (4 * (G + 1) * (G + 1)))
  have hfit : fitsB W F M G = decide (W * W * (F * F + (G + 1) * (G + 1)) * 1 ≤ M * M * (4 * (G + 1) * (G + 1))) := by
    unfold fitsB
    refine decide_eq_decide.mpr ?_
    have e1 : ((W : Int) * W * ((F : Int) * F + ((G : Int) + 1) * ((G : Int) + 1))) = ((W * W * (F * F + (G + 1) * (G + 1)) * 1 : Nat) : Int) := by simp
    have e2 : (4 * ((G : Int) + 1) * ((G : Int) + 1) * M * M) = ((M * M * (4 * (G + 1) * (G + 1)) : Nat) : Int) := by
      simp [Int.mul_assoc, Int.mul_comm, Int.mul_left_comm]
    rw [e1, e2]
    omega
  have hli := least_iff (w := W) (f := F) (l := M) (by omega) (by omega) (by omega) G (by omega)
  rw [hfit, ← c6] at hli
  have hcast : (G : Int) + 1 = ((G + 1 : Nat) : Int) := by omega
  rw [hcast] at hli
  unfold ratD at *
  rw [fn_eq, ev_eqQ (rs := [.tmp 2]) [] rfl Try.func4 rfl rfl (by kernel_rfl) (by kernel_rfl)]
  generalize leastH W F M = n at *
  by_cases hn : 0 < n
  · rw [decide_eq_true hn, Bool.true_and] at hli
    simp only [go_sem, hs, k1, k2, k3, k4, z1, z2, z3, hWe, hFe, hGe, hMe, g1, w1, g2, w2, s1, s2, s3, s4, s5, c5, s6, s7, w3, hn, hli]
  · rw [decide_eq_false hn, Bool.false_and] at hli
    simp only [go_sem, hs, k1, k2, k3, k4, z1, z2, z3, hWe, hFe, hGe, hMe, g1, w1, g2, w2, s1, s2, s3, s4, s5, c5, s6, s7, w3, hn]
    rw [Nat.mul_one] at hli
    rw [← hli]
    rfl
end Pure
end Go.Proofs.Ytlacjcdhfoeekaa
