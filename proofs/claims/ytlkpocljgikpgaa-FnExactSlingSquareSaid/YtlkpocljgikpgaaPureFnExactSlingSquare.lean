import Derived.Test.YtlkpocljgikpgaaTb4
set_option linter.unusedSimpArgs false
set_option linter.unusedVariables false
namespace Go.Proofs.Ytlkpocljgikpgaa
open Go Go.TV

theorem slT_ints (w half h : Int) : ∃ xs ys, slT w half h = [Bo false, LI xs, LI ys] ∧ xs.length ≤ 3 ∧ ys.length ≤ 3 ∧ ∀ nx, ∃ v u σ1 nx1 i j, ev Try.prog convM extM 20 [I w, I half, I h] noStore nx = some (.tup [.agg [Bo false, v, u], Bo (inB w 0 1000 && (inB half 0 1000 && inB h 1 1000))], σ1, nx1) ∧ nx ≤ nx1 ∧ Own σ1 1 v (LI xs) i ∧ Own σ1 1 u (LI ys) j ∧ (∀ b ∈ i, nx ≤ b ∧ b < nx1) ∧ (∀ b ∈ j, nx ≤ b ∧ b < nx1) ∧ ∀ b ∈ i, ¬b ∈ j := by
  have t1 := isLimit w
  have t2 := isWidth half
  have t3 := isHeight h
  unfold slT
  have bad : (inB w 0 1000 && (inB half 0 1000 && inB h 1 1000)) = false → ∀ nx, ∃ v u σ1 nx1 i j, ev Try.prog convM extM 20 [I w, I half, I h] noStore nx = some (.tup [.agg [Bo false, v, u], Bo (inB w 0 1000 && (inB half 0 1000 && inB h 1 1000))], σ1, nx1) ∧ nx ≤ nx1 ∧ Own σ1 1 v (LI []) i ∧ Own σ1 1 u (LI []) j ∧ (∀ b ∈ i, nx ≤ b ∧ b < nx1) ∧ (∀ b ∈ j, nx ≤ b ∧ b < nx1) ∧ ∀ b ∈ i, ¬b ∈ j := by
    intro hb nx
    rw [hb]
    refine ⟨.nil, .nil, ?_⟩
    rw [ev_eqQ (rs := [.cell 6 31, .tmp 7]) [] rfl Try.func20 rfl rfl (by kernel_rfl) (by kernel_rfl)]
    cases hw : inB w 0 1000 with
    | false => rw [hw] at t1; simp only [go_sem, t1]; exact ⟨_, _, [], [], rfl, by omega, own_of_nil _ _, own_of_nil _ _, by simp, by simp, by simp⟩
    | true =>
    cases hf : inB half 0 1000 with
    | false => rw [hw] at t1; rw [hf] at t2; simp only [go_sem, t1, t2]; exact ⟨_, _, [], [], rfl, by omega, own_of_nil _ _, own_of_nil _ _, by simp, by simp, by simp⟩
    | true =>
    cases hh : inB h 1 1000 with
    | false => rw [hw] at t1; rw [hf] at t2; rw [hh] at t3; simp only [go_sem, t1, t2, t3]; exact ⟨_, _, [], [], rfl, by omega, own_of_nil _ _, own_of_nil _ _, by simp, by simp, by simp⟩
    | true => rw [hw, hf, hh] at hb; cases hb
  cases hb : (inB w 0 1000 && (inB half 0 1000 && inB h 1 1000)) with
  | false =>
    rw [hb] at bad
    rw [if_neg (by decide)]
    exact ⟨[], [], rfl, by simp, by simp, bad rfl⟩
  | true =>
  clear bad
  rw [if_pos rfl]
  simp only [Bool.and_eq_true] at hb
  obtain ⟨hw, hf, hh⟩ := hb
  rw [hw] at t1; rw [hf] at t2; rw [hh] at t3
  have w1 := inB_true hw
  have f1 := inB_true hf
  have h1 := inB_true hh
  have w2 := sq_le w1.1 w1.2
  have f2 := sq_le f1.1 f1.2
  have h2 := sq_le (by omega : 0 ≤ h) h1.2
  have h2' : 0 < h * h := Int.mul_pos (by omega) (by omega)
  have p1 : 0 ≤ w * w * (half * half + h * h) := Int.mul_nonneg w2.1 (by omega)
  have p2 : w * w * (half * half + h * h) ≤ 1000000 * 2000000 := Int.mul_le_mul (by omega) (by omega) (by omega) (by omega)
  have e0 : 4 * h * h = 4 * (h * h) := Int.mul_assoc _ _ _
  have a1 := wrap_id (n := w * w) (by omega) (by omega)
  have a2 := wrap_id (n := half * half) (by omega) (by omega)
  have a3 := wrap_id (n := h * h) (by omega) (by omega)
  have a4 := wrap_id (n := half * half + h * h) (by omega) (by omega)
  have a5 := wrap_id (n := w * w * (half * half + h * h)) (by omega) (by omega)
  have b1 := wrap_id (n := 4 * h) (by omega) (by omega)
  have b2 := wrap_id (n := 4 * h * h) (by omega) (by omega)
  have m1 := dg_three (n := (w * w * (half * half + h * h)).toNat / Nat.gcd (w * w * (half * half + h * h)).toNat (4 * h * h).toNat) (Nat.le_trans (Nat.div_le_self _ _) (by omega))
  have m2 := dg_three (n := (4 * h * h).toNat / Nat.gcd (w * w * (half * half + h * h)).toNat (4 * h * h).toNat) (Nat.le_trans (Nat.div_le_self _ _) (by omega))
  refine ⟨_, _, rfl, m1, m2, fun nx => ?_⟩
  obtain ⟨v, u, σ1, nx1, i, j, k1, hn, ho, ho2, hi, hj, hd⟩ := ratOfO (w * w * (half * half + h * h)).toNat (4 * h * h).toNat (by omega) (by omega) (by omega) (nx + 1)
  rw [Int.toNat_of_nonneg p1, Int.toNat_of_nonneg (by omega)] at k1
  have g1 := fun d => ho.gather (d' := d + 1) (by omega)
  have g2 := fun d => ho2.gather (d' := d + 1) (by omega)
  have c1 := cells_of_cell ho.cell
  have c2 := cells_of_cell ho2.cell
  have c1' := ho.cell
  have c2' := ho2.cell
  have j1 : ∀ σ, joinS (nx + 1) σ σ1 (i ++ j) nx = σ nx := fun σ => join_lt (by omega)
  have n1 : nx < nx1 := by omega
  refine ⟨v, u, ?_⟩
  rw [ev_eqQ (rs := [.cell 6 31, .tmp 7]) [] rfl Try.func20 rfl rfl (by kernel_rfl) (by kernel_rfl)]
  simp only [go_sem, t1, t2, t3, a1, a2, a3, a4, a5, b1, b2, k1, g1, g2, c1, c2, c1', c2', j1, n1]
  refine ⟨_, _, i, j, rfl, by omega, ?_, ?_, fun b hb => by have := hi b hb; omega, fun b hb => by have := hj b hb; omega, hd⟩
  · rw [Own.upd (fun hb => by have := hi _ hb; omega)]
    exact ho.frame fun b hb => join_in (by have := hi b hb; omega) (List.mem_append_left _ hb)
  · rw [Own.upd (fun hb => by have := hj _ hb; omega)]
    exact ho2.frame fun b hb => join_in (by have := hj b hb; omega) (List.mem_append_right _ hb)
namespace Pure
theorem FnExactSlingSquare (x0 : Int) (h0 : okI x0) (x1 : Int) (h1 : okI x1) (x2 : Int) (h2 : okI x2) :
    fn Try.prog convM extM 4 [I x0, I x1, I x2] = some (Bo true) := by
  have k1 := sSling x0 x1 x2
  obtain ⟨xs, ys, hT, lx, ly, hO⟩ := slT_ints x0 x1 x2
  rw [hT] at k1
  obtain ⟨v, u, σ1, n1, i, j, K1, hn1, ov, ou, hi, hj, hd⟩ := hO 1
  obtain ⟨v2, u2, σ2, n2, i2, j2, K2, hn2, ov2, ou2, hi2, hj2, hd2⟩ := hO (n1 + 1 + 1 + 1)
  obtain ⟨mk, hmk⟩ : ∃ mk : Store → Store, ∀ σ, Own σ 1 v (LI xs) i → Own σ 1 u (LI ys) j → ev Try.prog convM extM 22 [.agg [Bo false, v, u], I 1] σ (n1 + 1) = some (I (1 + xs.length + ys.length), mk σ, n1 + 1 + 1 + 1) ∧ Own (mk σ) 1 v (LI (marks 1 xs.length)) i ∧ Own (mk σ) 1 u (LI (marks (1 + xs.length) ys.length)) j ∧ ∀ b, ¬b ∈ i → ¬b ∈ j → b < n1 + 1 → mk σ b = σ b := by
    have : ∀ σ : Store, ∃ σ', Own σ 1 v (LI xs) i → Own σ 1 u (LI ys) j → ev Try.prog convM extM 22 [.agg [Bo false, v, u], I 1] σ (n1 + 1) = some (I (1 + xs.length + ys.length), σ', n1 + 1 + 1 + 1) ∧ Own σ' 1 v (LI (marks 1 xs.length)) i ∧ Own σ' 1 u (LI (marks (1 + xs.length) ys.length)) j ∧ ∀ b, ¬b ∈ i → ¬b ∈ j → b < n1 + 1 → σ' b = σ b := fun σ => by
      by_cases hA : Own σ 1 v (LI xs) i ∧ Own σ 1 u (LI ys) j
      · obtain ⟨σ', h⟩ := markRat (nx := n1 + 1) (neg := false) hA.1 hA.2 (fun b hb => by have := hi b hb; omega) (fun b hb => by have := hj b hb; omega) hd (by omega) (by omega) 1 (by omega)
        exact ⟨σ', fun _ _ => h⟩
      · exact ⟨σ, fun h1 h2 => absurd ⟨h1, h2⟩ hA⟩
    exact ⟨fun σ => (this σ).choose, fun σ => (this σ).choose_spec⟩
  have M1 := fun σ a b => (hmk σ a b).1
  have M2 := fun σ a b => (hmk σ a b).2.1
  have M3 := fun σ a b => (hmk σ a b).2.2.1
  have bi : ∀ c, c < 1 ∨ n1 ≤ c → (c ∈ i) = False := fun c hc => by simp only [eq_iff_iff, iff_false]; intro h; have := hi c h; omega
  have bj : ∀ c, c < 1 ∨ n1 ≤ c → (c ∈ j) = False := fun c hc => by simp only [eq_iff_iff, iff_false]; intro h; have := hj c h; omega
  have bi2 : ∀ c, c < n1 + 1 + 1 + 1 ∨ n2 ≤ c → (c ∈ i2) = False := fun c hc => by simp only [eq_iff_iff, iff_false]; intro h; have := hi2 c h; omega
  have bj2 : ∀ c, c < n1 + 1 + 1 + 1 ∨ n2 ≤ c → (c ∈ j2) = False := fun c hc => by simp only [eq_iff_iff, iff_false]; intro h; have := hj2 c h; omega
  have q1 := bi 0 (by omega); have q2 := bi n1 (by omega); have q3 := bi n2 (by omega)
  have q4 := bj 0 (by omega); have q5 := bj n1 (by omega); have q6 := bj n2 (by omega)
  have q7 := bi2 n2 (by omega); have q8 := bj2 n2 (by omega)
  have M4 : ∀ σ, Own σ 1 v (LI xs) i → Own σ 1 u (LI ys) j → mk σ 0 = σ 0 := fun σ a b => (hmk σ a b).2.2.2 0 (by simp [q1]) (by simp [q4]) (by omega)
  have M5 : ∀ σ, Own σ 1 v (LI xs) i → Own σ 1 u (LI ys) j → mk σ n1 = σ n1 := fun σ a b => (hmk σ a b).2.2.2 n1 (by simp [q2]) (by simp [q5]) (by omega)
  have O1 : ∀ σ, Own (joinS 1 σ σ1 (i ++ j)) 1 v (LI xs) i := fun σ => ov.frame fun b hb => join_in (by have := hi b hb; omega) (List.mem_append_left _ hb)
  have O2 : ∀ σ, Own (joinS 1 σ σ1 (i ++ j)) 1 u (LI ys) j := fun σ => ou.frame fun b hb => join_in (by have := hj b hb; omega) (List.mem_append_right _ hb)
  have O3 : ∀ σ, Own (joinS (n1 + 1 + 1 + 1) σ σ2 (i2 ++ j2)) 1 v2 (LI xs) i2 := fun σ => ov2.frame fun b hb => join_in (by have := hi2 b hb; omega) (List.mem_append_left _ hb)
  have O4 : ∀ σ, Own (joinS (n1 + 1 + 1 + 1) σ σ2 (i2 ++ j2)) 1 u2 (LI ys) j2 := fun σ => ou2.frame fun b hb => join_in (by have := hj2 b hb; omega) (List.mem_append_right _ hb)
  have O5 : ∀ σ t, Own σ 1 v t i → Own (joinS (n1 + 1 + 1 + 1) σ σ2 (i2 ++ j2)) 1 v t i := fun σ t h => h.joinLow fun b hb => by have := hi b hb; omega
  have O6 : ∀ σ t, Own σ 1 u t j → Own (joinS (n1 + 1 + 1 + 1) σ σ2 (i2 ++ j2)) 1 u t j := fun σ t h => h.joinLow fun b hb => by have := hj b hb; omega
  have S1 : ∀ σ d, Own σ 1 v (LI xs) i → strip σ (d + 1) v = some (LI xs, i) := fun σ d h => h.strip (by omega)
  have S2 : ∀ σ d, Own σ 1 u (LI ys) j → strip σ (d + 1) u = some (LI ys, j) := fun σ d h => h.strip (by omega)
  have S3 : ∀ σ d, Own σ 1 v2 (LI xs) i2 → strip σ (d + 1) v2 = some (LI xs, i2) := fun σ d h => h.strip (by omega)
  have S4 : ∀ σ d, Own σ 1 u2 (LI ys) j2 → strip σ (d + 1) u2 = some (LI ys, j2) := fun σ d h => h.strip (by omega)
  have S5 : ∀ σ d, Own σ 1 v (LI (marks 1 xs.length)) i → strip σ (d + 1) v = some (LI (marks 1 xs.length), i) := fun σ d h => h.strip (by omega)
  have S6 : ∀ σ d, Own σ 1 u (LI (marks (1 + xs.length) ys.length)) j → strip σ (d + 1) u = some (LI (marks (1 + xs.length) ys.length), j) := fun σ d h => h.strip (by omega)
  have J1 : ∀ σ, joinS 1 σ σ1 (i ++ j) 0 = σ 0 := fun σ => join_lt (by omega)
  have J2 : ∀ σ, joinS (n1 + 1 + 1 + 1) σ σ2 (i2 ++ j2) 0 = σ 0 := fun σ => join_lt (by omega)
  have J3 : ∀ σ, joinS (n1 + 1 + 1 + 1) σ σ2 (i2 ++ j2) n1 = σ n1 := fun σ => join_lt (by omega)
  have G1 := fun d => ov.gather (d' := d + 1) (by omega)
  have G2 := fun d => ou.gather (d' := d + 1) (by omega)
  have G3 := fun d => ov2.gather (d' := d + 1) (by omega)
  have G4 := fun d => ou2.gather (d' := d + 1) (by omega)
  have c1 := cells_of_cell ov.cell; have c2 := cells_of_cell ou.cell; have c3 := cells_of_cell ov2.cell; have c4 := cells_of_cell ou2.cell
  have d1 := ov.cell; have d2 := ou.cell; have d3 := ov2.cell; have d4 := ou2.cell
  have ml : 3 ≤ maxLen := by decide
  have k2 := eqRat false xs ys (by omega) (by omega)
  have k3 := heldRat false 1 xs.length ys.length (by omega) (by omega) (by omega)
  have z1 : ¬(1 : Int) + (xs.length : Int) + (ys.length : Int) < 0 := by omega
  have n0 : ¬0 = n1 := by omega
  have n3 : ¬n1 = 0 := by omega
  have n4 : ¬0 = n2 := by omega
  have n5 : ¬n1 = n2 := by omega
  have n6 : ¬n2 = 0 := by omega
  have n7 : ¬n2 = n1 := by omega
  rw [fn_eq, ev_eqQ (rs := [.tmp 6]) [] rfl Try.func4 rfl rfl (by kernel_rfl) (by kernel_rfl)]
  cases hb : (inB x0 0 1000 && (inB x1 0 1000 && inB x2 1 1000)) <;> rw [hb] at k1 K1 K2 <;>
    simp (maxDischargeDepth := 9) only [go_sem, call_inl, k1, K1, K2, M1, M2, M3, M4, M5, q1, q2, q3, q4, q5, q6, q7, q8, Own.upd, O1, O2, O3, O4, O5, O6, S1, S2, S3, S4, S5, S6, J1, J2, J3, G1, G2, G3, G4, c1, c2, c3, c4, d1, d2, d3, d4, k2, k3, z1, n0, n3, n4, n5, n6, n7]
end Pure
end Go.Proofs.Ytlkpocljgikpgaa
