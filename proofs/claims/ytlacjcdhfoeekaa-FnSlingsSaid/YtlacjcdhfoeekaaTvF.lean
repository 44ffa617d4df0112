import Derived.Test.YtlacjcdhfoeekaaTvC
set_option linter.unusedSimpArgs false
set_option linter.unusedVariables false
namespace Go.Proofs.Ytlacjcdhfoeekaa
open Go Go.TV

theorem dg_one {d : Nat} (h0 : d ≠ 0) (h : d < 1000000000) : dg d = [(d : Int)] := by
  rw [dg_pos h0, Nat.div_eq_of_lt h, dg_zero, Nat.mod_eq_of_lt h]
theorem sDiv1 (n d : Nat) (hn : n < 1000000000000000000) (h0 : d ≠ 0) (hd : d < 1000000000) : fn Try.prog conv ext 187 [LI (dg n), LI (dg d)] = some (.tup [LI (dg (n / d)), LI (dg (n % d))]) := by
  have h1 := sSmall n d hn h0 hd
  have hr : n % d < d := Nat.mod_lt _ (by omega)
  have h2 := sNatOf (n % d) (by omega)
  have z1 : (0 : Int) < 1 := by decide
  have z3 : (0 : Int).toNat = 0 := id rfl
  rw [dg_one h0 hd]
  rw [fn_eq, ev_eqQ (rs := [.tmp 4, .tmp 5]) [] rfl Try.func187 rfl rfl (by kernel_rfl) (by kernel_rfl)]
  simp only [go_sem, z1, z3, h1, h2]
theorem dg_is_one (n : Nat) : (dg n = [1]) ↔ n = 1 := by
  constructor
  · intro h
    by_cases h0 : n = 0
    · subst h0; rw [dg_zero] at h; cases h
    · rw [dg_pos h0] at h
      obtain ⟨h1, h2⟩ := List.cons.inj h
      have : n / 1000000000 = 0 := Classical.byContradiction fun hn => dg_ne hn h2
      omega
  · rintro rfl; rw [dg_one (by decide) (by decide)]; rfl
theorem sLow (neg : Bool) (m n : Nat) (hm : m < 1000000000000000000) (h0 : n ≠ 0) (hn : n < 1000000000) :
    fn Try.prog conv ext 168 [Bo neg, LI (dg m), LI (dg n)] = some (.agg [Bo (neg && decide (0 < (dg (m / Nat.gcd m n)).length)), LI (dg (m / Nat.gcd m n)), LI (dg (n / Nat.gcd m n))]) := by
  have hg0 : Nat.gcd m n ≠ 0 := fun e => h0 (Nat.eq_zero_of_gcd_eq_zero_right e)
  have hgn : Nat.gcd m n ≤ n := Nat.gcd_le_right _ (by omega)
  have hyd : n / Nat.gcd m n ≠ 0 := by
    have := Nat.div_pos hgn (by omega)
    omega
  have hmx : m / Nat.gcd m n ≤ m := Nat.div_le_self _ _
  have hny : n / Nat.gcd m n ≤ n := Nat.div_le_self _ _
  have k1 := strim (dg m) (short_dg (by omega))
  have k2 := strim (dg n) (short_dg (by omega))
  rw [trim_dg] at k1 k2
  have k3 := sOne (dg n) (short_dg (by omega))
  have k4 := sGcd m n hm (by omega) h0
  have k5 := sOne (dg (Nat.gcd m n)) (short_dg (by omega))
  have k6 := sDiv1 m (Nat.gcd m n) hm hg0 (by omega)
  have k7 := sDiv1 n (Nat.gcd m n) (by omega) hg0 (by omega)
  have lx := dg_few 2 (m / Nat.gcd m n) (by omega)
  have ly := dg_few 2 (n / Nat.gcd m n) (by omega)
  have k8 := smake neg (dg (m / Nat.gcd m n)) (short_dg (by omega)) (by rw [trim_dg]; omega)
  rw [trim_dg] at k8
  have l0 : (((dg n).length : Int) == 0) = false := by rw [beq_eq_false_iff_ne]; have := app_len (dg_ne h0); omega
  have c1 : ¬(24 : Int) < ((dg (m / Nat.gcd m n)).length : Int) := by omega
  have c2 : ¬(24 : Int) < ((dg (n / Nat.gcd m n)).length : Int) := by omega
  have z1 : ¬(dg (n / Nat.gcd m n)).length = 0 := app_len (dg_ne hyd)
  have s1 : (dg (n / Nat.gcd m n)).length ≤ maxLen ∧ (dg (n / Nat.gcd m n)).length * 8 ≤ 140737488355328 := by unfold maxLen; omega
  rw [fn_eq, ev_eqQ (rs := [.cell 6 30]) [] rfl Try.func168 rfl rfl (by kernel_rfl) (by kernel_rfl)]
  by_cases h1 : n = 1
  · have hg1 : Nat.gcd m n = 1 := by rw [h1, Nat.gcd_one_right]
    simp only [hg1, Nat.div_one] at c1 c2 k8 z1 s1 ⊢
    rw [decide_eq_true ((dg_is_one n).mpr h1)] at k3
    simp only [go_sem, k1, k2, k3, k8, l0, c1, c2, z1, s1]
  · rw [decide_eq_false (mt (dg_is_one n).mp h1)] at k3
    by_cases hg1 : Nat.gcd m n = 1
    · rw [decide_eq_true ((dg_is_one _).mpr hg1)] at k5
      rw [hg1] at k4 k5
      simp only [hg1, Nat.div_one] at c1 c2 k8 z1 s1 ⊢
      simp only [go_sem, k1, k2, k3, k4, k5, k8, l0, c1, c2, z1, s1]
    · rw [decide_eq_false (mt (dg_is_one _).mp hg1)] at k5
      simp only [go_sem, k1, k2, k3, k4, k5, k6, k7, k8, l0, c1, c2, z1, s1]
def ratD (m n : Nat) : List V := [Bo false, LI (dg (m / Nat.gcd m n)), LI (dg (n / Nat.gcd m n))]
theorem sRatMake (m n : Nat) (hm : m < 1000000000000000000) (h0 : n ≠ 0) (hn : n < 1000000000) :
    fn Try.prog conv ext 133 [.agg [Bo false, LI (dg m)], .agg [Bo false, LI (dg n)]] = some (.agg (ratD m n)) := by
  have k1 := sBigIntOk false (dg m) (short_dg (by omega))
  have k2 := sBigIntOk false (dg n) (short_dg (by omega))
  have k3 := sLow false m n hm h0 hn
  rw [pb_true (natGood_dg (by omega))] at k1 k2
  unfold ratD
  rw [fn_eq, ev_eqQ (rs := [.cell 4 30]) [] rfl Try.func133 rfl rfl (by kernel_rfl) (by kernel_rfl)]
  simp only [go_sem, Bool.not_false, Bool.true_or] at k1 k2 k3
  simp only [go_sem, k1, k2, k3]
theorem sRatOf (m n : Nat) (hm : m < 1000000000000000000) (h0 : n ≠ 0) (hn : n < 1000000000) :
    fn Try.prog conv ext 91 [I m, I n] = some (.agg (ratD m n)) := by
  have k1 := sBigIntOf m (by omega)
  have k2 := sBigIntOf n (by omega)
  have k3 := sRatMake m n hm h0 hn
  unfold ratD at *
  rw [fn_eq, ev_eqQ (rs := [.cell 4 30]) [] rfl Try.func91 rfl rfl (by kernel_rfl) (by kernel_rfl)]
  simp only [go_sem, k1, k2, k3]
theorem sq_le {a b : Int} (h0 : 0 ≤ a) (h : a ≤ b) : 0 ≤ a * a ∧ a * a ≤ b * b := ⟨Int.mul_nonneg h0 h0, Int.mul_le_mul h h h0 (by omega)⟩
def slT (w half h : Int) : List V := if (inB w 0 1000 && (inB half 0 1000 && inB h 1 1000)) = true then ratD (w * w * (half * half + h * h)).toNat (4 * h * h).toNat else [Bo false, .ts [] 0, .ts [] 0]
theorem sSling (w half h : Int) : fn Try.prog conv ext 38 [I w, I half, I h] = some (.tup [.agg (slT w half h), Bo (inB w 0 1000 && (inB half 0 1000 && inB h 1 1000))]) := by
  have t1 := l01In w 0 1000
  have t2 := l01In half 0 1000
  have t3 := l01In h 1 1000
  unfold slT
  rw [fn_eq, ev_eqQ (rs := [.cell 6 30, .tmp 7]) [] rfl Try.func38 rfl rfl (by kernel_rfl) (by kernel_rfl)]
  cases hw : inB w 0 1000 with
  | false => rw [hw] at t1; simp only [go_sem, t1]
  | true =>
  cases hf : inB half 0 1000 with
  | false => rw [hw] at t1; rw [hf] at t2; simp only [go_sem, t1, t2]
  | true =>
  cases hh : inB h 1 1000 with
  | false => rw [hw] at t1; rw [hf] at t2; rw [hh] at t3; simp only [go_sem, t1, t2, t3]
  | true =>
  rw [hw] at t1; rw [hf] at t2; rw [hh] at t3
  have w1 := inB_true hw
  have f1 := inB_true hf
  have h1 := inB_true hh
  have w2 := sq_le w1.1 w1.2
  have f2 := sq_le f1.1 f1.2
  have h2 := sq_le (by omega : 0 ≤ h) h1.2
  have h2' : 0 < h * h := Int.mul_pos (by omega) (by omega)
  have p1 : 0 ≤ w * w * (half * half + h * h) := Int.mul_nonneg w2.1 (by omega)
  have p2 : w * w * (half * half + h * h) ≤ 1000000 * 2000000 := Int.mul_le_mul (by omega) (by omega) (by omega) (by omega)
  have e0 : 4 * h * h = 4 * (h * h) := Int.mul_assoc _ _ _
  have a1 := wrap_id (n := w * w) (by omega) (by omega)
  have a2 := wrap_id (n := half * half) (by omega) (by omega)
  have a3 := wrap_id (n := h * h) (by omega) (by omega)
  have a4 := wrap_id (n := half * half + h * h) (by omega) (by omega)
  have a5 := wrap_id (n := w * w * (half * half + h * h)) (by omega) (by omega)
  have b1 := wrap_id (n := 4 * h) (by omega) (by omega)
  have b2 := wrap_id (n := 4 * h * h) (by omega) (by omega)
  have k1 := sRatOf (w * w * (half * half + h * h)).toNat (4 * h * h).toNat (by omega) (by omega) (by omega)
  rw [Int.toNat_of_nonneg p1, Int.toNat_of_nonneg (by omega)] at k1
  unfold ratD at *
  simp only [go_sem, t1, t2, t3, a1, a2, a3, a4, a5, b1, b2, k1]

/-! ### The least height -/
def fitsB (w half limit : Int) (k : Nat) : Bool := decide (w * w * (half * half + ((k : Int) + 1) * ((k : Int) + 1)) ≤ 4 * ((k : Int) + 1) * ((k : Int) + 1) * limit * limit)
def leastH (w half limit : Int) : Int := if ix (fitsB w half limit) (List.range 1000) < 0 then -1 else ix (fitsB w half limit) (List.range 1000) + 1
structure Wraps (w half limit h : Int) : Prop where
  a1 : IntKind.i64.wrap (w * w) = w * w
  a2 : IntKind.i64.wrap (half * half) = half * half
  a3 : IntKind.i64.wrap (h * h) = h * h
  a4 : IntKind.i64.wrap (half * half + h * h) = half * half + h * h
  a5 : IntKind.i64.wrap (w * w * (half * half + h * h)) = w * w * (half * half + h * h)
  b1 : IntKind.i64.wrap (4 * h) = 4 * h
  b2 : IntKind.i64.wrap (4 * h * h) = 4 * h * h
  b3 : IntKind.i64.wrap (4 * h * h * limit) = 4 * h * h * limit
  b4 : IntKind.i64.wrap (4 * h * h * limit * limit) = 4 * h * h * limit * limit
theorem wraps {w half limit h : Int} (w1 : 0 ≤ w ∧ w ≤ 1000) (f1 : 0 ≤ half ∧ half ≤ 1000) (l1 : 0 ≤ limit ∧ limit ≤ 1000) (h1 : 1 ≤ h ∧ h ≤ 1000) : Wraps w half limit h := by
  have w2 := sq_le w1.1 w1.2
  have f2 := sq_le f1.1 f1.2
  have h2 := sq_le (by omega : 0 ≤ h) h1.2
  have p1 : 0 ≤ w * w * (half * half + h * h) := Int.mul_nonneg w2.1 (by omega)
  have p2 : w * w * (half * half + h * h) ≤ 1000000 * 2000000 := Int.mul_le_mul (by omega) (by omega) (by omega) (by omega)
  have e0 : 4 * h * h = 4 * (h * h) := Int.mul_assoc _ _ _
  have q0 : 0 ≤ 4 * h * h := by omega
  have q1 : 0 ≤ 4 * h * h * limit := Int.mul_nonneg q0 l1.1
  have q2 : 4 * h * h * limit ≤ 4000000 * 1000 := Int.mul_le_mul (by omega) l1.2 l1.1 (by omega)
  have q3 : 0 ≤ 4 * h * h * limit * limit := Int.mul_nonneg q1 l1.1
  have q4 : 4 * h * h * limit * limit ≤ 4000000 * 1000 * 1000 := Int.mul_le_mul q2 l1.2 l1.1 (by omega)
  exact ⟨wrap_id (by omega) (by omega), wrap_id (by omega) (by omega), wrap_id (by omega) (by omega), wrap_id (by omega) (by omega), wrap_id (by omega) (by omega), wrap_id (by omega) (by omega), wrap_id (by omega) (by omega), wrap_id (by omega) (by omega), wrap_id (by omega) (by omega)⟩
theorem range_get {k : Nat} (h : k < (List.range 1000).length) : (List.range 1000)[k] = k := List.getElem_range _
theorem least_at {w half limit : Int} {k : Nat} (hk : k < 1000) (hl : ∀ i, i < k → fitsB w half limit i = false) (h : fitsB w half limit k = true) : leastH w half limit = (k : Int) + 1 := by
  have hk' : k < (List.range 1000).length := by rw [List.length_range]; exact hk
  have := ix_at (p := fitsB w half limit) hk' (fun i hi hik => by rw [range_get]; exact hl i hik) (by rw [range_get]; exact h)
  unfold leastH
  rw [this, if_neg (by omega)]
theorem least_none {w half limit : Int} (hl : ∀ i, i < 1000 → fitsB w half limit i = false) : leastH w half limit = -1 := by
  have := ix_none (p := fitsB w half limit) (xs := List.range 1000) (fun i hi => by rw [range_get]; exact hl i (by rw [List.length_range] at hi; exact hi))
  unfold leastH
  rw [this, if_pos (by decide)]
def lhR (w half limit : Int) : Int := if (inB w 0 1000 && (inB half 0 1000 && inB limit 0 1000)) = true then leastH w half limit else -1
theorem isWidth (n : Int) : fn Try.prog conv ext 55 [I n] = some (Bo (inB n (0) 1000)) := by
  unfold inB
  rw [fn_eq, ev_eqQ (rs := [.tmp 2]) [] rfl Try.func55 rfl rfl (by kernel_rfl) (by kernel_rfl)]
  by_cases h : 0 ≤ n <;> simp only [go_sem, h]
theorem isHeight (n : Int) : fn Try.prog conv ext 58 [I n] = some (Bo (inB n (1) 1000)) := by
  unfold inB
  rw [fn_eq, ev_eqQ (rs := [.tmp 2]) [] rfl Try.func58 rfl rfl (by kernel_rfl) (by kernel_rfl)]
  by_cases h : 1 ≤ n <;> simp only [go_sem, h]
theorem iLeast (w half limit : Int) : fn Try.prog conv ext 14 [I w, I half, I limit] = some (I (lhR w half limit)) := by
  have t1 := isLimit w
  have t2 := isWidth half
  have t3 := isLimit limit
  unfold lhR
  rw [fn_eq, ev_eqQ (rs := [.tmp 6]) [] rfl Try.func14 rfl rfl (by kernel_rfl) (by kernel_rfl)]
  cases hw : inB w 0 1000 with
  | false => rw [hw] at t1; (simp only [go_sem, t1]) <;> rfl
  | true =>
  cases hf : inB half 0 1000 with
  | false => rw [hw] at t1; rw [hf] at t2; (simp only [go_sem, t1, t2]) <;> rfl
  | true =>
  cases hh : inB limit 0 1000 with
  | false => rw [hw] at t1; rw [hf] at t2; rw [hh] at t3; (simp only [go_sem, t1, t2, t3]) <;> rfl
  | true =>
  rw [hw] at t1; rw [hf] at t2; rw [hh] at t3
  simp only [go_sem, t1, t2, t3]
  generalize hL : evLoopI _ _ = y
  obtain ⟨r, rfl, hr⟩ := count_rule hL 1000 (fun k st => st.T 0 = I w ∧ st.T 1 = I half ∧ st.T 2 = I limit ∧ st.T 7 = I ((k : Int) + 1) ∧ k ≤ 1000 ∧ ∀ i, i < k → fitsB w half limit i = false)
    (fun r => (∃ T σ nx, r = (.exit 0, ⟨T, σ, nx⟩) ∧ leastH w half limit = -1) ∨ (∃ T σ nx, r = (.ret, ⟨T, σ, nx⟩) ∧ T 6 = I (leastH w half limit))) (by
      clear hL
      rintro k ⟨T, σ, nx⟩ hlt ⟨h0, h1, h2, h7, hk, hi⟩
      simp only at h0 h1 h2 h7
      obtain ⟨a1, a2, a3, a4, a5, b1, b2, b3, b4⟩ := wraps (inB_true hw) (inB_true hf) (inB_true hh) (h := (k : Int) + 1) (by omega)
      have f1 : (k : Int) + 1 ≤ 1000 := by omega
      have f2 := wrap_id (n := (k : Int) + 1 + 1) (by omega) (by omega)
      cases hb : fitsB w half limit k with
      | true =>
        have hb' := of_decide_eq_true hb
        refine .inr ⟨_, by simp only [go_sem, h0, h1, h2, h7, f1, a1, a2, a3, a4, a5, b1, b2, b3, b4, hb']; rfl, by simp, .inr ⟨_, _, _, rfl, ?_⟩⟩
        simp only [go_sem]
        rw [least_at hlt hi hb]
      | false =>
        have hb' := of_decide_eq_false hb
        refine .inl ⟨_, by simp only [go_sem, h0, h1, h2, h7, f1, f2, a1, a2, a3, a4, a5, b1, b2, b3, b4, hb']; rfl, ?_⟩
        simp only [go_sem, h0, h1, h2]
        refine ⟨rfl, by omega, fun i hik => ?_⟩
        rcases Nat.lt_or_eq_of_le (Nat.le_of_lt_succ hik) with q | q
        · exact hi i q
        · subst q; exact hb) (by
      clear hL
      rintro ⟨T, σ, nx⟩ ⟨h0, h1, h2, h7, hk, hi⟩
      simp only at h7
      have f1 : ¬(1000 : Int) + 1 ≤ 1000 := by decide
      exact ⟨_, by simp only [go_sem, h7, f1]; rfl, by simp, .inl ⟨_, _, _, rfl, least_none hi⟩⟩) (by
      simp only [go_sem]
      exact ⟨rfl, fun i h => absurd h (Nat.not_lt_zero _)⟩)
  rcases hr with ⟨T, σ, nx, rfl, h⟩ | ⟨T, σ, nx, rfl, h⟩
  · simp only [go_sem, h]
  · simp only [go_sem, h]
theorem slT_len (w half h : Int) : (slT w half h).length = 3 := by unfold slT ratD; split <;> rfl
theorem slT_cells (w half h : Int) : (slT w half h).all isCell = true := by unfold slT ratD; split <;> rfl
theorem slT_patch (w half h : Int) (a b c : V) : patch [a, b, c] 0 (slT w half h) = slT w half h := by
  unfold slT ratD; split <;> rfl
theorem sLeast (w half limit : Int) : fn Try.prog conv ext 13 [I w, I half, I limit] = some (I (lhR w half limit)) := by
  have t3 := l01In limit 0 1000
  unfold lhR
  rw [fn_eq, ev_eqQ (rs := [.tmp 6]) [] rfl Try.func13 rfl rfl (by kernel_rfl) (by kernel_rfl)]
  cases hh : inB limit 0 1000 with
  | false =>
    rw [hh] at t3
    have : (inB w 0 1000 && (inB half 0 1000 && false)) = false := by simp
    rw [this]
    (simp only [go_sem, t3]) <;> rfl
  | true =>
  rw [hh] at t3
  simp only [go_sem, t3]
  generalize hL : evLoopI _ _ = y
  obtain ⟨r, rfl, hr⟩ := count_rule hL 1000 (fun k st => st.T 0 = I w ∧ st.T 1 = I half ∧ st.T 2 = I limit ∧ st.T 7 = I ((k : Int) + 1) ∧ (k = 0 ∨ (inB w 0 1000 && inB half 0 1000) = true) ∧ ∀ i, i < k → fitsB w half limit i = false)
    (fun r => (∃ T σ nx, r = (.exit 0, ⟨T, σ, nx⟩) ∧ (if (inB w 0 1000 && inB half 0 1000) = true then leastH w half limit else -1) = -1) ∨ (∃ T σ nx, r = (.ret, ⟨T, σ, nx⟩) ∧ T 6 = I (if (inB w 0 1000 && inB half 0 1000) = true then leastH w half limit else -1))) (by
      clear hL
      rintro k ⟨T, σ, nx⟩ hlt ⟨h0, h1, h2, h7, hk, hi⟩
      simp only at h0 h1 h2 h7
      have s1 := sSling w half ((k : Int) + 1)
      have hin : inB ((k : Int) + 1) 1 1000 = true := by unfold inB; rw [decide_eq_true (by omega), decide_eq_true (by omega)]; rfl
      rw [hin] at s1
      have g1 := slT_len w half ((k : Int) + 1)
      have g2 := slT_cells w half ((k : Int) + 1)
      have g3 := slT_patch w half ((k : Int) + 1)
      generalize slT w half ((k : Int) + 1) = ts at *
      have f1 : (k : Int) + 1 ≤ 1000 := by omega
      have f2 := wrap_id (n := (k : Int) + 1 + 1) (by omega) (by omega)
      cases hok : (inB w 0 1000 && inB half 0 1000) with
      | false =>
        have hok' : (inB w 0 1000 && (inB half 0 1000 && true)) = false := by rw [Bool.and_true]; exact hok
        rw [hok'] at s1
        exact .inr ⟨_, by simp only [go_sem, h0, h1, h2, h7, f1, s1, g1, g2, g3]; rfl, by simp, .inr ⟨_, _, _, rfl, by simp only [go_sem]⟩⟩
      | true =>
        have hok' : (inB w 0 1000 && (inB half 0 1000 && true)) = true := by rw [Bool.and_true]; exact hok
        rw [hok'] at s1
        rw [Bool.and_eq_true] at hok
        obtain ⟨a1, a2, a3, a4, a5, b1, b2, b3, b4⟩ := wraps (inB_true hok.1) (inB_true hok.2) (inB_true hh) (h := (k : Int) + 1) (by omega)
        cases hb : fitsB w half limit k with
        | true =>
          have hb' := of_decide_eq_true hb
          refine .inr ⟨_, by simp only [go_sem, h0, h1, h2, h7, f1, s1, g1, g2, g3, a1, a2, a3, a4, a5, b1, b2, b3, b4, hb']; rfl, by simp, .inr ⟨_, _, _, rfl, ?_⟩⟩
          rw [if_pos rfl, least_at hlt hi hb]
          simp only [go_sem]
        | false =>
          have hb' := of_decide_eq_false hb
          refine .inl ⟨_, by simp only [go_sem, h0, h1, h2, h7, f1, f2, s1, g1, g2, g3, a1, a2, a3, a4, a5, b1, b2, b3, b4, hb']; rfl, ?_⟩
          simp only [go_sem, h0, h1, h2]
          refine ⟨rfl, .inr (by trivial), fun i hik => ?_⟩
          rcases Nat.lt_or_eq_of_le (Nat.le_of_lt_succ hik) with q | q
          · exact hi i q
          · subst q; exact hb) (by
      clear hL
      rintro ⟨T, σ, nx⟩ ⟨h0, h1, h2, h7, hk, hi⟩
      simp only at h7
      have f1 : ¬(1000 : Int) + 1 ≤ 1000 := by decide
      refine ⟨_, by simp only [go_sem, h7, f1]; rfl, by simp, .inl ⟨_, _, _, rfl, ?_⟩⟩
      split
      · exact least_none hi
      · rfl) (by
      simp only [go_sem]
      exact ⟨rfl, .inl trivial, fun i h => absurd h (Nat.not_lt_zero _)⟩)
  rcases hr with ⟨T, σ, nx, rfl, h⟩ | ⟨T, σ, nx, rfl, h⟩
  · rw [h]; simp only [go_sem]
  · simp only [go_sem, h]
end Go.Proofs.Ytlacjcdhfoeekaa
